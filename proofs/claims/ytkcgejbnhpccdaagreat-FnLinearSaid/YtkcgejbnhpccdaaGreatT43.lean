import Derived.Test.YtkcgejbnhpccdaaGreatT29
import Derived.Test.YtkcgejbnhpccdaaGreatT03
import Derived.Test.YtkcgejbnhpccdaaGreatT35
import Derived.Deep.RegionWith
import Derived.Deep.RegionHeld3
set_option linter.unusedSimpArgs false
set_option linter.unusedVariables false
namespace Go.Proofs.YtkcgejbnhpccdaaGreat
open Go.RowKit
structure Rn (m : XMod) (f : XFunc) : Prop where
  ok : funcOk f m.funcs.length = true
  phi : phisOk f = true
  call : ∀ b ∈ f.blocks, ∀ i ∈ b.insts, i.op = 26 → i.args.length = (m.funcs.getD i.imm.toNat func0).params.length
theorem term_parts {ids blocks : Int} {t : XTerm} (h : termOk ids blocks t = true) : (t.kind = 1 ∧ 0 ≤ t.a ∧ t.a < ids) ∨ (t.kind = 2 ∧ 0 ≤ t.x ∧ t.x < blocks) ∨ (t.kind = 3 ∧ (0 ≤ t.a ∧ t.a < ids) ∧ (0 ≤ t.x ∧ t.x < blocks) ∧ 0 ≤ t.y ∧ t.y < blocks) ∨ t.kind = 4 := by
  unfold termOk isIdB inR at h
  split at h
  · rename_i hk
    simp at hk h
    left; omega
  split at h
  · rename_i hk
    simp at hk h
    right; left; omega
  split at h
  · rename_i hk
    simp at hk h
    right; right; left; omega
  split at h
  · rename_i hk
    simp at hk
    right; right; right; exact hk
  · cases h
theorem pred_of (f : XFunc) (b : Nat) (hb : b < f.blocks.length) (to : Int) (ht : to ∈ leadsTo f.blocks[b].term) : (b : Int) ∈ predsOf f to := by
  unfold predsOf
  rw [List.mem_filter, upTo_mem]
  refine ⟨by omega, ?_⟩
  rw [hasI_iff, blkAt_nat f b hb]
  exact ht
theorem goTo_leads {t : XTerm} (vals : List Int) (h : t.kind = 2 ∨ t.kind = 3) : goTo t vals ∈ leadsTo t := by
  unfold goTo leadsTo
  rcases h with h | h
  · simp [h]
  · rw [h]
    by_cases hv : vl vals t.a = 0
    · simp [hv]
    · simp [hv]
theorem instsR_cons (call : Callee) (f : XFunc) (fuel : Nat) (l : List XInst) (j : Nat) (hj : j < l.length) (id : Nat) (vals : List Int) (s : RS) : instsR call f fuel (l.drop j) id vals s =
    if s.steps = fuel then (4, vals, s)
    else if (doI call f l[j] vals ⟨s.mem, s.out, s.steps + 1⟩).1.2 = 0 then
      instsR call f fuel (l.drop (j + 1)) (id + 1) (vals.set id (doI call f l[j] vals ⟨s.mem, s.out, s.steps + 1⟩).1.1) (doI call f l[j] vals ⟨s.mem, s.out, s.steps + 1⟩).2
    else ((doI call f l[j] vals ⟨s.mem, s.out, s.steps + 1⟩).1.2, vals, (doI call f l[j] vals ⟨s.mem, s.out, s.steps + 1⟩).2) := by
  rw [List.drop_eq_getElem_cons hj]; rfl
theorem step_no {mv : Value} {fuel g gm lo : Nat} {d : Int} {s : RS} {A : Option Addr} {c : Nat} {W : World} (h : SI mv fuel g gm lo d s A c W) (hf : fuel ≤ 2000) (hs : s.steps = fuel) : Calls Tryz.prog 96 #[.pointer (some ⟨g, 0, none⟩)] W fun e w' => e = .returned (.bool false) ∧ SI mv fuel g gm lo d s A c w' ∧ Off g gm (blk A) W w' :=
  (c_stepR mv fuel g gm lo d s A c W h hf (by omega)).mono fun e w' ⟨h1, h2, h3⟩ => by rw [if_pos hs] at h2; exact ⟨by rw [h1, decide_eq_false (by simpa using hs)], h2, h3⟩
theorem step_yes {mv : Value} {fuel g gm lo : Nat} {d : Int} {s : RS} {A : Option Addr} {c : Nat} {W : World} (h : SI mv fuel g gm lo d s A c W) (hf : fuel ≤ 2000) (hs : s.steps ≤ fuel) (hn : ¬ s.steps = fuel) : Calls Tryz.prog 96 #[.pointer (some ⟨g, 0, none⟩)] W fun e w' => e = .returned (.bool true) ∧ SI mv fuel g gm lo d ⟨s.mem, s.out, s.steps + 1⟩ A c w' ∧ Off g gm (blk A) W w' :=
  (c_stepR mv fuel g gm lo d s A c W h hf hs).mono fun e w' ⟨h1, h2, h3⟩ => by rw [if_neg hn] at h2; exact ⟨by rw [h1, decide_eq_true hn], h2, h3⟩
theorem ROk.step {fuel : Nat} {s : RS} (h : ROk fuel s) (hn : ¬ s.steps = fuel) : ROk fuel ⟨s.mem, s.out, s.steps + 1⟩ := ⟨h.mem, h.byt, h.out, by have := h.steps; show s.steps + 1 ≤ fuel; omega⟩
def fuelLeft (g fuel : Nat) (w : World) : Nat := fuel + 1 - (intOf ((w.cell? ⟨g, 4, none⟩).getD undef)).toNat
set_option maxRecDepth 20000 in
set_option maxHeartbeats 16000000 in
theorem c_runR (m : XMod) (Am : Option Addr) (cm : Nat) (fuel g gm lo : Nat) (B : World) (hm : KMod lm B m [.slice Am m.funcs.length cm]) (hfu : fuel ≤ 2000) (hgB : B.heap.size ≤ g ∧ B.heap.size ≤ gm ∧ B.heap.size ≤ lo) (hrn : ∀ f ∈ m.funcs, Rn m f) (hsh : shapeOk m = true) :
    ∀ (dn : Nat) (d : Int), d = 6 - dn → dn ≤ 6 → RunH (callR m fuel dn) m (.slice Am m.funcs.length cm) fuel g gm lo d B := by
  intro dn
  induction dn with
  | zero =>
    intro d hd _ k args s A c cf va Wb hk hs hx hal hS hf hva hvg hBW
    obtain rfl : d = 6 := by omega
    generalize m.funcs.getD k.toNat func0 = f at *
    obtain ⟨v1, v2, rfl, hp, hb'⟩ := hf
    obtain ⟨A1, c1, rfl, -, -, -⟩ := hp.sm
    obtain ⟨A2, c2, rfl, -, -, -⟩ := hb'.sm
    obtain ⟨cM, k0, k1, k2, k3, k4, k5, kf, kg, kgm, kne⟩ := hS.cells
    have hS' := Hd.mk hS
    have hbl : Hd (∀ o o', Below Wb.heap.size Wb ((Wb.alloc o).alloc o')) := ⟨fun o o' => ((Below.refl Wb.heap.size Wb).al (Nat.le_refl _) o).al (by simp) o'⟩
    clear hS kf hp hb' hvg hgB hrn hm hal hx hs hva hBW hk hsh hfu hd k0 k1 k2 k3 k4 kgm kne
    go_enter_defers Tryz.func73, Tryz.ntmps73
    go_wp2
    exact ⟨_, results_tmp2 rfl _ _ _, A, c, rfl, hS'.out.mv (hbl.out _ _), Off.of (hbl.out _ _), .inl rfl⟩
  | succ dn ih =>
    intro d hd hdn k args s A0 c0 cf va Wb hk hs hx hal hS hf hva hvg hBW
    have H := Hd.mk (ih (d + 1) (by omega) (by omega))
    clear ih
    have hd5 : 0 ≤ d ∧ d ≤ 5 := by omega
    have hki : k.toNat < m.funcs.length := by omega
    have hfm : Hd (m.funcs.getD k.toNat func0 ∈ m.funcs) := ⟨by rw [List.getD_eq_getElem?_getD, List.getElem?_eq_getElem hki]; exact List.getElem_mem hki⟩
    have hr := Hd.mk (hrn _ hfm.out)
    have hcl := Hd.mk (callR_ok hsh fuel dn)
    generalize hD : callR m fuel (dn + 1) k args s = D
    have hD' := Hd.mk hD
    clear hD
    unfold callR at hD'
    generalize callR m fuel dn = call at *
    generalize m.funcs.getD k.toNat func0 = f at *
    clear hfm hrn hki
    have hfo := func_fo hr.out.ok
    have hc60 := hfo.2.1
    have hpc : (f.params.length : Int) ≤ countOf f := by unfold countOf; exact countIn_le _ _
    have hfo' := Hd.mk hfo
    have hn1 := hfo.1.2.1
    have hf' := Hd.mk hf
    obtain ⟨n, hn⟩ : ∃ n : Nat, (n : Int) = countOf f := ⟨(countOf f).toNat, by omega⟩
    have hn' := Hd.mk hn
    have hnt : Hd ((countOf f).toNat = n) := ⟨by omega⟩
    have hco := fun W (hW : Below B.heap.size B W) => c_CountOf f cf W (KM.mv hf'.out hW)
    rw [← hn] at hco
    have hn60 : n ≤ 60 := by omega
    have hpn : f.params.length ≤ n := by omega
    clear hn hpc
    obtain ⟨v1, v2, rfl, hp, hb'⟩ := hf
    obtain ⟨A1, c1, rfl, -, -, -⟩ := hp.sm
    obtain ⟨A2, c2, rfl, hcap, hl2, hb0⟩ := hb'.sm
    obtain ⟨Av, cv, rfl, hcva, hlva, -⟩ := hva.sm
    clear hp hb'
    obtain ⟨cM, k0, k1, k2, k3, k4, k5, kf, kg, kgm, kne⟩ := hS.cells
    have kf5 := kf 5
    obtain ⟨Wa, hWa⟩ : ∃ Wa : World, Wa = Wb.setCell ⟨g, 5, none⟩ (.int .i64 (d + 1)) := ⟨_, rfl⟩
    have hza : Wa.heap.size = Wb.heap.size := by rw [hWa, setCell_size]
    have hSa : SI (.slice Am m.funcs.length cm) fuel g gm lo (d + 1) s A0 c0 Wa := by rw [hWa]; exact hS.setDeep (d + 1)
    have hOa : Off g gm (blk A0) Wb Wa := by rw [hWa]; exact (Off.refl _ _ _ _).set (.inl rfl) _
    obtain ⟨W1, hW1⟩ : ∃ W1 : World, W1 = (Wa.alloc (.cells #[.pointer (some ⟨g, 0, none⟩)] 101)).alloc (.cells #[.slice A1 f.params.length c1, .int .i64 f.ret, .slice A2 f.blocks.length c2] 35) := ⟨_, rfl⟩
    have hBa : Below Wa.heap.size Wa W1 := by rw [hW1]; exact ((Below.refl Wa.heap.size Wa).al (Nat.le_refl _) _).al (by simp) _
    have hz1 : W1.heap.size = Wb.heap.size + 2 := by rw [hW1, ← hza]; simp
    have hq0 : W1.heap[Wb.heap.size]? = some (.cells #[.pointer (some ⟨g, 0, none⟩)] 101 (0, 0)) := by rw [hW1]; exact (Below.heap_alloc _ _ _ (by simp; omega)).trans (heap_new _ _ _ _ hza.symm)
    have hq1 : W1.heap[Wb.heap.size + 1]? = some (.cells #[.slice A1 f.params.length c1, .int .i64 f.ret, .slice A2 f.blocks.length c2] 35 (0, 0)) := by rw [hW1]; exact heap_new _ _ _ _ (by simp; omega)
    have hS1 : Hd (SI (.slice Am m.funcs.length cm) fuel g gm lo (d + 1) s A0 c0 W1) := ⟨hSa.mv hBa⟩
    have hO1 : Hd (Off g gm (blk A0) Wb W1) := ⟨hOa.then hBa⟩
    have hk0 : Hd (Kp g gm (blk A0) Wb.heap.size (some (.cells #[.pointer (some ⟨g, 0, none⟩)] 101 (0, 0))) W1) := ⟨⟨hS.fresh (Nat.le_refl _) (by omega), hq0⟩⟩
    have hk1 : Hd (Kp g gm (blk A0) (Wb.heap.size + 1) (some (.cells #[.slice A1 f.params.length c1, .int .i64 f.ret, .slice A2 f.blocks.length c2] 35 (0, 0))) W1) := ⟨⟨hS.fresh (by omega) (by omega), hq1⟩⟩
    have hl1 : Hd (Below B.heap.size B W1) := ⟨hBW.trans (hO1.out.below hgB.1 hgB.2.1 (fun b hb => Nat.le_trans hgB.2.2 (hS.blk b hb).1) hBW.size)⟩
    have hblk := Hd.mk fun b hb => (hS.blk b hb)
    have hBs := hBW.size
    have hWa' := Hd.mk hWa
    have hW1' := Hd.mk hW1
    have hva1 := Hd.mk ((show RI lm Wa _ args by rw [hWa]; exact RI.set hva hvg).mv hBa)
    have d6 : (d == 6) = false := beqF (by omega)
    have ew : IntKind.i64.wrap (d + 1) = d + 1 := IntWalk.i64_in _ (by omega)
    obtain ⟨y0c, y0⟩ := hk0.out.cells
    obtain ⟨y1c, y1⟩ := hk1.out.cells
    have b00 := y0c 0
    have b10 := y1c 0
    have b11 := y1c 1
    have b12 := y1c 2
    simp at b00 b10 b11 b12
    have hm' := Hd.mk hm
    have hx' := Hd.mk hx
    have hs' := Hd.mk hs
    have hal' := Hd.mk hal
    have hgB' := Hd.mk hgB
    have hsh' := Hd.mk hsh
    have hdr := Hd.mk (show 1 ≤ d + 1 ∧ d + 1 ≤ 7 from ⟨by omega, by omega⟩)
    have hmf : ∀ (fn : Fn) (first cap : Array Value) (w : World), (Instr.makeFunc fn first cap).run Tryz.prog w = .ok (.func fn first cap) w := fun _ _ _ _ => rfl
    have hmk := fun W => mk_run 24 2 (.int .i64 0) 1 8 n Tryz.underlying24 infoI (by omega) (by omega) W
    rw [Nat.mul_one] at hmk
    simp only [Value.cells] at hmk
    have hmc : Hd (madeCells #[.int .i64 0] n = ((List.replicate n (0 : Int)).map (Value.int .i64)).toArray) := ⟨Array.toList_inj.1 (by rw [madeInts])⟩
    generalize madeCells #[.int .i64 0] n = mc at *
    clear hd hS hBa hvg hWa hW1 hSa hOa hza kf hq0 hq1 y0c y1c hva hm hx hs hal hgB hsh hBW hfo k1 k2 k3 k4 k0
    go_enter_defers Tryz.func73, Tryz.ntmps73
    go_wp2_with fail
    rw [← hWa'.out, ← hW1'.out]
    clear k5 kf5
    have henv : ∀ w2 : World, Below W1.drew.heap.size W1.drew w2 → Hd (Env (.slice Am m.funcs.length cm) fuel g gm lo (d + 1) B (.slice A1 f.params.length c1) (.slice A2 f.blocks.length c2) f.ret (w2.heap.size + 1) w2.heap.size n Wb.heap.size (Wb.heap.size + 1) A0 Wb (List.replicate n 0) s A0 c0 ((w2.alloc (.cells mc 2)).alloc (.cells #[.slice A1 f.params.length c1, .int .i64 f.ret, .slice A2 f.blocks.length c2, .slice (some ⟨w2.heap.size, 0, none⟩) n n] 127)) ∧ RI lm ((w2.alloc (.cells mc 2)).alloc (.cells #[.slice A1 f.params.length c1, .int .i64 f.ret, .slice A2 f.blocks.length c2, .slice (some ⟨w2.heap.size, 0, none⟩) n n] 127)) (.slice Av args.length cv) args) := by
      intro w2 hb2
      have hbw : Below W1.heap.size W1 w2 := ⟨hb2.os, hb2.tape, hb2.output, hb2.size, hb2.block⟩
      have hb3 := hbw.al (show W1.heap.size ≤ w2.heap.size from hbw.size) (.cells mc 2)
      have hb4 := hb3.al (by simp; have := hbw.size; omega) (.cells #[.slice A1 f.params.length c1, .int .i64 f.ret, .slice A2 f.blocks.length c2, .slice (some ⟨w2.heap.size, 0, none⟩) n n] 127)
      have hs2 := hbw.size
      refine ⟨⟨hS1.out.mv hb4, ⟨heap_new _ _ _ _ (by simp), by rw [Below.heap_alloc _ _ _ (by simp), hmc.out]; exact heap_new _ _ _ _ rfl, by omega⟩, ⟨by simp, fun i hi => by simp⟩, hs'.out, hk0.out.below hb4, hk1.out.below hb4, hS1.out.fresh (by omega) (by simp), hS1.out.fresh (by omega) (by simp; omega), hO1.out.then hb4, .inl rfl, hl1.out.then hb4, by omega, by omega, hgB'.out, by omega, hBs⟩, hva1.out.mv hb4⟩
    have hl1d : Below B.heap.size B W1.drew := hl1.out.drew
    refine wp_via (fun a a' W => ∃ (u31 u32 u33 u34 u35 : Value) (gx gv : Nat), a' = (((((((a.put (some 31) u31).put (some 32) u32).put (some 33) u33).put (some 34) u34).put (some 35) u35).put (some 36) (.pointer (some ⟨gx, 0, none⟩))).put (some 8) (.pointer (some ⟨gx, 0, none⟩))) ∧ Hd (Env (.slice Am m.funcs.length cm) fuel g gm lo (d + 1) B (.slice A1 f.params.length c1) (.slice A2 f.blocks.length c2) f.ret gx gv n Wb.heap.size (Wb.heap.size + 1) A0 Wb (List.replicate n 0) s A0 c0 W ∧ RI lm W (.slice Av args.length cv) args)) ?_ ?_
    · go_region_held3 (fun W => W.cell? ⟨Wb.heap.size + 1, 0, none⟩ = some (.slice A1 f.params.length c1) ∧ W.cell? ⟨Wb.heap.size + 1, 1, none⟩ = some (.int .i64 f.ret) ∧ W.cell? ⟨Wb.heap.size + 1, 2, none⟩ = some (.slice A2 f.blocks.length c2))
        (first | exact ⟨b10, b11, b12⟩ | exact ⟨q0, q1, q2⟩ | exact ⟨(World.cell?_alloc_past _ _ _ (by first | omega | (simp; done) | (simp; omega))).trans q0, (World.cell?_alloc_past _ _ _ (by first | omega | (simp; done) | (simp; omega))).trans q1, (World.cell?_alloc_past _ _ _ (by first | omega | (simp; done) | (simp; omega))).trans q2⟩ | exact ⟨(World.cell?_alloc_past _ _ _ (by first | omega | (simp; done) | (simp; omega))).trans ((World.cell?_alloc_past _ _ _ (by first | omega | (simp; done) | (simp; omega))).trans q0), (World.cell?_alloc_past _ _ _ (by first | omega | (simp; done) | (simp; omega))).trans ((World.cell?_alloc_past _ _ _ (by first | omega | (simp; done) | (simp; omega))).trans q1), (World.cell?_alloc_past _ _ _ (by first | omega | (simp; done) | (simp; omega))).trans ((World.cell?_alloc_past _ _ _ (by first | omega | (simp; done) | (simp; omega))).trans q2)⟩)
        ((go_at_call 94; refine (hco _ hl1d).mono ?_; rintro e w2 ⟨rfl, hb2⟩; have hE2 := henv w2 hb2; have q0 := (bat hb2 (Wb.heap.size + 1) y1 0).trans b10; have q1 := (bat hb2 (Wb.heap.size + 1) y1 1).trans b11; have q2 := (bat hb2 (Wb.heap.size + 1) y1 2).trans b12; have hz2 := hb2.size; have hz2' : W1.heap.size ≤ w2.heap.size := hz2; clear hb2))
      all_goals exact Exists.intro _ (Exists.intro _ (Exists.intro _ (Exists.intro _ (Exists.intro _ (Exists.intro _ (Exists.intro _ ⟨rfl, hE2⟩))))))
    rintro a' Wf ⟨u31, u32, u33, u34, u35, gx, gv, rfl, hE⟩
    simp only [Act.put, List.setIfInBounds_toArray, List.set_cons_zero, List.set_cons_succ]
    have hFf := Hd.mk hE.out.1.fr
    have hvaf := Hd.mk hE.out.2
    have hfit : Hd (0 + args.length ≤ (List.replicate n (0 : Int)).length) := ⟨by have := hal'.out; simp; omega⟩
    have hlen0 : Hd (args.length ≤ n) := ⟨by have := hal'.out; omega⟩
    obtain ⟨z0, z1, z2, z3, zx, zv⟩ := hFf.out.cells
    clear b10 b11 b12 b00 hmk hco
    go_wp2_with (refine copy_I (o := ⟨some 42, _, _, _, _, _⟩) rfl _ _ rfl _ _ _ rfl _ _ _ rfl args hvaf.out gv 0 (List.replicate n 0) hFf.out.2.1 hlen0.out (fun _ => rfl) hfit.out ?_; intro w7 hg7 ho7)
    have hE7 : Hd (Env (.slice Am m.funcs.length cm) fuel g gm lo (d + 1) B (.slice A1 f.params.length c1) (.slice A2 f.blocks.length c2) f.ret gx gv n Wb.heap.size (Wb.heap.size + 1) A0 Wb (vals0 f args) s A0 c0 w7) := ⟨hE.out.1.far ho7.out ⟨(ho7.out.block gx zx hFf.out.2.2 hFf.out.2.2 (by simp)).trans hFf.out.1, by unfold vals0; rw [hnt.out]; exact hg7.out, hFf.out.2.2⟩ (by have := vals0_ok f args hx'.out; rwa [hnt.out] at this)⟩
    clear z0 z1 z2 z3 zx zv hFf hvaf hfit hlen0 hg7 ho7 hE hva1 hS1 hO1 hk0 hk1 hl1 hblk
    go_loopw [9] (fun s9 wr => ∃ (k b : Nat) (vals : List Int) (s' : RS) (A : Option Addr) (c : Nat), s9 = .int .i64 b ∧ b < f.blocks.length ∧ fuel + 1 - s'.steps ≤ k ∧ Hd (blocksR call f fuel k b vals s' = D) ∧ Hd (Env (.slice Am m.funcs.length cm) fuel g gm lo (d + 1) B (.slice A1 f.params.length c1) (.slice A2 f.blocks.length c2) f.ret gx gv n Wb.heap.size (Wb.heap.size + 1) A0 Wb vals s' A c wr)) (fun _ wr => fuelLeft g fuel wr)
    case atStart => exact ⟨fuel + 1 - s.steps, 0, vals0 f args, s, A0, c0, rfl, by omega, Nat.le_refl _, hD', hE7⟩
    case round =>
      clear hD' hE7
      obtain ⟨k, b, vals, s1, Ao, co, rfl, hb, hk, hD, hE⟩ := hrel
      obtain ⟨wo, rfl⟩ : ∃ wo : World, wo = wr := ⟨_, rfl⟩
      cases k with
      | zero => exact absurd hE.out.s.steps (by omega)
      | succ k =>
        obtain ⟨eb, eo, ecs, hA_, heb, ⟨bv1, bv2, rfl, hr_, hr2_⟩, hat_⟩ := (hb0.out).in0 (hE.out.bel) (b) (hb)
        cases hA_
        have hew := Nat.lt_of_lt_of_le heb (hE.out.bel).size
        have g0 := hat_ 0 _ rfl
        have g1 := hat_ 1 _ rfl
        have g2 := hat_ 2 _ rfl
        have g3 := hat_ 3 _ rfl
        have g4 := hat_ 4 _ rfl
        have g5 := hat_ 5 _ rfl
        clear hat_
        simp at g0 g1 g2 g3 g4 g5
        obtain ⟨Ap, cp, rfl, hcp, hlp, hrp⟩ := hr_.sm
        obtain ⟨Ai, ci, rfl, hci, hli, hri⟩ := hr2_.sm
        clear hr_ hr2_
        obtain ⟨fb, rfl⟩ : ∃ fb : Nat, fb = eb := ⟨_, rfl⟩
        obtain ⟨fo, rfl⟩ : ∃ fo : Nat, fo = eo := ⟨_, rfl⟩
        have hbk := blkAt_nat f b hb
        have hfl := first_le f b hb
        have hfr := first_rng f b hfo'.out
        have hbo := Hd.mk (fn_block hr.out.ok f.blocks[b] (List.getElem_mem hb))
        have hcb := Hd.mk (hr.out.call f.blocks[b] (List.getElem_mem hb))
        have hpred := Hd.mk (pred_of f b hb)
        unfold blocksR at hD
        simp only [hbk] at hD
        have hfi := fun W (hW : Below B.heap.size B W) => c_firstOf f _ b W (KM.mv hf'.out hW) (by omega)
        generalize f.blocks[b] = x at *
        obtain ⟨idn, hidn⟩ : ∃ idn : Nat, (idn : Int) = firstOf f (b : Int) + x.phis.length := ⟨(firstOf f (b : Int) + x.phis.length).toNat, by omega⟩
        rw [show (firstOf f (b : Int) + x.phis.length).toNat = idn by omega] at hD
        have hidl : idn + x.insts.length ≤ n := by have := hn'.out; omega
        generalize firstOf f (b : Int) = fi at *
        have ewi : IntKind.i64.wrap (fi + (x.phis.length : Int)) = (idn : Int) := by rw [← hidn]; exact IntWalk.i64_in _ (by omega)
        generalize hRI : instsR call f fuel x.insts idn vals s1 = RI at hD
        have hRI' : Hd (instsR call f fuel (x.insts.drop 0) (idn + 0) vals s1 = RI) := ⟨hRI⟩
        obtain ⟨wj, hwj⟩ : ∃ wj : World, wj = wo.alloc (.cells #[.slice Ap x.phis.length cp, .slice Ai x.insts.length ci, .int .i64 x.term.kind, .int .i64 x.term.a, .int .i64 x.term.x, .int .i64 x.term.y] 32) := ⟨_, rfl⟩
        have hBj : Hd (Below wo.heap.size wo wj) := ⟨by rw [hwj]; exact (Below.refl _ _).al (Nat.le_refl _) _⟩
        have hzj : wo.heap.size < wj.heap.size := by rw [hwj]; simp
        have hkb : Hd (Kp g gm (blk Ao) wo.heap.size (some (.cells #[.slice Ap x.phis.length cp, .slice Ai x.insts.length ci, .int .i64 x.term.kind, .int .i64 x.term.a, .int .i64 x.term.x, .int .i64 x.term.y] 32 (0, 0))) wj) := ⟨⟨hE.out.si.fresh (Nat.le_refl _) hzj, by rw [hwj]; exact heap_new _ _ _ _ rfl⟩⟩
        have hEj := Hd.mk (hE.out.below hBj.out)
        have hwj' := Hd.mk hwj
        obtain ⟨yc, y1⟩ := hE.out.k1.cells
        have o10 := yc 0
        have o11 := yc 1
        have o12 := yc 2
        obtain ⟨zc, y1j⟩ := hEj.out.k1.cells
        have j10 := zc 0
        have j11 := zc 1
        have j12 := zc 2
        obtain ⟨tc, ybj⟩ := hkb.out.cells
        have t0 := tc 0
        have t1 := tc 1
        simp at o10 o11 o12 j10 j11 j12 t0 t1
        have eb0 : (0 : Int) ≤ (b : Int) := by omega
        have eb1 : (b : Int) < (f.blocks.length : Int) := by omega
        have hfij := fun W (hW : Below wj.heap.size wj W) => hfi W (hEj.out.bel.then hW)
        clear hwj hRI hbk hfl hfr yc zc tc hidn hfi
        go_wp2
        rw [← hwj'.out]
        clear o10 o11 o12 g0 g1 g2 g3 g4 g5
        refine wp_region_bel (by kernel_rfl) (by kernel_rfl) ?_
        simp only [List.toList_toArray]
        repeat' first
          | (refine seq_val (by rfl) (by intro W hS; have s0 := (bat hS (Wb.heap.size + 1) y1j 0).trans j10; have s1 := (bat hS (Wb.heap.size + 1) y1j 1).trans j11; have s2 := (bat hS (Wb.heap.size + 1) y1j 2).trans j12; have s3 := (bat hS wo.heap.size ybj 0).trans t0; have s4 := (bat hS wo.heap.size ybj 1).trans t1; go_simp; first | done | rfl) ?_; simp only [Act.put, List.setIfInBounds_toArray, List.set_cons_zero, List.set_cons_succ])
          | (refine seq_skip (by rfl) ?_; simp only [Act.put, List.setIfInBounds_toArray, List.set_cons_zero, List.set_cons_succ])
          | (refine seq_ret 95 _ (by rfl) (by intro W hS; have s0 := (bat hS (Wb.heap.size + 1) y1j 0).trans j10; have s1 := (bat hS (Wb.heap.size + 1) y1j 1).trans j11; have s2 := (bat hS (Wb.heap.size + 1) y1j 2).trans j12; have s3 := (bat hS wo.heap.size ybj 0).trans t0; have s4 := (bat hS wo.heap.size ybj 1).trans t1; go_simp; first | done | rfl) (fun W hS => hfij W hS) ?_; simp only [Act.put, List.setIfInBounds_toArray, List.set_cons_zero, List.set_cons_succ])
          | fail
        refine seq_nil (fun W hS => ?_)
        have s0 := (bat hS (Wb.heap.size + 1) y1j 0).trans j10
        have s1 := (bat hS (Wb.heap.size + 1) y1j 1).trans j11
        have s2 := (bat hS (Wb.heap.size + 1) y1j 2).trans j12
        have s3 := (bat hS wo.heap.size ybj 0).trans t0
        have s4 := (bat hS wo.heap.size ybj 1).trans t1
        go_wp2
        have hgvo : wo.heap.size ≠ gv := by obtain ⟨-, -, -, -, -, h⟩ := hE.out.fr.cells; omega
        have hEl := Hd.mk (hEj.out.below hS)
        have hKl := Hd.mk (hkb.out.below hS)
        have hbelo := hE.out.bel.size
        obtain ⟨cMo, -, -, -, -, ko4, -, -, -, -, -⟩ := hE.out.si.cells
        have ko4' := Hd.mk ko4
        clear s0 s1 s2 s3 s4 t0 t1 j10 j11 j12 hfij hEj hkb hS hE ko4
        obtain ⟨wl, rfl⟩ : ∃ wl : World, wl = W := ⟨_, rfl⟩
        go_loopw [11, 58] (fun s11 s58 wr => ∃ (j q : Nat) (vals1 : List Int) (s2 : RS) (A : Option Addr) (c : Nat), j ≤ x.insts.length ∧ s58 = .int .i64 j ∧ s11 = .int .i64 q ∧ Hd (q = idn + j) ∧ s1.steps ≤ s2.steps ∧ Hd (instsR call f fuel (x.insts.drop j) q vals1 s2 = RI) ∧ Hd (Env (.slice Am m.funcs.length cm) fuel g gm lo (d + 1) B (.slice A1 f.params.length c1) (.slice (some ⟨fb, fo, none⟩) f.blocks.length c2) f.ret gx gv n Wb.heap.size (Wb.heap.size + 1) A0 Wb vals1 s2 A c wr) ∧ Hd (Kp g gm (blk A) wo.heap.size (some (.cells #[.slice Ap x.phis.length cp, .slice Ai x.insts.length ci, .int .i64 x.term.kind, .int .i64 x.term.a, .int .i64 x.term.x, .int .i64 x.term.y] 32 (0, 0))) wr)) (fun _ s58 _ => x.insts.length - (intOf s58).toNat)
        case atStart => exact ⟨0, idn, vals, s1, Ao, co, Nat.zero_le _, rfl, rfl, ⟨rfl⟩, Nat.le_refl _, hRI', hEl, hKl⟩
        case round =>
          clear hRI' hEl hKl
          obtain ⟨j, q, vals1, s2, Ai2, ci2, hj, rfl, rfl, hq, hs12, hI, hE2, hK2⟩ := hrel
          obtain ⟨wi, rfl⟩ : ∃ wi : World, wi = wr := ⟨_, rfl⟩
          obtain ⟨pc, pl⟩ := hE2.out.k0.cells
          have p0 := pc 0
          simp at p0
          clear pc
          by_cases hlt : j < x.insts.length
          · obtain ⟨eb, eo, ecs, hA_, heb, ⟨iv1, rfl, hr_⟩, hat_⟩ := (hri.out).in0 (hE2.out.bel) (j) (hlt)
            cases hA_
            have hew := Nat.lt_of_lt_of_le heb (hE2.out.bel).size
            have g0 := hat_ 0 _ rfl
            have g1 := hat_ 1 _ rfl
            have g2 := hat_ 2 _ rfl
            have g3 := hat_ 3 _ rfl
            have g4 := hat_ 4 _ rfl
            have g5 := hat_ 5 _ rfl
            have g6 := hat_ 6 _ rfl
            clear hat_
            simp at g0 g1 g2 g3 g4 g5 g6
            obtain ⟨Aa, ca, rfl, hca, hla, hra⟩ := hr_.sm
            clear hr_
            have hio := Hd.mk (hbo.out.2.1 x.insts[j] (List.getElem_mem hlt))
            have hci := Hd.mk (hcb.out x.insts[j] (List.getElem_mem hlt))
            rw [instsR_cons call f fuel x.insts j hlt] at hI
            generalize x.insts[j] = i at *
            obtain ⟨wn, hwn⟩ : ∃ wn : World, wn = wi.alloc (.cells #[.int .i64 i.op, .int .i64 i.w, .int .i64 i.a, .int .i64 i.b, .int .i64 i.c, .int .i64 i.imm, .slice Aa i.args.length ca] 26) := ⟨_, rfl⟩
            have hBn : Below wi.heap.size wi wn := by rw [hwn]; exact (Below.refl _ _).al (Nat.le_refl _) _
            have hzn : wi.heap.size < wn.heap.size := by rw [hwn]; simp
            have hki : Hd (Kp g gm (blk Ai2) wi.heap.size (some (.cells #[.int .i64 i.op, .int .i64 i.w, .int .i64 i.a, .int .i64 i.b, .int .i64 i.c, .int .i64 i.imm, .slice Aa i.args.length ca] 26 (0, 0))) wn) := ⟨⟨hE2.out.si.fresh (Nat.le_refl _) hzn, by rw [hwn]; exact heap_new _ _ _ _ rfl⟩⟩
            have hEn := Hd.mk (hE2.out.below hBn)
            have hKn := Hd.mk (hK2.out.below hBn)
            have hwn' := Hd.mk hwn
            have el0 : (0 : Int) ≤ (j : Int) := by omega
            have el1 : (j : Int) < (x.insts.length : Int) := by omega
            have hsf := Hd.mk hEn.out.s.steps
            clear hwn hBn hE2 hK2 hzn
            go_wp2_with fail
            rw [← hwn'.out]
            clear p0 pl g0 g1 g2 g3 g4 g5 g6 hwn'
            by_cases hfin : s2.steps = fuel
            · rw [if_pos hfin] at hI
              obtain rfl : D = ((0, 4), s2) := by rw [← hD.out, ← hI.out]; simp
              have hfin' := Hd.mk hfin
              clear hfin hD hI
              refine (step_no hEn.out.si hfu hfin'.out).mono ?_; rintro e w5 ⟨rfl, hS5, hO5⟩
              have hE5 := Hd.mk (hEn.out.call hS5 hEn.out.s hO5 (.inl rfl))
              clear hS5 hO5 hKn hki
              go_wp2
              refine leaves_cons (f := 93) (args := #[.pointer (some ⟨Wb.heap.size, 0, none⟩)]) (by simp) (by simp [go_sem]) ?_
              refine (run1 Wb.heap.size g (d + 1) .returning _ (hE5.out).deep hdr.out).mono ?_
              rintro e u' w'' ⟨rfl, rfl, rfl⟩
              exact ⟨_, results_tmp2 (t := 6) (u := 7) rfl _ _ _, (hE5.out).done d (by omega) ((0, 4), s2) rfl⟩
            · rw [if_neg hfin] at hI
              have hfin' := Hd.mk hfin
              clear hfin
              refine (step_yes hEn.out.si hfu hsf.out hfin'.out).mono ?_; rintro e w5 ⟨rfl, hS5, hO5⟩
              have hE5 := Hd.mk (hEn.out.call hS5 (hEn.out.s.step hfin'.out) hO5 (.inl rfl))
              have hK5 := Hd.mk (hKn.out.call hO5 (.inl rfl))
              have hi5 := Hd.mk (hki.out.call hO5 (.inl rfl))
              have hdo := c_doR call m Am cm fuel g gm lo (d + 1) B f (.slice A1 f.params.length c1) (.slice (some ⟨fb, fo, none⟩) f.blocks.length c2) gx gv n vals1 ⟨s2.mem, s2.out, s2.steps + 1⟩ Ai2 ci2 i (.slice Aa i.args.length ca) w5 hm'.out H.out hE5.out.bel hE5.out.si hE5.out.fr (KM.mv hf'.out hE5.out.bel) hfo'.out hE5.out.v.1 hn'.out hE5.out.v hE5.out.s hio.out (hra.out.mv hE5.out.bel) hci.out
              have hok := Hd.mk (doI_ok hcl.out f hio.out hE5.out.v hE5.out.s)
              unfold instV at hdo
              have hs2 : s2.steps + 1 ≤ (doI call f i vals1 ⟨s2.mem, s2.out, s2.steps + 1⟩).2.steps := hok.out.2.1
              generalize doI call f i vals1 ⟨s2.mem, s2.out, s2.steps + 1⟩ = R at *
              obtain ⟨ic, il⟩ := hi5.out.cells
              have i0 := ic 0
              have i1 := ic 1
              have i2 := ic 2
              have i3 := ic 3
              have i4 := ic 4
              have i5 := ic 5
              have i6 := ic 6
              obtain ⟨pc, pl⟩ := hE5.out.k0.cells
              have p0 := pc 0
              simp at p0 i0 i1 i2 i3 i4 i5 i6
              clear hS5 hO5 hKn hki hEn ic pc
              go_wp2_with fail
              refine hdo.mono ?_; rintro e w6 ⟨A6, c6, rfl, hS6, hO6, hN6⟩
              have hE6 := Hd.mk (hE5.out.call hS6 hok.out.1 hO6 hN6)
              have hK6 := Hd.mk (hK5.out.call hO6 hN6)
              clear hS6 hO6 hN6 hdo i0 i1 i2 i3 i4 i5 i6 p0 pl il hi5 hE5 hK5
              by_cases h0 : R.1.2 = 0
              · rw [if_pos h0] at hI
                obtain ⟨f0, f1, f2, f3, fx, fv⟩ := hE6.out.fr.cells
                have hql : q < n := by have := hq.out; omega
                obtain ⟨v0, vz⟩ := hE6.out.fr.val (q : Int) (by omega) (by rw [hE6.out.v.1]; omega)
                rw [Int.toNat_natCast] at v0 vz
                have hset := Hd.mk (hE6.out.set q R.1.1 ⟨hok.out.2.2.1, hok.out.2.2.2.1⟩)
                have hKs := Hd.mk (hK6.out.far (Off.self (k := q) (.int .i64 R.1.1)) hgvo)
                have ewq : IntKind.i64.wrap ((q : Int) + 1) = (q : Int) + 1 := IntWalk.i64_in _ (by omega)
                have eq0 : (0 : Int) ≤ (q : Int) := by omega
                have eq1 : (q : Int) < (n : Int) := by omega
                have hq1 : Hd (q + 1 = idn + (j + 1)) := ⟨by have := hq.out; omega⟩
                generalize vl vals1 (q : Int) = ov at *
                clear hE6 hK6
                go_wp2
                go_roundw
                case rel => exact ⟨j + 1, q + 1, _, R.2, A6, c6, by omega, by go_num, by go_num, hq1, by omega, hI, hset, hKs⟩
                case measure => simp [intOf]; omega
              · rw [if_neg h0] at hI
                have d0 := bneT h0
                have d1 := beqF h0
                obtain rfl : D = ((0, R.1.2), R.2) := by rw [← hD.out, ← hI.out]; simp [h0]
                have h0' := Hd.mk h0
                clear hI hD h0
                go_wp2
                refine leaves_cons (f := 93) (args := #[.pointer (some ⟨Wb.heap.size, 0, none⟩)]) (by simp) (by simp [go_sem]) ?_
                refine (run1 Wb.heap.size g (d + 1) .returning _ (hE6.out).deep hdr.out).mono ?_
                rintro e u' w'' ⟨rfl, rfl, rfl⟩
                exact ⟨_, results_tmp2 (t := 6) (u := 7) rfl _ _ _, (hE6.out).done d (by omega) ((0, R.1.2), R.2) rfl⟩
          · have e : j = x.insts.length := by omega
            subst e
            rw [List.drop_length] at hI
            obtain rfl : RI = (0, vals1, s2) := hI.out.symm
            rw [if_pos rfl] at hD
            simp only at hD
            clear hI
            have hsf := Hd.mk hE2.out.s.steps
            by_cases hfin : s2.steps = fuel
            · rw [if_pos hfin] at hD
              obtain rfl : D = ((0, 4), s2) := hD.out.symm
              have hfin' := Hd.mk hfin
              clear hfin hD
              go_wp2_with fail
              refine (step_no hE2.out.si hfu hfin'.out).mono ?_; rintro e w5 ⟨rfl, hS5, hO5⟩
              have hE5 := Hd.mk (hE2.out.call hS5 hE2.out.s hO5 (.inl rfl))
              clear hS5 hO5 hK2 p0 pl
              go_wp2
              refine leaves_cons (f := 93) (args := #[.pointer (some ⟨Wb.heap.size, 0, none⟩)]) (by simp) (by simp [go_sem]) ?_
              refine (run1 Wb.heap.size g (d + 1) .returning _ (hE5.out).deep hdr.out).mono ?_
              rintro e u' w'' ⟨rfl, rfl, rfl⟩
              exact ⟨_, results_tmp2 (t := 6) (u := 7) rfl _ _ _, (hE5.out).done d (by omega) ((0, 4), s2) rfl⟩
            · rw [if_neg hfin] at hD
              have hfin' := Hd.mk hfin
              clear hfin
              go_wp2_with fail
              refine (step_yes hE2.out.si hfu hsf.out hfin'.out).mono ?_; rintro e w5 ⟨rfl, hS5, hO5⟩
              have hE5 := Hd.mk (hE2.out.call hS5 (hE2.out.s.step hfin'.out) hO5 (.inl rfl))
              have hK5 := Hd.mk (hK2.out.call hO5 (.inl rfl))
              clear hS5 hO5 hK2 hE2 p0 pl
              have htp := term_parts hbo.out.2.2
              obtain ⟨kc, kl⟩ := hK5.out.cells
              have k2 := kc 2
              have k3 := kc 3
              have k4 := kc 4
              have k5 := kc 5
              simp at k2 k3 k4 k5
              clear kc
              have hlt2 : s1.steps < s2.steps + 1 := by omega
              have hst1 := Hd.mk hs12
              have hprd := fun to h => Hd.mk (hpred.out to h)
              have hgo := fun h => Hd.mk (goTo_leads (t := x.term) vals1 h)
              generalize x.term = t at *
              have hEt : Hd (Env (.slice Am m.funcs.length cm) fuel g gm lo (d + 1) B (.slice A1 f.params.length c1) (.slice (some ⟨fb, fo, none⟩) f.blocks.length c2) f.ret gx gv n Wb.heap.size (Wb.heap.size + 1) A0 Wb vals1 ⟨s2.mem, s2.out, s2.steps + 1⟩ Ai2 ci2 (w5.alloc (.cells #[.int .i64 t.kind, .int .i64 t.a, .int .i64 t.x, .int .i64 t.y] 29))) := ⟨hE5.out.below ((Below.refl _ _).al (Nat.le_refl _) _)⟩
              obtain ⟨tk, ta, tx, ty⟩ := t
              simp only at htp hD hEt k2 k3 k4 k5 hprd hgo
              rcases htp with ⟨rfl, ha0, ha1⟩ | ⟨rfl, hx0, hx1⟩ | ⟨rfl, ⟨ha0, ha1⟩, ⟨hx0, hx1⟩, hy0, hy1⟩ | rfl
              · rw [if_neg (by decide), if_pos rfl] at hD
                obtain rfl : D = ((vl vals1 ta, 0), ⟨s2.mem, s2.out, s2.steps + 1⟩) := hD.out.symm
                obtain ⟨f0, f1, f2, f3, fx, fv⟩ := hE5.out.fr.cells
                obtain ⟨v0, -⟩ := hE5.out.fr.val ta ha0 (by rw [hE5.out.v.1]; have := hn'.out; omega)
                have ea : ta < (n : Int) := by have := hn'.out; omega
                clear hD hprd hgo hE5
                go_wp2
                go_quiet (fail)
                go_wp2
                refine leaves_cons (f := 93) (args := #[.pointer (some ⟨Wb.heap.size, 0, none⟩)]) (by simp) (by simp [go_sem]) ?_
                refine (run1 Wb.heap.size g (d + 1) .returning _ (hEt.out.drewN nq).deep hdr.out).mono ?_
                rintro e u' w'' ⟨rfl, rfl, rfl⟩
                exact ⟨_, results_tmp2 (t := 6) (u := 7) rfl _ _ _, (hEt.out.drewN nq).done d (by omega) ((vl vals1 ta, 0), ⟨s2.mem, s2.out, s2.steps + 1⟩) rfl⟩
              · rw [if_neg (by decide), if_neg (by decide)] at hD
                obtain ⟨tn, rfl⟩ : ∃ tn : Nat, tx = tn := ⟨tx.toNat, by omega⟩
                have htn : tn < f.blocks.length := by omega
                have hpm := (hprd (tn : Int) (by simp [leadsTo])).out
                have hgt : goTo ⟨2, ta, (tn : Int), ty⟩ vals1 = (tn : Int) := by unfold goTo; simp
                rw [hgt] at hD
                clear hprd hgo hgt
                have hph := fun p hp => (⟨phis_at hr.out.phi tn htn p hp, phi_ids ((fn_block hr.out.ok f.blocks[tn] (List.getElem_mem htn)).1 p hp)⟩ : p.ins.length = (predsOf f tn).length ∧ ∀ id ∈ p.ins, 0 ≤ id ∧ id < countOf f)
                have hen := fun W (hX : Env (.slice Am m.funcs.length cm) fuel g gm lo (d + 1) B (.slice A1 f.params.length c1) (.slice (some ⟨fb, fo, none⟩) f.blocks.length c2) f.ret gx gv n Wb.heap.size (Wb.heap.size + 1) A0 Wb vals1 ⟨s2.mem, s2.out, s2.steps + 1⟩ Ai2 ci2 W) => c_enter f (.slice A1 f.params.length c1) (.slice (some ⟨fb, fo, none⟩) f.blocks.length c2) tn (b : Int) gx gv n vals1 W (KM.mv hf'.out hX.bel) hX.fr hX.v.1 hn'.out hfo'.out htn hpm hph
                clear hst1
                clear hph hpm
                go_wp2
                go_quiet (fail)
                go_wp2_with fail
                refine (hen _ (hEt.out.drewN nq)).mono ?_; rintro e w9 ⟨rfl, hF9, hO9⟩
                have hE9 := Hd.mk ((hEt.out.drewN nq).far hO9 hF9 (enterV_ok hE5.out.v))
                clear hF9 hO9 hen hEt k2 k3 k4 k5
                obtain ⟨cM9, -, -, -, -, k94, -, -, -, -, -⟩ := hE9.out.si.cells
                have hm9 : fuelLeft g fuel w9 < fuelLeft g fuel wo := by
                  have hs9 : s2.steps + 1 ≤ fuel := hE9.out.s.steps
                  unfold fuelLeft
                  rw [k94, ko4'.out]
                  simp [intOf]
                  omega
                have hm9' := Hd.mk hm9
                clear k94 hm9
                go_wp2
                go_roundw
                case rel => exact ⟨k, tn, _, _, Ai2, ci2, rfl, htn, by show fuel + 1 - (s2.steps + 1) ≤ k; omega, hD, hE9⟩
                case measure => exact hm9'.out
              · rw [if_neg (by decide), if_neg (by decide)] at hD
                obtain ⟨f0, f1, f2, f3, fx, fv⟩ := hE5.out.fr.cells
                obtain ⟨v0, -⟩ := hE5.out.fr.val ta ha0 (by rw [hE5.out.v.1]; have := hn'.out; omega)
                have ea : ta < (n : Int) := by have := hn'.out; omega
                by_cases hv : vl vals1 ta = 0
                · rw [hv] at v0
                  obtain ⟨tn, rfl⟩ : ∃ tn : Nat, ty = tn := ⟨ty.toNat, by omega⟩
                  have htn : tn < f.blocks.length := by omega
                  have hpm := (hprd (tn : Int) (by simp [leadsTo])).out
                  have hgt : goTo ⟨3, ta, tx, (tn : Int)⟩ vals1 = (tn : Int) := by unfold goTo; simp [hv]
                  rw [hgt] at hD
                  clear hprd hgo hgt
                  have hph := fun p hp => (⟨phis_at hr.out.phi tn htn p hp, phi_ids ((fn_block hr.out.ok f.blocks[tn] (List.getElem_mem htn)).1 p hp)⟩ : p.ins.length = (predsOf f tn).length ∧ ∀ id ∈ p.ins, 0 ≤ id ∧ id < countOf f)
                  have hen := fun W (hX : Env (.slice Am m.funcs.length cm) fuel g gm lo (d + 1) B (.slice A1 f.params.length c1) (.slice (some ⟨fb, fo, none⟩) f.blocks.length c2) f.ret gx gv n Wb.heap.size (Wb.heap.size + 1) A0 Wb vals1 ⟨s2.mem, s2.out, s2.steps + 1⟩ Ai2 ci2 W) => c_enter f (.slice A1 f.params.length c1) (.slice (some ⟨fb, fo, none⟩) f.blocks.length c2) tn (b : Int) gx gv n vals1 W (KM.mv hf'.out hX.bel) hX.fr hX.v.1 hn'.out hfo'.out htn hpm hph
                  clear hst1
                  clear hph hpm
                  go_wp2
                  go_quiet (fail)
                  go_wp2_with fail
                  refine (hen _ (hEt.out.drewN nq)).mono ?_; rintro e w9 ⟨rfl, hF9, hO9⟩
                  have hE9 := Hd.mk ((hEt.out.drewN nq).far hO9 hF9 (enterV_ok hE5.out.v))
                  clear hF9 hO9 hen hEt k2 k3 k4 k5
                  obtain ⟨cM9, -, -, -, -, k94, -, -, -, -, -⟩ := hE9.out.si.cells
                  have hm9 : fuelLeft g fuel w9 < fuelLeft g fuel wo := by
                    have hs9 : s2.steps + 1 ≤ fuel := hE9.out.s.steps
                    unfold fuelLeft
                    rw [k94, ko4'.out]
                    simp [intOf]
                    omega
                  have hm9' := Hd.mk hm9
                  clear k94 hm9
                  go_wp2
                  go_roundw
                  case rel => exact ⟨k, tn, _, _, Ai2, ci2, rfl, htn, by show fuel + 1 - (s2.steps + 1) ≤ k; omega, hD, hE9⟩
                  case measure => exact hm9'.out
                · have dv := beqF hv
                  obtain ⟨tn, rfl⟩ : ∃ tn : Nat, tx = tn := ⟨tx.toNat, by omega⟩
                  have htn : tn < f.blocks.length := by omega
                  have hpm := (hprd (tn : Int) (by simp [leadsTo])).out
                  have hgt : goTo ⟨3, ta, (tn : Int), ty⟩ vals1 = (tn : Int) := by unfold goTo; simp [hv]
                  rw [hgt] at hD
                  clear hprd hgo hgt
                  have hph := fun p hp => (⟨phis_at hr.out.phi tn htn p hp, phi_ids ((fn_block hr.out.ok f.blocks[tn] (List.getElem_mem htn)).1 p hp)⟩ : p.ins.length = (predsOf f tn).length ∧ ∀ id ∈ p.ins, 0 ≤ id ∧ id < countOf f)
                  have hen := fun W (hX : Env (.slice Am m.funcs.length cm) fuel g gm lo (d + 1) B (.slice A1 f.params.length c1) (.slice (some ⟨fb, fo, none⟩) f.blocks.length c2) f.ret gx gv n Wb.heap.size (Wb.heap.size + 1) A0 Wb vals1 ⟨s2.mem, s2.out, s2.steps + 1⟩ Ai2 ci2 W) => c_enter f (.slice A1 f.params.length c1) (.slice (some ⟨fb, fo, none⟩) f.blocks.length c2) tn (b : Int) gx gv n vals1 W (KM.mv hf'.out hX.bel) hX.fr hX.v.1 hn'.out hfo'.out htn hpm hph
                  generalize vl vals1 ta = va at *
                  clear hph hpm
                  go_wp2
                  go_quiet (fail)
                  go_wp2_with fail
                  refine (hen _ (hEt.out.drewN nq)).mono ?_; rintro e w9 ⟨rfl, hF9, hO9⟩
                  have hE9 := Hd.mk ((hEt.out.drewN nq).far hO9 hF9 (enterV_ok hE5.out.v))
                  clear hF9 hO9 hen hEt k2 k3 k4 k5
                  obtain ⟨cM9, -, -, -, -, k94, -, -, -, -, -⟩ := hE9.out.si.cells
                  have hm9 : fuelLeft g fuel w9 < fuelLeft g fuel wo := by
                    have hs9 : s2.steps + 1 ≤ fuel := hE9.out.s.steps
                    unfold fuelLeft
                    rw [k94, ko4'.out]
                    simp [intOf]
                    omega
                  have hm9' := Hd.mk hm9
                  clear k94 hm9
                  go_wp2
                  go_roundw
                  case rel => exact ⟨k, tn, _, _, Ai2, ci2, rfl, htn, by show fuel + 1 - (s2.steps + 1) ≤ k; omega, hD, hE9⟩
                  case measure => exact hm9'.out
              · rw [if_pos rfl] at hD
                obtain rfl : D = ((0, 3), ⟨s2.mem, s2.out, s2.steps + 1⟩) := hD.out.symm
                clear hD hprd hgo
                go_wp2
                refine leaves_cons (f := 93) (args := #[.pointer (some ⟨Wb.heap.size, 0, none⟩)]) (by simp) (by simp [go_sem]) ?_
                refine (run1 Wb.heap.size g (d + 1) .returning _ (hEt.out).deep hdr.out).mono ?_
                rintro e u' w'' ⟨rfl, rfl, rfl⟩
                exact ⟨_, results_tmp2 (t := 6) (u := 7) rfl _ _ _, (hEt.out).done d (by omega) ((0, 3), ⟨s2.mem, s2.out, s2.steps + 1⟩) rfl⟩
end Go.Proofs.YtkcgejbnhpccdaaGreat
