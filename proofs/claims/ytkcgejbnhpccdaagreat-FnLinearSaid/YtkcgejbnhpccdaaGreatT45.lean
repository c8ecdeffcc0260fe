import Derived.Test.YtkcgejbnhpccdaaGreatT42
import Derived.Test.YtkcgejbnhpccdaaGreatT44
set_option linter.unusedSimpArgs false
set_option linter.unusedVariables false
namespace Go.Proofs.YtkcgejbnhpccdaaGreat
open Go.RowKit
structure EnvX (mv : Value) (fuel g gm lo : Nat) (B : World) (pv bv : Value) (ret : Int) (b1 : Nat) (A0 : Option Addr) (Wb : World) (n gv : Nat) (Av : Option Addr) (vals : List Int) (s : RS) (A : Option Addr) (c : Nat) (W : World) : Prop where
  si : SX mv fuel g gm lo 0 s A c W
  vx : VX g gm (blk A) gv Av n vals W
  v : VOk n vals
  s : ROk fuel s
  k1 : Kp g gm (blk A) b1 (some (.cells #[pv, .int .i64 ret, bv] 35 (0, 0))) W
  off : Off g gm (blk A0) Wb W
  nxt : Nxt Wb (blk A0) (blk A)
  bel : Below B.heap.size B W
  gB : B.heap.size ≤ g ∧ B.heap.size ≤ gm ∧ B.heap.size ≤ lo
  gvB : Wb.heap.size < gv ∧ B.heap.size ≤ Wb.heap.size ∧ b1 ≤ Wb.heap.size
section
variable {mv : Value} {fuel g gm lo : Nat} {B : World} {pv bv : Value} {ret : Int} {gv n b1 : Nat} {Av A0 : Option Addr} {Wb : World} {vals : List Int} {s : RS} {A : Option Addr} {c : Nat} {W W' : World}
theorem EnvX.below (h : EnvX mv fuel g gm lo B pv bv ret b1 A0 Wb n gv Av vals s A c W) (hb : Below W.heap.size W W') : EnvX mv fuel g gm lo B pv bv ret b1 A0 Wb n gv Av vals s A c W' :=
  ⟨h.si.mv hb, h.vx.below hb, h.v, h.s, h.k1.below hb, h.off.then hb, h.nxt, h.bel.then hb, h.gB, h.gvB⟩
theorem EnvX.call (h : EnvX mv fuel g gm lo B pv bv ret b1 A0 Wb n gv Av vals s A c W) {s' : RS} {A' : Option Addr} {c' : Nat} (hs : SX mv fuel g gm lo 0 s' A' c' W') (hr : ROk fuel s') (hf : Off g gm (blk A) W W') (hn : Nxt W (blk A) (blk A')) : EnvX mv fuel g gm lo B pv bv ret b1 A0 Wb n gv Av vals s' A' c' W' :=
  ⟨hs, h.vx.call hf hn, h.v, hr, h.k1.call hf hn, h.off.trans h.nxt hf, h.nxt.trans h.off.size hn,
    h.bel.trans (hf.below h.gB.1 h.gB.2.1 (fun b hb => Nat.le_trans h.gB.2.2 (h.si.blkOf b hb).1) h.bel.size), h.gB, h.gvB⟩
theorem EnvX.newv (h : EnvX mv fuel g gm lo B pv bv ret b1 A0 Wb n gv Av vals s A c W) (hb : Below W.heap.size W W') {gv' : Nat} {Av' : Option Addr} {vals' : List Int} (hx : VX g gm (blk A) gv' Av' n vals' W') (hv : VOk n vals') (hg : Wb.heap.size < gv') : EnvX mv fuel g gm lo B pv bv ret b1 A0 Wb n gv' Av' vals' s A c W' :=
  ⟨h.si.mv hb, hx, hv, h.s, h.k1.below hb, h.off.then hb, h.nxt, h.bel.then hb, h.gB, hg, h.gvB.2⟩
theorem EnvX.set (h : EnvX mv fuel g gm lo B pv bv ret b1 A0 Wb n gv Av vals s A c W) (h0 : 0 < n) (k : Nat) (v : Int) (hv : 0 ≤ v ∧ v ≤ 4294967295) : EnvX mv fuel g gm lo B pv bv ret b1 A0 Wb n gv Av (vals.set k v) s A c (W.setCell ⟨gv, k, none⟩ (.int .i64 v)) := by
  obtain ⟨e1, e2, -⟩ := h.vx.2 h0
  refine ⟨h.si.setOff e2 _, h.vx.set k v, h.v.set k v hv, h.s, h.k1.far (Off.self _) (by have := h.gvB; omega), h.off.setNew (by have := h.gvB; omega) _, h.nxt, ?_, h.gB, h.gvB⟩
  exact h.bel.trans ⟨rfl, rfl, rfl, by rw [setCell_size]; exact Nat.le_refl _, fun b hb => Below.heap_setCell _ _ _ _ (by show b ≠ gv; have := h.gvB; omega)⟩
end
theorem enterV_nil {f : XFunc} {to left : Int} {vals : List Int} (h : (blkAt f to).phis = []) : enterV f to left vals = vals := by
  unfold enterV nextP; rw [h]; rfl
set_option maxRecDepth 20000 in
set_option maxHeartbeats 16000000 in
theorem s_call (m : XMod) (Am : Option Addr) (cm : Nat) (fuel g gm lo : Nat) (B : World) (hm : KMod lm B m [.slice Am m.funcs.length cm]) (hfu : fuel ≤ 2000) (hgB : B.heap.size ≤ g ∧ B.heap.size ≤ gm ∧ B.heap.size ≤ lo) (hrn : ∀ f ∈ m.funcs, Rn m f) (hen : ∀ f ∈ m.funcs, entryOk f = true) (hsh : shapeOk m = true) :
    ∀ (dn : Nat) (d : Int), d = 7 - dn → dn ≤ 6 → RunX (callR m fuel dn) m (.slice Am m.funcs.length cm) fuel g gm lo d B := by
  intro dn
  induction dn with
  | zero =>
    intro d hd _ k args s A c va Wb hk hs hx hal hS hva hBW
    obtain rfl : d = 7 := by omega
    have hf := s_fail _ fuel g gm lo s A c Wb 5 hS
    clear hd hgB hrn hen hm hsh hs hx hal hva hBW hS
    go_enter Tryz.func77, Tryz.ntmps77
    go_wp2_with fail
    refine hf.mono ?_; rintro e w1 ⟨rfl, hS1, hO1⟩
    have hS1' := Hd.mk hS1
    have hO1' := Hd.mk hO1
    clear hf hS1 hO1
    go_wp2
    go_ret
    exact ⟨A, c, _, rfl, fun h => absurd (show (5 : Int) = 0 from h) (by decide), hS1'.out, hO1'.out, .inl rfl⟩
  | succ dn ih =>
    intro d hd hdn k args s A0 c0 va Wb hk hs hx hal hS hva hBW
    have H := Hd.mk (ih (d + 1) (by omega) (by omega))
    clear ih
    have hd6 : 1 ≤ d ∧ d ≤ 6 := by omega
    have hki : k.toNat < m.funcs.length := by omega
    have hgd : m.funcs.getD k.toNat func0 = m.funcs[k.toNat] := by rw [List.getD_eq_getElem?_getD, List.getElem?_eq_getElem hki]; rfl
    have hr := Hd.mk (hrn _ (List.getElem_mem hki))
    have hent := Hd.mk (hen _ (List.getElem_mem hki))
    have hcl := Hd.mk (callR_ok hsh fuel dn)
    generalize hD : callR m fuel (dn + 1) k args s = D
    have hD' := Hd.mk hD
    clear hD
    unfold callR at hD'
    rw [hgd] at hD' hal
    generalize callR m fuel dn = call at *
    obtain ⟨vm, hvm, hrm⟩ := id hm
    simp only [List.cons.injEq, and_true] at hvm
    subst hvm
    obtain ⟨mb, mo, ecs, hA_, heb, ⟨fv1, fv2, rfl, hp, hb'⟩, hat_⟩ := (hrm).in0 (hBW) (k.toNat) (hki)
    cases hA_
    have hmw := Nat.lt_of_lt_of_le heb (hBW).size
    have g0 := hat_ 0 _ rfl
    have g1 := hat_ 1 _ rfl
    have g2 := hat_ 2 _ rfl
    simp at g0 g1 g2
    have hf : KFunc lm B m.funcs[k.toNat] _ := ⟨_, _, rfl, hp, hb'⟩
    obtain ⟨A1, c1, rfl, -, -, -⟩ := hp.sm
    obtain ⟨A2, c2, rfl, hcap, hl2, hb0⟩ := hb'.sm
    clear hp hb' hat_ hgd hrm
    generalize m.funcs[k.toNat] = f at *
    have hfo := func_fo hr.out.ok
    have hc60 := hfo.2.1
    have hpc : (f.params.length : Int) ≤ countOf f := by unfold countOf; exact countIn_le _ _
    have hfo' := Hd.mk hfo
    have hn1 := hfo.1.2.1
    have hf' := Hd.mk hf
    obtain ⟨n, hn⟩ : ∃ n : Nat, (n : Int) = countOf f := ⟨(countOf f).toNat, by omega⟩
    have hn' := Hd.mk hn
    have hnt : Hd ((countOf f).toNat = n) := ⟨by omega⟩
    have hco := fun W (hW : Below B.heap.size B W) => s_CountOf f _ W (KM.mv hf'.out hW)
    rw [← hn] at hco
    have hn60 : n ≤ 60 := by omega
    have hpn : f.params.length ≤ n := by omega
    clear hn hpc hf
    obtain ⟨Ar, cr, rfl, hcva, hlva, -⟩ := hva.sm
    obtain ⟨cM, k0, k1, k2, k3, k4, k5, kf, kg, kgm, kne⟩ := hS.cells
    obtain ⟨W1, hW1⟩ : ∃ W1 : World, W1 = Wb.alloc (.cells #[.slice A1 f.params.length c1, .int .i64 f.ret, .slice A2 f.blocks.length c2] 35) := ⟨_, rfl⟩
    have hB1 : Hd (Below Wb.heap.size Wb W1) := ⟨by rw [hW1]; exact (Below.refl Wb.heap.size Wb).al (Nat.le_refl _) _⟩
    have hz1 : Wb.heap.size < W1.heap.size := by rw [hW1]; simp
    have hk1 : Hd (Kp g gm (blk A0) Wb.heap.size (some (.cells #[.slice A1 f.params.length c1, .int .i64 f.ret, .slice A2 f.blocks.length c2] 35 (0, 0))) W1) := ⟨⟨hS.fresh (Nat.le_refl _) (by omega), by rw [hW1]; exact heap_new _ _ _ _ rfl⟩⟩
    have hS1 := Hd.mk (hS.mv hB1.out)
    have hBl := Hd.mk (hBW.then hB1.out)
    have hBs := hBW.size
    have hW1' := Hd.mk hW1
    have hva1 := Hd.mk ((show RI lm Wb _ args from hva).mv hB1.out)
    obtain ⟨y1c, y1⟩ := hk1.out.cells
    have b10 := y1c 0
    have b11 := y1c 1
    have b12 := y1c 2
    simp at b10 b11 b12
    have hblk := Hd.mk fun b hb => (hS.blkOf b hb)
    have hm' := Hd.mk hm
    have hx' := Hd.mk hx
    have hs' := Hd.mk hs
    have hal' := Hd.mk hal
    have hgB' := Hd.mk hgB
    have hdr : (d > 6) = False := by simp; omega
    have hmk := fun W => mk_run 24 2 (.int .i64 0) 1 8 n Tryz.underlying24 infoI (by omega) (by omega) W
    rw [Nat.mul_one] at hmk
    simp only [Value.cells] at hmk
    have hmc : Hd (madeCells #[.int .i64 0] n = ((List.replicate n (0 : Int)).map (Value.int .i64)).toArray) := ⟨Array.toList_inj.1 (by rw [madeInts])⟩
    generalize madeCells #[.int .i64 0] n = mc at *
    obtain ⟨hk00, hk01⟩ := hk
    clear hd hS hW1 kf y1c hva hm hx hs hal hgB hBW hfo k1 k2 k3 k4 k5 hsh hrn hen
    go_enter Tryz.func77, Tryz.ntmps77
    go_wp2_with fail
    rw [← hW1'.out]
    refine (hco _ hBl.out).mono ?_; rintro e w2 ⟨rfl, hb2⟩
    have hz2 := hb2.size
    have hgw : Hd (g < w2.heap.size ∧ gm < w2.heap.size ∧ ∀ b, blk A0 = some b → b < w2.heap.size) := ⟨by omega, by omega, fun b hb => by have := (hblk.out b hb).2; omega⟩
    have hb3 : Hd (Below W1.heap.size W1 (w2.alloc (.cells mc 2))) := ⟨hb2.then ((Below.refl _ _).al (Nat.le_refl _) _)⟩
    have hrow : Hd ((w2.alloc (.cells mc 2)).heap[w2.heap.size]? = some (.cells ((List.replicate n (0 : Int)).map (Value.int .i64)).toArray 2 (0, 0))) := ⟨by rw [hmc.out]; exact heap_new _ _ _ _ rfl⟩
    have hri := Hd.mk (hva1.out.mv hb3.out)
    have hfit : Hd (0 + args.length ≤ (List.replicate n (0 : Int)).length) := ⟨by have := hal'.out; simp; omega⟩
    have hlen0 : Hd (args.length ≤ n) := ⟨by have := hal'.out; omega⟩
    clear hco b10 b11 b12 k0 g0 g1 g2
    go_wp2_with (refine copy_I (o := ⟨some 34, _, _, _, _, _⟩) rfl _ _ rfl _ _ _ rfl _ _ _ rfl args hri.out w2.heap.size 0 (List.replicate n 0) hrow.out hlen0.out (fun _ => rfl) hfit.out ?_; intro w7 hg7 ho7)
    have hx0 : VX g gm (blk A0) w2.heap.size (some ⟨w2.heap.size, 0, none⟩) n (vals0 f args) w7 := by
      refine ⟨by have := (vals0_ok f args hx'.out).1; rw [this]; exact hnt.out, fun h0 => ⟨rfl, ⟨by have := ho7.out.size; simp at this; omega, by have := hgw.out.1; omega, by have := hgw.out.2.1; omega, fun e => by have := hgw.out.2.2 _ e; omega⟩, ((vals0 f args).map (Value.int .i64)).toArray, by have := hg7.out; unfold vals0; rw [hnt.out]; exact this, fun i hi => ?_⟩⟩
      simp [List.getElem?_eq_getElem hi]
    have hE7 : Hd (EnvX (.slice (some ⟨mb, mo, none⟩) m.funcs.length cm) fuel g gm lo B (.slice A1 f.params.length c1) (.slice A2 f.blocks.length c2) f.ret Wb.heap.size A0 Wb n w2.heap.size (some ⟨w2.heap.size, 0, none⟩) (vals0 f args) s A0 c0 w7) := by
      have hb7 : Below W1.heap.size W1 w7 := hb3.out.trans (ho7.out.below (by omega) (by omega) (fun b h => by cases h) (by simp; omega))
      exact ⟨⟨hS1.out.mv hb7, hx0, by have := vals0_ok f args hx'.out; rwa [hnt.out] at this, hs'.out, hk1.out.below hb7, (Off.of hB1.out).then hb7, .inl rfl, hBl.out.then hb7, hgB'.out, by omega, hBs, Nat.le_refl _⟩⟩
    have hD0 : Hd (blocksR call f fuel (fuel + 1 - s.steps) ((0 : Nat) : Int) (enterV f ((0 : Nat) : Int) (-1) (vals0 f args)) s = D) := ⟨by
      have h0 := hent.out
      unfold entryOk at h0
      simp only [Bool.and_eq_true, List.isEmpty_iff] at h0
      rw [enterV_nil (show (blkAt f ((0 : Nat) : Int)).phis = [] from h0.1)]
      exact hD'.out⟩
    have hf0 : Hd ((blkAt f ((0 : Nat) : Int)).phis ≠ [] → (-1 : Int) ∈ predsOf f ((0 : Nat) : Int)) := ⟨fun h => by
      have h0 := hent.out
      unfold entryOk at h0
      simp only [Bool.and_eq_true, List.isEmpty_iff] at h0
      exact absurd h0.1 h⟩
    clear hx0 hg7 ho7 hva1 hS1 hk1 hBl hblk hrow hri hfit hlen0 hb3 hgw hmk hB1
    go_loopw [10, 11, 12] (fun s10 s11 s12 wr => ∃ (k b : Nat) (from' : Int) (vals : List Int) (s' : RS) (A : Option Addr) (c gv : Nat) (Av : Option Addr) (cv : Nat), s10 = .slice Av n cv ∧ s11 = .int .i64 b ∧ s12 = .int .i64 from' ∧ (n ≤ cv ∧ (Av = none → cv = 0)) ∧ b < f.blocks.length ∧ fuel + 1 - s'.steps ≤ k ∧ Hd ((blkAt f b).phis ≠ [] → from' ∈ predsOf f b) ∧ Hd (blocksR call f fuel k b (enterV f b from' vals) s' = D) ∧ Hd (EnvX (.slice (some ⟨mb, mo, none⟩) m.funcs.length cm) fuel g gm lo B (.slice A1 f.params.length c1) (.slice A2 f.blocks.length c2) f.ret Wb.heap.size A0 Wb n gv Av vals s' A c wr)) (fun _ _ _ wr => fuelLeft g fuel wr)
    case atStart => exact ⟨fuel + 1 - s.steps, 0, -1, vals0 f args, s, A0, c0, w2.heap.size, some ⟨w2.heap.size, 0, none⟩, n, rfl, rfl, rfl, ⟨Nat.le_refl _, fun h => by cases h⟩, by omega, Nat.le_refl _, hf0, hD0, hE7⟩
    case round =>
      clear hD' hE7 hD0 hf0
      obtain ⟨k, b, from', vals0', s1, Ao, co, gv0, Av0, cv0, rfl, rfl, rfl, ⟨hcv1, hcv2⟩, hb, hk, hfr, hD, hE⟩ := hrel
      obtain ⟨wo, rfl⟩ : ∃ wo : World, wo = wr := ⟨_, rfl⟩
      cases k with
      | zero => exact absurd hE.out.s.steps (by omega)
      | succ k =>
        obtain ⟨eb, eo, ecs, hA_, heb, ⟨bv1, bv2, rfl, hr_, hr2_⟩, hat_⟩ := (hb0.out).in0 (hE.out.bel) (b) (hb)
        cases hA_
        have hew := Nat.lt_of_lt_of_le heb (hE.out.bel).size
        have g0 := hat_ 0 _ rfl
        have g1 := hat_ 1 _ rfl
        have g2 := hat_ 2 _ rfl
        have g3 := hat_ 3 _ rfl
        have g4 := hat_ 4 _ rfl
        have g5 := hat_ 5 _ rfl
        clear hat_
        simp at g0 g1 g2 g3 g4 g5
        obtain ⟨Ap, cp, rfl, hcp, hlp, hrp⟩ := hr_.sm
        obtain ⟨Ai, ci, rfl, hci, hli, hri⟩ := hr2_.sm
        clear hr_ hr2_
        obtain ⟨fb, rfl⟩ : ∃ fb : Nat, fb = eb := ⟨_, rfl⟩
        obtain ⟨fo, rfl⟩ : ∃ fo : Nat, fo = eo := ⟨_, rfl⟩
        have hbk := blkAt_nat f b hb
        have hfl := first_le f b hb
        have hfrr := first_rng f b hfo'.out
        have hbo := Hd.mk (fn_block hr.out.ok f.blocks[b] (List.getElem_mem hb))
        have hcb := Hd.mk (hr.out.call f.blocks[b] (List.getElem_mem hb))
        have hpred := Hd.mk (pred_of f b hb)
        have hph := fun p hp => (⟨phis_at hr.out.phi b hb p hp, phi_ids ((fn_block hr.out.ok f.blocks[b] (List.getElem_mem hb)).1 p hp)⟩ : p.ins.length = (predsOf f b).length ∧ ∀ id ∈ p.ins, 0 ≤ id ∧ id < countOf f)
        have hfr2 := hfr.out
        rw [hbk] at hfr2
        have hpc := fun xv => s_phis f _ xv _ b from' n vals0' wo (KM.mv hf'.out hE.out.bel) (hE.out.vx.rd hcv1 hcv2 (by omega)) hE.out.vx.1 hn'.out hfo'.out hb hfr2 hph
        unfold blocksR at hD
        simp only [hbk] at hD
        have hfi := fun W (hW : Below B.heap.size B W) => s_l2First f _ b W (KM.mv hf'.out hW) (by omega)
        have hvk : VOk n (enterV f b from' vals0') := enterV_ok hE.out.v
        generalize enterV f b from' vals0' = vals at *
        generalize f.blocks[b] = x at *
        obtain ⟨idn, hidn⟩ : ∃ idn : Nat, (idn : Int) = firstOf f (b : Int) + x.phis.length := ⟨(firstOf f (b : Int) + x.phis.length).toNat, by omega⟩
        rw [show (firstOf f (b : Int) + x.phis.length).toNat = idn by omega] at hD
        have hidl : idn + x.insts.length ≤ n := by have := hn'.out; omega
        generalize firstOf f (b : Int) = fi at *
        have ewi : IntKind.i64.wrap (fi + (x.phis.length : Int)) = (idn : Int) := by rw [← hidn]; exact IntWalk.i64_in _ (by omega)
        generalize hRI : instsR call f fuel x.insts idn vals s1 = RI at hD
        have hRI' : Hd (instsR call f fuel (x.insts.drop 0) (idn + 0) vals s1 = RI) := ⟨hRI⟩
        obtain ⟨cMo, -, -, -, -, ko4, ko5, -, -, -, -⟩ := hE.out.si.cells
        have ko4' := Hd.mk ko4
        obtain ⟨yc, y1o⟩ := hE.out.k1.cells
        have o10 := yc 0
        have o11 := yc 1
        have o12 := yc 2
        simp at o10 o11 o12
        have hvk' := Hd.mk hvk
        have hgo : g < wo.heap.size ∧ gm < wo.heap.size := by obtain ⟨-, -, -, -, -, -, -, -, h1, h2, -⟩ := hE.out.si.cells; exact ⟨h1, h2⟩
        have hgo' := Hd.mk hgo
        clear hRI hbk hfl hfrr yc hidn hfr hfr2 hph ko4 hvk hgo
        go_wp2_with fail
        refine (hpc _).mono ?_; rintro e w3 ⟨u3, rfl, ho3, hb3⟩
        obtain ⟨Av, cv, gv, rfl, hgvo, hvx, hcv1', hcv2'⟩ := VX.own (g := g) (gm := gm) (o := blk Ao) ho3 rfl hgo'.out.1 hgo'.out.2 (fun b h => (hE.out.si.blkOf b h).2)
        rw [hvk'.out.1] at hvx hcv1' ⊢
        have hE3 := Hd.mk (hE.out.newv hb3 hvx hvk'.out (by omega))
        have hnl : Hd (vals.length = n) := ⟨hvk'.out.1⟩
        have hcv' := Hd.mk (And.intro hcv1' hcv2')
        have hz3 := hb3.size
        replace g0 := (bat hb3 fb hew _).trans g0
        replace g1 := (bat hb3 fb hew _).trans g1
        replace g2 := (bat hb3 fb hew _).trans g2
        replace g3 := (bat hb3 fb hew _).trans g3
        replace g4 := (bat hb3 fb hew _).trans g4
        replace g5 := (bat hb3 fb hew _).trans g5
        replace hew := Nat.lt_of_lt_of_le hew hz3
        replace o10 := (bat hb3 Wb.heap.size y1o 0).trans o10
        replace o11 := (bat hb3 Wb.heap.size y1o 1).trans o11
        replace o12 := (bat hb3 Wb.heap.size y1o 2).trans o12
        replace y1o := Nat.lt_of_lt_of_le y1o hz3
        obtain ⟨wj, hwj⟩ : ∃ wj : World, wj = w3.alloc (.cells #[.slice Ap x.phis.length cp, .slice Ai x.insts.length ci, .int .i64 x.term.kind, .int .i64 x.term.a, .int .i64 x.term.x, .int .i64 x.term.y] 32) := ⟨_, rfl⟩
        have hBj : Hd (Below w3.heap.size w3 wj) := ⟨by rw [hwj]; exact (Below.refl _ _).al (Nat.le_refl _) _⟩
        have hzj : w3.heap.size < wj.heap.size := by rw [hwj]; simp
        have hkb : Hd (Kp g gm (blk Ao) w3.heap.size (some (.cells #[.slice Ap x.phis.length cp, .slice Ai x.insts.length ci, .int .i64 x.term.kind, .int .i64 x.term.a, .int .i64 x.term.x, .int .i64 x.term.y] 32 (0, 0))) wj) := ⟨⟨hE3.out.si.fresh (Nat.le_refl _) hzj, by rw [hwj]; exact heap_new _ _ _ _ rfl⟩⟩
        have hEj := Hd.mk (hE3.out.below hBj.out)
        have hwj' := Hd.mk hwj
        obtain ⟨zc, y1j⟩ := hEj.out.k1.cells
        have j10 := zc 0
        have j11 := zc 1
        have j12 := zc 2
        obtain ⟨tc, ybj⟩ := hkb.out.cells
        have t0 := tc 0
        have t1 := tc 1
        simp at j10 j11 j12 t0 t1
        have eb0 : (0 : Int) ≤ (b : Int) := by omega
        have eb1 : (b : Int) < (f.blocks.length : Int) := by omega
        have hfij := fun W (hW : Below wj.heap.size wj W) => hfi W (hEj.out.bel.then hW)
        have hgvj : Hd (0 < n → w3.heap.size ≠ gv) := ⟨fun h0 => by obtain ⟨-, h, -⟩ := hvx.2 h0; have := h.lt; omega⟩
        clear hwj zc tc hfi hpc ho3 hvx hb3 ko5
        go_wp2
        rw [← hwj'.out]
        clear o10 o11 o12 g0 g1 g2 g3 g4 g5
        refine wp_region_bel (by kernel_rfl) (by kernel_rfl) ?_
        simp only [List.toList_toArray]
        repeat' first
          | (refine seq_val (by rfl) (by intro W hS; have s0 := (bat hS Wb.heap.size y1j 0).trans j10; have s1 := (bat hS Wb.heap.size y1j 1).trans j11; have s2 := (bat hS Wb.heap.size y1j 2).trans j12; have s3 := (bat hS w3.heap.size ybj 0).trans t0; have s4 := (bat hS w3.heap.size ybj 1).trans t1; go_simp; first | done | rfl) ?_; simp only [Act.put, List.setIfInBounds_toArray, List.set_cons_zero, List.set_cons_succ])
          | (refine seq_skip (by rfl) ?_; simp only [Act.put, List.setIfInBounds_toArray, List.set_cons_zero, List.set_cons_succ])
          | (refine seq_ret 109 _ (by rfl) (by intro W hS; have s0 := (bat hS Wb.heap.size y1j 0).trans j10; have s1 := (bat hS Wb.heap.size y1j 1).trans j11; have s2 := (bat hS Wb.heap.size y1j 2).trans j12; have s3 := (bat hS w3.heap.size ybj 0).trans t0; have s4 := (bat hS w3.heap.size ybj 1).trans t1; go_simp; first | done | rfl) (fun W hS => hfij W hS) ?_; simp only [Act.put, List.setIfInBounds_toArray, List.set_cons_zero, List.set_cons_succ])
          | fail
        refine seq_nil (fun W hS => ?_)
        have s0 := (bat hS Wb.heap.size y1j 0).trans j10
        have s1 := (bat hS Wb.heap.size y1j 1).trans j11
        have s2 := (bat hS Wb.heap.size y1j 2).trans j12
        have s3 := (bat hS w3.heap.size ybj 0).trans t0
        have s4 := (bat hS w3.heap.size ybj 1).trans t1
        go_wp2
        have hEl := Hd.mk (hEj.out.below hS)
        have hKl := Hd.mk (hkb.out.below hS)
        clear s0 s1 s2 s3 s4 t0 t1 j10 j11 j12 hfij hEj hkb hS hE hE3 hBj hwj'
        obtain ⟨wl, rfl⟩ : ∃ wl : World, wl = W := ⟨_, rfl⟩
        go_loopw [15] (fun s15 wr => ∃ (j : Nat) (vals1 : List Int) (s2 : RS) (A : Option Addr) (c : Nat), j ≤ x.insts.length ∧ s15 = .int .i64 j ∧ Hd (Kp g gm (blk A) w3.heap.size (some (.cells #[.slice Ap x.phis.length cp, .slice Ai x.insts.length ci, .int .i64 x.term.kind, .int .i64 x.term.a, .int .i64 x.term.x, .int .i64 x.term.y] 32 (0, 0))) wr) ∧ ((s1.steps ≤ s2.steps ∧ Hd (instsR call f fuel (x.insts.drop j) (idn + j) vals1 s2 = RI) ∧ Hd (EnvX (.slice (some ⟨mb, mo, none⟩) m.funcs.length cm) fuel g gm lo B (.slice A1 f.params.length c1) (.slice (some ⟨fb, fo, none⟩) f.blocks.length c2) f.ret Wb.heap.size A0 Wb n gv Av vals1 s2 A c wr)) ∨ (RI.1 ≠ 0 ∧ Hd (RI.2.2 = s2) ∧ Hd (SX (.slice (some ⟨mb, mo, none⟩) m.funcs.length cm) fuel g gm lo RI.1 s2 A c wr) ∧ Hd (Off g gm (blk A0) Wb wr) ∧ Hd (Nxt Wb (blk A0) (blk A))))) (fun s15 _ => x.insts.length - (intOf s15).toNat)
        case atStart => exact ⟨0, vals, s1, Ao, co, Nat.zero_le _, rfl, hKl, .inl ⟨Nat.le_refl _, hRI', hEl⟩⟩
        case round =>
          clear hRI' hEl hKl
          obtain ⟨j, vals1, s2, Ai2, ci2, hj, rfl, hK2, hcase⟩ := hrel
          obtain ⟨wi, rfl⟩ : ∃ wi : World, wi = wr := ⟨_, rfl⟩
          obtain ⟨tc, tl⟩ := hK2.out.cells
          have t1 := tc 1
          simp at t1
          clear tc
          rcases hcase with ⟨hs12, hI, hE2⟩ | ⟨hne, hse, hS2, hO2, hN2⟩
          · have hsf := Hd.mk hE2.out.s.steps
            by_cases hlt : j < x.insts.length
            · rw [instsR_cons call f fuel x.insts j hlt] at hI
              by_cases hfin : s2.steps = fuel
              · rw [if_pos hfin] at hI
                obtain rfl : D = ((0, 4), s2) := by rw [← hD.out, ← hI.out]; simp
                have hfin' := Hd.mk hfin
                clear hfin hD hI
                go_wp2_with fail
                refine (burn_no _ fuel g gm lo s2 Ai2 ci2 wi hE2.out.si hfin'.out).mono ?_; rintro e w5 ⟨rfl, hS5, hO5⟩
                have hS5' := Hd.mk hS5
                have hO5' := Hd.mk hO5
                clear hS5 hO5 t1
                go_wp2_with fail
                refine (burn_dead _ fuel g gm lo _ _ _ _ _ hS5'.out (by decide)).mono ?_; rintro e w6 ⟨rfl, hS6, hO6⟩
                have hS6' := Hd.mk hS6
                have hO6' := Hd.mk hO6
                clear hS6 hO6
                go_wp2
                go_ret
                exact ⟨_, _, _, rfl, fun h => absurd (show (4 : Int) = 0 from h) (by decide), hS6'.out, (hE2.out.off.trans hE2.out.nxt hO5'.out).trans hE2.out.nxt hO6'.out, hE2.out.nxt⟩
              · rw [if_neg hfin] at hI
                have hfin' := Hd.mk hfin
                clear hfin
                go_wp2_with fail
                refine (burn_yes _ fuel g gm lo s2 Ai2 ci2 wi hE2.out.si hsf.out hfin'.out hfu).mono ?_; rintro e w5 ⟨rfl, hS5, hO5⟩
                have hE5 := Hd.mk (hE2.out.call hS5 (hE2.out.s.step hfin'.out) hO5 (.inl rfl))
                have hK5 := Hd.mk (hK2.out.call hO5 (.inl rfl))
                clear hS5 hO5 t1 tl hK2
                obtain ⟨eb, eo, ecs, hA_, heb, ⟨iv1, rfl, hr_⟩, hat_⟩ := (hri.out).in0 (hE5.out.bel) (j) (hlt)
                cases hA_
                have hew := Nat.lt_of_lt_of_le heb (hE5.out.bel).size
                have g0 := hat_ 0 _ rfl
                have g1 := hat_ 1 _ rfl
                have g2 := hat_ 2 _ rfl
                have g3 := hat_ 3 _ rfl
                have g4 := hat_ 4 _ rfl
                have g5 := hat_ 5 _ rfl
                have g6 := hat_ 6 _ rfl
                clear hat_
                simp at g0 g1 g2 g3 g4 g5 g6
                obtain ⟨Aa, ca, rfl, hca, hla, hra⟩ := hr_.sm
                clear hr_
                have hio := Hd.mk (hbo.out.2.1 x.insts[j] (List.getElem_mem hlt))
                have hci := Hd.mk (hcb.out x.insts[j] (List.getElem_mem hlt))
                generalize x.insts[j] = i at *
                have hdr : Below w5.heap.size w5 w5.drew := (Below.refl _ _).drew
                have hin := s_inst call m _ fuel g gm lo d B f _ gv n Av cv vals1 ⟨s2.mem, s2.out, s2.steps + 1⟩ Ai2 ci2 i (.slice Aa i.args.length ca) w5.drew H.out hd6 (hE5.out.bel.then hdr) hE5.out.si.drew (hE5.out.vx.below hdr) (KM.mv hf'.out (hE5.out.bel.then hdr)) hr.out.ok hn'.out hE5.out.v hE5.out.s hio.out (hra.out.mv (hE5.out.bel.then hdr)) hci.out
                have hdk := Hd.mk (doI_ok hcl.out f hio.out hE5.out.v hE5.out.s)
                have hE5d := Hd.mk (hE5.out.below hdr)
                have hK5d := Hd.mk (hK5.out.below hdr)
                unfold instV at hin
                have hsR : s2.steps + 1 ≤ (doI call f i vals1 ⟨s2.mem, s2.out, s2.steps + 1⟩).2.steps := hdk.out.2.1
                generalize doI call f i vals1 ⟨s2.mem, s2.out, s2.steps + 1⟩ = R at *
                obtain ⟨q, hq⟩ : ∃ q : Nat, q = idn + j := ⟨_, rfl⟩
                have hq' := Hd.mk hq
                rw [← hq] at hI
                have ewq : IntKind.i64.wrap ((idn : Int) + (j : Int)) = (q : Int) := by rw [hq, IntWalk.i64_in _ (by omega)]; simp
                have hqn : q < n := by omega
                have eq1 : (q : Int) < (n : Int) := by omega
                have hn0 : 0 < n := by omega
                obtain ⟨hAv, -, -⟩ := hE5.out.vx.2 hn0
                have hAv' := Hd.mk hAv
                subst hAv
                obtain ⟨yc, y1w⟩ := hE5.out.k1.cells
                have o10 := yc 0
                have o11 := yc 1
                have o12 := yc 2
                obtain ⟨kc, kl⟩ := hK5.out.cells
                have q1 := kc 1
                simp at o10 o11 o12 q1
                have el0 : (0 : Int) ≤ (j : Int) := by omega
                have el1 : (j : Int) < (x.insts.length : Int) := by omega
                have hgvj' := Hd.mk (hgvj.out hn0)
                have hnv1 : Wb.heap.size ≠ gv := by have := hE5d.out.gvB; omega
                have hnv2 : w3.heap.size ≠ gv := hgvj'.out
                have hnv3 : eb ≠ gv := by have := hE5d.out.gvB; omega
                have hne1 : eb ≠ g := by have := hgB'.out.1; omega
                have hne2 : eb ≠ gm := by have := hgB'.out.2.1; omega
                have hne3 : blk Ai2 ≠ some eb := fun e => by have := (hE5d.out.si.blkOf eb e).1; have := hgB'.out.2.2; omega
                have hin' : Calls Tryz.prog 111 #[.pointer (some ⟨g, 0, none⟩), .agg #[.slice A1 f.params.length c1, .int .i64 f.ret, .slice (some ⟨fb, fo, none⟩) f.blocks.length c2], .agg #[.int .i64 i.op, .int .i64 i.w, .int .i64 i.a, .int .i64 i.b, .int .i64 i.c, .int .i64 i.imm, .slice Aa i.args.length ca], .slice (some ⟨gv, 0, none⟩) n cv, .int .i64 d] w5.drew (fun e w6 => ∃ (val : Int) (A6 : Option Addr) (c6 : Nat) (ov : Value), e = .returned (.int .i64 val) ∧ (w6.cell? ⟨Wb.heap.size, 0, none⟩ = some (.slice A1 f.params.length c1) ∧ w6.cell? ⟨Wb.heap.size, 1, none⟩ = some (.int .i64 f.ret) ∧ w6.cell? ⟨Wb.heap.size, 2, none⟩ = some (.slice (some ⟨fb, fo, none⟩) f.blocks.length c2) ∧ w6.cell? ⟨w3.heap.size, 1, none⟩ = some (.slice (some ⟨eb, eo, none⟩) x.insts.length ci) ∧ w6.cell? ⟨eb, eo + j * 7, none⟩ = some (.int .i64 i.op) ∧ w6.cell? ⟨eb, eo + j * 7 + 1, none⟩ = some (.int .i64 i.w) ∧ w6.cell? ⟨eb, eo + j * 7 + 2, none⟩ = some (.int .i64 i.a) ∧ w6.cell? ⟨eb, eo + j * 7 + 3, none⟩ = some (.int .i64 i.b) ∧ w6.cell? ⟨eb, eo + j * 7 + 4, none⟩ = some (.int .i64 i.c) ∧ w6.cell? ⟨eb, eo + j * 7 + 5, none⟩ = some (.int .i64 i.imm) ∧ w6.cell? ⟨eb, eo + j * 7 + 6, none⟩ = some (.slice Aa i.args.length ca)) ∧ w6.cell? ⟨gv, q, none⟩ = some ov ∧ w6.frozen? ⟨gv, q, none⟩ = false ∧ Hd ((R.1.2 = 0 → val = R.1.1) ∧ SX (.slice (some ⟨mb, mo, none⟩) m.funcs.length cm) fuel g gm lo R.1.2 R.2 A6 c6 w6 ∧ Off g gm (blk Ai2) w5.drew w6 ∧ Nxt w5.drew (blk Ai2) (blk A6))) := by
                  refine hin.mono ?_
                  rintro e w6 ⟨A6, c6, val, he, hval, hS6, hO6, hN6⟩
                  have hx6 := hE5d.out.vx.call hO6 hN6
                  obtain ⟨v0, vz⟩ := hx6.val (q : Int) (by omega) eq1
                  rw [Int.toNat_natCast] at v0 vz
                  have k16 := (hE5d.out.k1.call hO6 hN6).cells.1
                  have kb6 := (hK5d.out.call hO6 hN6).cells.1
                  have hinst := fun (o : Nat) => World.cell?_of_block (a := ⟨eb, o, none⟩) (hO6.block eb hew hne1 hne2 hne3)
                  exact ⟨val, A6, c6, _, he, ⟨k16 0, k16 1, k16 2, kb6 1, (hinst _).trans g0, (hinst _).trans g1, (hinst _).trans g2, (hinst _).trans g3, (hinst _).trans g4, (hinst _).trans g5, (hinst _).trans g6⟩, v0, vz, ⟨hval, hS6, hO6, hN6⟩⟩
                clear hin yc kc hq hE5 hK5 hE2 hdr
                go_wp2
                go_region_held3 (fun W => W.cell? ⟨Wb.heap.size, 0, none⟩ = some (.slice A1 f.params.length c1) ∧ W.cell? ⟨Wb.heap.size, 1, none⟩ = some (.int .i64 f.ret) ∧ W.cell? ⟨Wb.heap.size, 2, none⟩ = some (.slice (some ⟨fb, fo, none⟩) f.blocks.length c2) ∧ W.cell? ⟨w3.heap.size, 1, none⟩ = some (.slice (some ⟨eb, eo, none⟩) x.insts.length ci) ∧ W.cell? ⟨eb, eo + j * 7, none⟩ = some (.int .i64 i.op) ∧ W.cell? ⟨eb, eo + j * 7 + 1, none⟩ = some (.int .i64 i.w) ∧ W.cell? ⟨eb, eo + j * 7 + 2, none⟩ = some (.int .i64 i.a) ∧ W.cell? ⟨eb, eo + j * 7 + 3, none⟩ = some (.int .i64 i.b) ∧ W.cell? ⟨eb, eo + j * 7 + 4, none⟩ = some (.int .i64 i.c) ∧ W.cell? ⟨eb, eo + j * 7 + 5, none⟩ = some (.int .i64 i.imm) ∧ W.cell? ⟨eb, eo + j * 7 + 6, none⟩ = some (.slice Aa i.args.length ca))
                  (first | exact ⟨r10, r11, r12, rq1, r0, r1, r2, r3, r4, r5, r6⟩ | exact ⟨(cell_off _ _ _ _ _ _ hnv1).trans r10, (cell_off _ _ _ _ _ _ hnv1).trans r11, (cell_off _ _ _ _ _ _ hnv1).trans r12, (cell_off _ _ _ _ _ _ hnv2).trans rq1, (cell_off _ _ _ _ _ _ hnv3).trans r0, (cell_off _ _ _ _ _ _ hnv3).trans r1, (cell_off _ _ _ _ _ _ hnv3).trans r2, (cell_off _ _ _ _ _ _ hnv3).trans r3, (cell_off _ _ _ _ _ _ hnv3).trans r4, (cell_off _ _ _ _ _ _ hnv3).trans r5, (cell_off _ _ _ _ _ _ hnv3).trans r6⟩ | exact ⟨o10, o11, o12, q1, g0, g1, g2, g3, g4, g5, g6⟩)
                  ((go_at_call 111; refine hin'.mono ?_; rintro e w6 ⟨val, A6, c6, ov, rfl, ⟨r10, r11, r12, rq1, r0, r1, r2, r3, r4, r5, r6⟩, v0, vz, hst6⟩))
                all_goals
                  have hval' := Hd.mk hst6.out.1
                  have hS6' := Hd.mk hst6.out.2.1
                  have hO6' := Hd.mk hst6.out.2.2.1
                  have hN6' := Hd.mk hst6.out.2.2.2
                  have hz6 := hO6'.out.size
                  have hx6' := Hd.mk (hE5d.out.vx.call hO6'.out hN6'.out)
                  by_cases h0 : R.1.2 = 0
                  · have hv0 := hval'.out h0
                    subst hv0
                    rw [if_pos h0] at hI
                    have hS60 := hS6'.out
                    rw [h0] at hS60
                    have hE6 := Hd.mk (hE5d.out.call hS60 hdk.out.1 hO6'.out hN6'.out)
                    have hset := Hd.mk (hE6.out.set hn0 q R.1.1 ⟨hdk.out.2.2.1, hdk.out.2.2.2.1⟩)
                    have hKs := Hd.mk ((hK5d.out.call hO6'.out hN6'.out).far (Off.self (k := q) (.int .i64 R.1.1)) hgvj'.out)
                    have hI' : Hd (instsR call f fuel (x.insts.drop (j + 1)) (idn + (j + 1)) (vals1.set q R.1.1) R.2 = RI) := ⟨by have := hI.out; rw [hq'.out] at this ⊢; exact this⟩
                    clear hS60 hI
                    go_wp2
                    go_roundw
                    case rel => exact ⟨j + 1, _, R.2, A6, c6, by omega, by go_num, hKs, .inl ⟨by omega, hI', hset⟩⟩
                    case measure => simp [intOf]; omega
                  · rw [if_neg h0] at hI
                    have hRI1 : RI.1 = R.1.2 := by rw [← hI.out]
                    have hRI2 : RI.2.2 = R.2 := by rw [← hI.out]
                    obtain ⟨-, ha6, -⟩ := hx6'.out.2 hn0
                    have hSs : Hd (SX (.slice (some ⟨mb, mo, none⟩) m.funcs.length cm) fuel g gm lo RI.1 R.2 A6 c6 (w6.setCell ⟨gv, q, none⟩ (.int .i64 val))) := ⟨by rw [hRI1]; exact hS6'.out.setOff ha6 _⟩
                    have hOs : Hd (Off g gm (blk A0) Wb (w6.setCell ⟨gv, q, none⟩ (.int .i64 val))) := ⟨(hE5d.out.off.trans hE5d.out.nxt hO6'.out).setNew (by have := hE5d.out.gvB; omega) _⟩
                    have hNs : Hd (Nxt Wb (blk A0) (blk A6)) := ⟨hE5d.out.nxt.trans hE5d.out.off.size hN6'.out⟩
                    have hKs := Hd.mk ((hK5d.out.call hO6'.out hN6'.out).far (Off.self (k := q) (.int .i64 val)) hgvj'.out)
                    have hne : RI.1 ≠ 0 := by rw [hRI1]; exact h0
                    have hRI2' := Hd.mk hRI2
                    clear hI hRI1 hRI2 h0 ha6
                    go_wp2
                    go_roundw
                    case rel => exact ⟨j + 1, vals1, R.2, A6, c6, by omega, by go_num, hKs, .inr ⟨hne, hRI2', hSs, hOs, hNs⟩⟩
                    case measure => simp [intOf]; omega
            · have e : j = x.insts.length := by omega
              subst e
              rw [List.drop_length] at hI
              obtain rfl : RI = (0, vals1, s2) := hI.out.symm
              rw [if_pos rfl] at hD
              simp only at hD
              clear hI
              by_cases hfin : s2.steps = fuel
              · rw [if_pos hfin] at hD
                obtain rfl : D = ((0, 4), s2) := hD.out.symm
                have hfin' := Hd.mk hfin
                clear hfin hD
                go_wp2_with fail
                refine (burn_no _ fuel g gm lo s2 Ai2 ci2 wi hE2.out.si hfin'.out).mono ?_; rintro e w5 ⟨rfl, hS5, hO5⟩
                have hS5' := Hd.mk hS5
                have hO5' := Hd.mk hO5
                clear hS5 hO5 t1
                go_wp2
                go_ret
                exact ⟨_, _, _, rfl, fun h => absurd (show (4 : Int) = 0 from h) (by decide), hS5'.out, hE2.out.off.trans hE2.out.nxt hO5'.out, hE2.out.nxt⟩
              · rw [if_neg hfin] at hD
                have hfin' := Hd.mk hfin
                clear hfin
                go_wp2_with fail
                refine (burn_yes _ fuel g gm lo s2 Ai2 ci2 wi hE2.out.si hsf.out hfin'.out hfu).mono ?_; rintro e w5 ⟨rfl, hS5, hO5⟩
                have hE5 := Hd.mk (hE2.out.call hS5 (hE2.out.s.step hfin'.out) hO5 (.inl rfl))
                have hK5 := Hd.mk (hK2.out.call hO5 (.inl rfl))
                clear hS5 hO5 t1 tl hK2 hE2
                have htp := term_parts hbo.out.2.2
                obtain ⟨kc, kl⟩ := hK5.out.cells
                have k2 := kc 2
                have k3 := kc 3
                have k4 := kc 4
                have k5 := kc 5
                simp at k2 k3 k4 k5
                clear kc
                have hprd := fun to h => Hd.mk (hpred.out to h)
                have hxc := Hd.mk (fun (id : Int) (h : 0 ≤ id ∧ id < countOf f) => (show 0 ≤ id ∧ id < (n : Int) from ⟨h.1, by have := hn'.out; omega⟩))
                generalize x.term = t at *
                obtain ⟨tk, ta, tx, ty⟩ := t
                simp only at htp hD k2 k3 k4 k5 hprd
                have hEt := fun z : Int => Hd.mk (hE5.out.below ((Below.refl w5.heap.size w5).al (Nat.le_refl _) (.cells #[.int .i64 z, .int .i64 ta, .int .i64 tx, .int .i64 ty] 29)))
                rcases htp with ⟨rfl, ha0, ha1⟩ | ⟨rfl, hx0, hx1⟩ | ⟨rfl, ⟨ha0, ha1⟩, ⟨hx0, hx1⟩, hy0, hy1⟩ | rfl
                · rw [if_neg (by decide), if_pos rfl] at hD
                  obtain rfl : D = ((vl vals1 ta, 0), ⟨s2.mem, s2.out, s2.steps + 1⟩) := hD.out.symm
                  obtain ⟨e0, e1⟩ := hxc.out ta ⟨ha0, ha1⟩
                  obtain ⟨v0, -⟩ := hE5.out.vx.val ta e0 e1
                  obtain ⟨hAv, hga, -⟩ := hE5.out.vx.2 (by omega)
                  have hgl := hga.lt
                  have hEt1 := hEt 1
                  clear hga hcv' hEt
                  subst hAv
                  clear hD hprd
                  go_wp2
                  go_ret
                  exact ⟨_, _, _, rfl, fun _ => rfl, hEt1.out.si, hEt1.out.off, hEt1.out.nxt⟩
                · rw [if_neg (by decide), if_neg (by decide)] at hD
                  replace hEt := hEt 2
                  obtain ⟨tn, rfl⟩ : ∃ tn : Nat, tx = tn := ⟨tx.toNat, by omega⟩
                  have htn : tn < f.blocks.length := by omega
                  have hpm := (hprd (tn : Int) (by simp [leadsTo])).out
                  have hgt : goTo ⟨2, ta, (tn : Int), ty⟩ vals1 = (tn : Int) := by unfold goTo; simp
                  rw [hgt] at hD
                  have hfN : Hd ((blkAt f (tn : Int)).phis ≠ [] → (b : Int) ∈ predsOf f (tn : Int)) := ⟨fun _ => hpm⟩
                  obtain ⟨cM9, -, -, -, -, k94, -, -, -, -, -⟩ := hEt.out.si.cells
                  have hm9 : Hd (fuelLeft g fuel (w5.alloc (.cells #[.int .i64 2, .int .i64 ta, .int .i64 (tn : Int), .int .i64 ty] 29)) < fuelLeft g fuel wo) := ⟨by
                    have hs9 : s2.steps + 1 ≤ fuel := hEt.out.s.steps
                    unfold fuelLeft
                    rw [k94, ko4'.out]
                    simp [intOf]
                    omega⟩
                  clear hprd hgt hpm k94
                  skip
                  go_wp2
                  go_roundw
                  case rel => exact ⟨k, tn, (b : Int), vals1, ⟨s2.mem, s2.out, s2.steps + 1⟩, Ai2, ci2, gv, _, cv, rfl, rfl, rfl, hcv'.out, htn, by show fuel + 1 - (s2.steps + 1) ≤ k; omega, hfN, hD, hEt⟩
                  case measure => exact hm9.out
                · rw [if_neg (by decide), if_neg (by decide)] at hD
                  obtain ⟨e0, e1⟩ := hxc.out ta ⟨ha0, ha1⟩
                  obtain ⟨v0, -⟩ := hE5.out.vx.val ta e0 e1
                  obtain ⟨hAv, hga, -⟩ := hE5.out.vx.2 (by omega)
                  have hgl := hga.lt
                  replace hEt := hEt 3
                  clear hga
                  subst hAv
                  by_cases hv : vl vals1 ta = 0
                  · rw [hv] at v0
                    obtain ⟨tn, rfl⟩ : ∃ tn : Nat, ty = tn := ⟨ty.toNat, by omega⟩
                    have htn : tn < f.blocks.length := by omega
                    have hpm := (hprd (tn : Int) (by simp [leadsTo])).out
                    have hgt : goTo ⟨3, ta, tx, (tn : Int)⟩ vals1 = (tn : Int) := by unfold goTo; simp [hv]
                    rw [hgt] at hD
                    have hfN : Hd ((blkAt f (tn : Int)).phis ≠ [] → (b : Int) ∈ predsOf f (tn : Int)) := ⟨fun _ => hpm⟩
                    obtain ⟨cM9, -, -, -, -, k94, -, -, -, -, -⟩ := hEt.out.si.cells
                    have hm9 : Hd (fuelLeft g fuel (w5.alloc (.cells #[.int .i64 3, .int .i64 ta, .int .i64 tx, .int .i64 (tn : Int)] 29)) < fuelLeft g fuel wo) := ⟨by
                      have hs9 : s2.steps + 1 ≤ fuel := hEt.out.s.steps
                      unfold fuelLeft
                      rw [k94, ko4'.out]
                      simp [intOf]
                      omega⟩
                    clear hprd hgt hpm k94
                    skip
                    go_wp2
                    go_roundw
                    case rel => exact ⟨k, tn, (b : Int), vals1, ⟨s2.mem, s2.out, s2.steps + 1⟩, Ai2, ci2, gv, _, cv, rfl, rfl, rfl, hcv'.out, htn, by show fuel + 1 - (s2.steps + 1) ≤ k; omega, hfN, hD, hEt⟩
                    case measure => exact hm9.out
                  · have dv := beqF hv
                    obtain ⟨tn, rfl⟩ : ∃ tn : Nat, tx = tn := ⟨tx.toNat, by omega⟩
                    have htn : tn < f.blocks.length := by omega
                    have hpm := (hprd (tn : Int) (by simp [leadsTo])).out
                    have hgt : goTo ⟨3, ta, (tn : Int), ty⟩ vals1 = (tn : Int) := by unfold goTo; simp [hv]
                    rw [hgt] at hD
                    have hfN : Hd ((blkAt f (tn : Int)).phis ≠ [] → (b : Int) ∈ predsOf f (tn : Int)) := ⟨fun _ => hpm⟩
                    obtain ⟨cM9, -, -, -, -, k94, -, -, -, -, -⟩ := hEt.out.si.cells
                    have hm9 : Hd (fuelLeft g fuel (w5.alloc (.cells #[.int .i64 3, .int .i64 ta, .int .i64 (tn : Int), .int .i64 ty] 29)) < fuelLeft g fuel wo) := ⟨by
                      have hs9 : s2.steps + 1 ≤ fuel := hEt.out.s.steps
                      unfold fuelLeft
                      rw [k94, ko4'.out]
                      simp [intOf]
                      omega⟩
                    clear hprd hgt hpm k94
                    have hv' := Hd.mk hv
                    clear hv
                    generalize hva0 : vl vals1 ta = va0 at v0 dv
                    clear hva0
                    go_wp2
                    go_roundw
                    case rel => exact ⟨k, tn, (b : Int), vals1, ⟨s2.mem, s2.out, s2.steps + 1⟩, Ai2, ci2, gv, _, cv, rfl, rfl, rfl, hcv'.out, htn, by show fuel + 1 - (s2.steps + 1) ≤ k; omega, hfN, hD, hEt⟩
                    case measure => exact hm9.out
                · rw [if_pos rfl] at hD
                  obtain rfl : D = ((0, 3), ⟨s2.mem, s2.out, s2.steps + 1⟩) := hD.out.symm
                  replace hEt := hEt 4
                  clear hD hprd
                  go_wp2_with fail
                  refine (s_fail _ fuel g gm lo _ _ _ _ 3 hEt.out.si).mono ?_; rintro e w9 ⟨rfl, hS9, hO9⟩
                  have hS9' := Hd.mk hS9
                  have hO9' := Hd.mk hO9
                  clear hS9 hO9
                  go_wp2
                  go_ret
                  exact ⟨_, _, _, rfl, fun h => absurd (show (3 : Int) = 0 from h) (by decide), hS9'.out, hEt.out.off.trans hEt.out.nxt hO9'.out, hEt.out.nxt⟩
          · obtain rfl : D = ((0, RI.1), s2) := by rw [← hD.out, if_neg hne, hse.out]
            have hne' := Hd.mk hne
            clear hD
            by_cases hlt : j < x.insts.length
            · go_wp2_with fail
              refine (burn_dead _ fuel g gm lo _ _ _ _ _ hS2.out hne'.out).mono ?_; rintro e w5 ⟨rfl, hS5, hO5⟩
              have hS5' := Hd.mk hS5
              have hO5' := Hd.mk hO5
              clear hS5 hO5 t1
              go_wp2_with fail
              refine (burn_dead _ fuel g gm lo _ _ _ _ _ hS5'.out hne'.out).mono ?_; rintro e w6 ⟨rfl, hS6, hO6⟩
              have hS6' := Hd.mk hS6
              have hO6' := Hd.mk hO6
              clear hS6 hO6
              go_wp2
              go_ret
              exact ⟨_, _, _, rfl, fun h => absurd (show RI.1 = 0 from h) hne'.out, hS6'.out, (hO2.out.trans hN2.out hO5'.out).trans hN2.out hO6'.out, hN2.out⟩
            · go_wp2_with fail
              refine (burn_dead _ fuel g gm lo _ _ _ _ _ hS2.out hne'.out).mono ?_; rintro e w6 ⟨rfl, hS6, hO6⟩
              have hS6' := Hd.mk hS6
              have hO6' := Hd.mk hO6
              clear hS6 hO6
              go_wp2
              go_ret
              exact ⟨_, _, _, rfl, fun h => absurd (show RI.1 = 0 from h) hne'.out, hS6'.out, hO2.out.trans hN2.out hO6'.out, hN2.out⟩
end Go.Proofs.YtkcgejbnhpccdaaGreat
