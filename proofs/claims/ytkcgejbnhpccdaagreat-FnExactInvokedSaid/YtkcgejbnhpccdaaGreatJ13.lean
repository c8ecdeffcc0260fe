import Derived.Test.YtkcgejbnhpccdaaGreatJ12
import Derived.Defers
import Derived.Recover
import Derived.Test.YtkcgejbnhpccdaaGreatJ11
import Derived.Test.YtkcgejbnhpccdaaGreatJ08
set_option linter.unusedSimpArgs false
set_option linter.unusedVariables false
namespace Go.Proofs.YtkcgejbnhpccdaaGreat
open Go.RowKit
/-! ### run: what stands beside it, and the closure that it defers -/
/-- A block beside, as it is. -/
structure Kp (g gm : Nat) (o : Option Nat) (b : Nat) (h : Option Obj) (W : World) : Prop where
  asd : Asd g gm o b W
  eq : W.heap[b]? = h
theorem Asd.below {g gm b : Nat} {o : Option Nat} {W W' : World} (h : Asd g gm o b W) (hb : Below W.heap.size W W') : Asd g gm o b W' := h.mv hb.size (.inl rfl)
theorem Kp.below {g gm b : Nat} {o : Option Nat} {x : Option Obj} {W W' : World} (h : Kp g gm o b x W) (hb : Below W.heap.size W W') : Kp g gm o b x W' := ⟨h.asd.below hb, (hb.block b h.asd.lt).trans h.eq⟩
theorem Kp.call {g gm b : Nat} {o o' : Option Nat} {x : Option Obj} {W W' : World} (h : Kp g gm o b x W) (hf : Off g gm o W W') (hn : Nxt W o o') : Kp g gm o' b x W' := ⟨h.asd.mv hf.size hn, (hf.at h.asd).trans h.eq⟩
theorem Kp.far {g gm b gv : Nat} {o : Option Nat} {x : Option Obj} {W W' : World} (h : Kp g gm o b x W) (hf : Off gv gv none W W') (hne : b ≠ gv) : Kp g gm o b x W' := ⟨h.asd.mv hf.size (.inl rfl), (hf.block b h.asd.lt hne hne (by simp)).trans h.eq⟩
theorem Off.self {gv k : Nat} {W : World} (u : Value) : Off gv gv none W (W.setCell ⟨gv, k, none⟩ u) := (Off.refl gv gv none W).set (.inl rfl) u
theorem Kp.cells {g gm b : Nat} {o : Option Nat} {arr : Array Value} {e : Nat} {W : World} (h : Kp g gm o b (some (.cells arr e (0, 0))) W) : (∀ j, W.cell? ⟨b, j, none⟩ = arr[j]?) ∧ b < W.heap.size := ⟨(row_facts h.eq).1, h.asd.lt⟩
/-- A new block lies beside. -/
theorem SI.fresh {mv : Value} {fuel g gm lo : Nat} {d : Int} {s : RS} {A : Option Addr} {c : Nat} {W W' : World} (h : SI mv fuel g gm lo d s A c W) {b : Nat} (hb : W.heap.size ≤ b) (hlt : b < W'.heap.size) : Asd g gm (Go.Proofs.YtkcgejbnhpccdaaGreat.blk A) b W' := by
  obtain ⟨cm, -, -, -, -, -, -, -, kg, kgm, -⟩ := h.cells
  exact ⟨hlt, by omega, by omega, fun e => by have := (h.blk b e).2; omega⟩
structure Env (mv : Value) (fuel g gm lo : Nat) (d : Int) (B : World) (pv bv : Value) (ret : Int) (gx gv n b0 b1 : Nat) (A0 : Option Addr) (Wb : World) (vals : List Int) (s : RS) (A : Option Addr) (c : Nat) (W : World) : Prop where
  si : SI mv fuel g gm lo d s A c W
  fr : FR pv bv ret gx gv n vals W
  v : VOk n vals
  s : ROk fuel s
  k0 : Kp g gm (blk A) b0 (some (.cells #[.pointer (some ⟨g, 0, none⟩)] 101 (0, 0))) W
  k1 : Kp g gm (blk A) b1 (some (.cells #[pv, .int .i64 ret, bv] 35 (0, 0))) W
  kx : Asd g gm (blk A) gx W
  kv : Asd g gm (blk A) gv W
  off : Off g gm (blk A0) Wb W
  nxt : Nxt Wb (blk A0) (blk A)
  bel : Below B.heap.size B W
  n0 : b0 ≠ gv
  n1 : b1 ≠ gv
  gB : B.heap.size ≤ g ∧ B.heap.size ≤ gm ∧ B.heap.size ≤ lo
  vB : Wb.heap.size ≤ gv ∧ B.heap.size ≤ Wb.heap.size
section
variable {mv : Value} {fuel g gm lo : Nat} {d : Int} {B : World} {pv bv : Value} {ret : Int} {gx gv n b0 b1 : Nat} {A0 : Option Addr} {Wb : World} {vals : List Int} {s : RS} {A : Option Addr} {c : Nat} {W W' : World}
theorem Env.below (h : Env mv fuel g gm lo d B pv bv ret gx gv n b0 b1 A0 Wb vals s A c W) (hb : Below W.heap.size W W') : Env mv fuel g gm lo d B pv bv ret gx gv n b0 b1 A0 Wb vals s A c W' :=
  ⟨h.si.mv hb, h.fr.mv hb, h.v, h.s, h.k0.below hb, h.k1.below hb, h.kx.below hb, h.kv.below hb, h.off.then hb, h.nxt, h.bel.then hb, h.n0, h.n1, h.gB, h.vB⟩
theorem Env.drewN (h : Env mv fuel g gm lo d B pv bv ret gx gv n b0 b1 A0 Wb vals s A c W) (k : Nat) : Env mv fuel g gm lo d B pv bv ret gx gv n b0 b1 A0 Wb vals s A c (W.drewN k) := h.below (drewN_below (Below.refl _ _) k)
theorem Env.call (h : Env mv fuel g gm lo d B pv bv ret gx gv n b0 b1 A0 Wb vals s A c W) {s' : RS} {A' : Option Addr} {c' : Nat} (hs : SI mv fuel g gm lo d s' A' c' W') (hr : ROk fuel s') (hf : Off g gm (blk A) W W') (hn : Nxt W (blk A) (blk A')) : Env mv fuel g gm lo d B pv bv ret gx gv n b0 b1 A0 Wb vals s' A' c' W' :=
  ⟨hs, h.fr.off hf h.kx h.kv, h.v, hr, h.k0.call hf hn, h.k1.call hf hn, h.kx.mv hf.size hn, h.kv.mv hf.size hn, h.off.trans h.nxt hf, h.nxt.trans h.off.size hn,
    h.bel.trans (hf.below h.gB.1 h.gB.2.1 (fun b hb => Nat.le_trans h.gB.2.2 (h.si.blk b hb).1) h.bel.size), h.n0, h.n1, h.gB, h.vB⟩
theorem Env.far (h : Env mv fuel g gm lo d B pv bv ret gx gv n b0 b1 A0 Wb vals s A c W) {vals' : List Int} (hf : Off gv gv none W W') (hr : FR pv bv ret gx gv n vals' W') (hv : VOk n vals') : Env mv fuel g gm lo d B pv bv ret gx gv n b0 b1 A0 Wb vals' s A c W' :=
  ⟨h.si.far hf h.kv, hr, hv, h.s, h.k0.far hf h.n0, h.k1.far hf h.n1, h.kx.mv hf.size (.inl rfl), h.kv.mv hf.size (.inl rfl),
    ⟨hf.os.trans h.off.os, hf.tape.trans h.off.tape, hf.output.trans h.off.output, Nat.le_trans h.off.size hf.size, fun b hb h1 h2 h3 => (hf.block b (Nat.lt_of_lt_of_le hb h.off.size) (by have := h.vB.1; omega) (by have := h.vB.1; omega) (by simp)).trans (h.off.block b hb h1 h2 h3)⟩,
    h.nxt, h.bel.trans ⟨hf.os, hf.tape, hf.output, hf.size, fun b hb => hf.block b (by have := h.bel.size; omega) (by have := h.vB; omega) (by have := h.vB; omega) (by simp)⟩, h.n0, h.n1, h.gB, h.vB⟩
theorem Env.set (h : Env mv fuel g gm lo d B pv bv ret gx gv n b0 b1 A0 Wb vals s A c W) (k : Nat) (v : Int) (hv : 0 ≤ v ∧ v ≤ 4294967295) : Env mv fuel g gm lo d B pv bv ret gx gv n b0 b1 A0 Wb (vals.set k v) s A c (W.setCell ⟨gv, k, none⟩ (.int .i64 v)) :=
  h.far (Off.self _) (h.fr.set k v) (h.v.set k v hv)
/-- The frame is left. -/
theorem Env.done (h : Env mv fuel g gm lo d B pv bv ret gx gv n b0 b1 A0 Wb vals s A c W) (d' : Int) (hd : d' = d - 1) (R : (Int × Int) × RS) (hR : R.2 = s) : DoneR mv fuel g gm lo d' R A0 Wb (.returned (.tuple #[.int .i64 R.1.1, .int .i64 R.1.2])) (W.setCell ⟨g, 5, none⟩ (.int .i64 (d - 1))) := by
  subst hd
  refine ⟨A, c, rfl, ?_, h.off.set (.inl rfl) _, h.nxt⟩
  rw [hR]
  exact h.si.setDeep (d - 1)
theorem Env.deep (h : Env mv fuel g gm lo d B pv bv ret gx gv n b0 b1 A0 Wb vals s A c W) : W.cell? ⟨b0, 0, none⟩ = some (.pointer (some ⟨g, 0, none⟩)) ∧ W.cell? ⟨g, 5, none⟩ = some (.int .i64 d) ∧ W.frozen? ⟨g, 5, none⟩ = false := by
  obtain ⟨cm, -, -, -, -, -, k5, kf, -⟩ := h.si.cells
  exact ⟨h.k0.cells.1 0, k5, kf 5⟩
end
theorem RI.set {W : World} {va : Value} {xs : List Int} {g j : Nat} {u : Value} (h : RI lm W va xs) (hb : 0 < xs.length → ∀ b, va.ownBlock = some b → b ≠ g) : RI lm (W.setCell ⟨g, j, none⟩ u) va xs := by
  obtain ⟨A, c, rfl, h1, h2, hz, h3⟩ := h
  refine ⟨A, c, rfl, h1, h2, hz, fun h0 => ?_⟩
  obtain ⟨b, off, rfl, hlt, hat⟩ := h3 h0
  refine ⟨b, off, rfl, by rw [setCell_size]; exact hlt, fun i hi => ?_⟩
  obtain ⟨cs, hk, hl, hc⟩ := hat i hi
  exact ⟨cs, hk, hl, fun j' hj => (World.cell?_of_block (a := ⟨b, _, none⟩) (Below.heap_setCell _ _ _ _ (hb h0 b rfl))).trans (hc j' hj)⟩
theorem run1 (b0 g : Nat) (d : Int) (u : FrameMode) (W : World) (h0 : W.cell? ⟨b0, 0, none⟩ = some (.pointer (some ⟨g, 0, none⟩)) ∧ W.cell? ⟨g, 5, none⟩ = some (.int .i64 d) ∧ W.frozen? ⟨g, 5, none⟩ = false) (hd : 1 ≤ d ∧ d ≤ 7) :
    CallsD Tryz.prog 93 #[.pointer (some ⟨b0, 0, none⟩)] u W fun e u' w' => u' = u ∧ (e = .returned (.tuple #[]) ∧ w' = W.setCell ⟨g, 5, none⟩ (.int .i64 (d - 1))) := by
  obtain ⟨h0, h5, hz⟩ := h0
  have ew : IntKind.i64.wrap (d - 1) = d - 1 := IntWalk.i64_in _ (by omega)
  go_enter_d Tryz.func93, Tryz.ntmps93
  go_wp2
  go_end0
  exact ⟨rfl, rfl⟩
end Go.Proofs.YtkcgejbnhpccdaaGreat
set_option linter.unusedSimpArgs false
set_option linter.unusedVariables false
namespace Go.Proofs.YtkcgejbnhpccdaaGreat
open Go.RowKit
set_option maxRecDepth 20000 in
set_option maxHeartbeats 8000000 in
theorem s_l4Args (f : XFunc) (cs : List Value) (i : XInst) (v : Value) (n : Int) (w : World) (hf : KFunc lm w f cs) (hok : funcOk f n = true) (hi : instOk (countOf f) n i = true) (hv : RI lm w v i.args) : Calls Tryz.prog 150 #[.agg cs.toArray, instV i v] w (Ret (.bool (typedI f i)) w) := by
  have hc60 := (func_fo hok).2.1
  obtain ⟨⟨ha0, ha1⟩, ⟨hb0, hb1⟩, hc0, hc1⟩ := inst_abc hi (countOf_nn f)
  have hnn := Hd.mk (fun (h : i.op = 18 ∨ i.op = 19 ∨ i.op = 25) => type_nn hok ha0 (by
    have := (inst_parts hi).2.1 i.a (by unfold opsOf bin cst inR; rcases h with e | e | e <;> simp [e])
    exact this.2))
  have hty := fun W hW id hid => s_TypeOfK f cs id n W (KM.mv hf hW) hok hid
  obtain ⟨v1, v2, rfl, hp, hb⟩ := hf
  obtain ⟨A1, c1, rfl, -, hl1, -⟩ := hp.sm
  obtain ⟨A2, c2, rfl, hcap, hl2, -⟩ := hb.sm
  obtain ⟨A7, c7, rfl, -, -, -⟩ := hv.sm
  have hbl := fun o o' => ((Below.refl w.heap.size w).al (Nat.le_refl _) o).al (by simp) o'
  obtain ⟨W0, hW0⟩ : ∃ W0 : World, W0 = (w.alloc (.cells #[.slice A1 f.params.length c1, .int .i64 f.ret, .slice A2 f.blocks.length c2] 35)).alloc (.cells #[.int .i64 i.op, .int .i64 i.w, .int .i64 i.a, .int .i64 i.b, .int .i64 i.c, .int .i64 i.imm, .slice A7 i.args.length c7] 26) := ⟨_, rfl⟩
  have hB0 : Below w.heap.size w W0 := by rw [hW0]; exact hbl _ _
  have hz0 : W0.heap.size = w.heap.size + 2 := by rw [hW0]; simp
  have hxc : ∀ o u, [Value.int .i64 i.op, .int .i64 i.w, .int .i64 i.a, .int .i64 i.b, .int .i64 i.c, .int .i64 i.imm, .slice A7 i.args.length c7][o]? = some u → W0.cell? ⟨w.heap.size + 1, o, none⟩ = some u := fun o u hu => by rw [hW0]; exact new_cell _ _ _ (by simp) o u (by simpa using hu)
  have hzf : ∀ o u, [Value.slice A1 f.params.length c1, .int .i64 f.ret, .slice A2 f.blocks.length c2][o]? = some u → W0.cell? ⟨w.heap.size, o, none⟩ = some u := fun o u hu => by rw [hW0]; exact (World.cell?_alloc_past _ _ _ (by first | omega | (simp; done) | (simp; omega))).trans (new_cell _ _ _ rfl o u (by simpa using hu))
  have hib := fun W => s_l1In i.op 1 17 W
  clear hp hb hv hi
  generalize hR : typedI f i = R
  have hR' := Hd.mk hR
  clear hR
  unfold typedI at hR'
  obtain ⟨op, wd, a, b, c, imm, args⟩ := i
  simp only [instV] at *
  have hxc' := Hd.mk hxc
  have hzf' := Hd.mk hzf
  have hW0' := Hd.mk hW0
  have hB0' := Hd.mk hB0
  clear hxc hzf hW0 hB0
  have hta := fun W hW => hty W hW a (by omega)
  have htb := fun W hW => hty W hW b (by omega)
  have htc := fun W hW => hty W hW c (by omega)
  clear hty
  have hok' := Hd.mk hok
  clear hok ha0 ha1 hb0 hb1 hc0 hc1
  generalize typeOf f a = ta at *
  generalize typeOf f b = tb at *
  generalize typeOf f c = tc at *
  have hbi : inR op 1 17 = bin op := rfl
  rw [hbi] at hib
  clear hbi
  cases hbin : bin op
  rotate_left
  · rw [hbin] at hib
    rw [if_pos hbin] at hR'
    clear hbin
    have hv : R = (ta == wd && tb == wd) := hR'.out.symm
    subst hv
    clear hR'
    go_enter Tryz.func150, Tryz.ntmps150
    go_wp2_with fail
    rw [← hW0'.out]
    have y0 := hzf'.out 0 _ rfl
    have y1 := hzf'.out 1 _ rfl
    have y2 := hzf'.out 2 _ rfl
    have x0 := hxc'.out 0 _ rfl
    have x1 := hxc'.out 1 _ rfl
    have x2 := hxc'.out 2 _ rfl
    have x3 := hxc'.out 3 _ rfl
    have x4 := hxc'.out 4 _ rfl
    have x5 := hxc'.out 5 _ rfl
    have x6 := hxc'.out 6 _ rfl
    go_wp2_with fail
    refine (hta W0 hB0'.out).mono ?_; rintro e w1 ⟨rfl, hb1⟩
    replace y0 := (bat hb1 w.heap.size (by omega) 0).trans y0
    replace y1 := (bat hb1 w.heap.size (by omega) 1).trans y1
    replace y2 := (bat hb1 w.heap.size (by omega) 2).trans y2
    replace x0 := (bat hb1 (w.heap.size + 1) (by omega) 0).trans x0
    replace x1 := (bat hb1 (w.heap.size + 1) (by omega) 1).trans x1
    replace x2 := (bat hb1 (w.heap.size + 1) (by omega) 2).trans x2
    replace x3 := (bat hb1 (w.heap.size + 1) (by omega) 3).trans x3
    replace x4 := (bat hb1 (w.heap.size + 1) (by omega) 4).trans x4
    replace x5 := (bat hb1 (w.heap.size + 1) (by omega) 5).trans x5
    replace x6 := (bat hb1 (w.heap.size + 1) (by omega) 6).trans x6
    have hz1 := hb1.size
    have hB1 := Hd.mk (hB0'.out.then hb1)
    have hlw : w.heap.size + 1 < w1.heap.size := by omega
    clear hb1 hta
    go_wp2_with fail
    refine (hib _).mono ?_; rintro e w' ⟨rfl, rfl⟩
    cases q0 : (ta == wd) with
    | false =>
      go_wp2
      refine wp_region_bel (by kernel_rfl) (by kernel_rfl) ?_
      simp only [List.toList_toArray]
      repeat' first
        | (refine seq_val (by rfl) (by intro W hS; have s0 := (bat hS w.heap.size (by omega) 0).trans y0; have s1 := (bat hS w.heap.size (by omega) 1).trans y1; have s2 := (bat hS w.heap.size (by omega) 2).trans y2; have r0 := (bat hS (w.heap.size + 1) hlw 0).trans x0; have r1 := (bat hS (w.heap.size + 1) hlw 1).trans x1; have r2 := (bat hS (w.heap.size + 1) hlw 2).trans x2; have r3 := (bat hS (w.heap.size + 1) hlw 3).trans x3; have r4 := (bat hS (w.heap.size + 1) hlw 4).trans x4; have r5 := (bat hS (w.heap.size + 1) hlw 5).trans x5; have r6 := (bat hS (w.heap.size + 1) hlw 6).trans x6; go_simp; first | done | rfl) ?_; simp only [Act.put, List.setIfInBounds_toArray, List.set_cons_zero, List.set_cons_succ])
        | (refine seq_skip (by rfl) ?_; simp only [Act.put, List.setIfInBounds_toArray, List.set_cons_zero, List.set_cons_succ])
        | fail
      refine seq_nil (fun W hS => ?_)
      have s0 := (bat hS w.heap.size (by omega) 0).trans y0
      have s1 := (bat hS w.heap.size (by omega) 1).trans y1
      have s2 := (bat hS w.heap.size (by omega) 2).trans y2
      have r0 := (bat hS (w.heap.size + 1) hlw 0).trans x0
      have r1 := (bat hS (w.heap.size + 1) hlw 1).trans x1
      have r2 := (bat hS (w.heap.size + 1) hlw 2).trans x2
      have r3 := (bat hS (w.heap.size + 1) hlw 3).trans x3
      have r4 := (bat hS (w.heap.size + 1) hlw 4).trans x4
      have r5 := (bat hS (w.heap.size + 1) hlw 5).trans x5
      have r6 := (bat hS (w.heap.size + 1) hlw 6).trans x6
      go_wp2
      go_ret
      exact ⟨by simp [q0], hB1.out.then hS⟩
    | true =>
      cases q1 : (tb == wd) with
      | false =>
        go_wp2
        refine wp_region_bel (by kernel_rfl) (by kernel_rfl) ?_
        simp only [List.toList_toArray]
        repeat' first
          | (refine seq_val (by rfl) (by intro W hS; have s0 := (bat hS w.heap.size (by omega) 0).trans y0; have s1 := (bat hS w.heap.size (by omega) 1).trans y1; have s2 := (bat hS w.heap.size (by omega) 2).trans y2; have r0 := (bat hS (w.heap.size + 1) hlw 0).trans x0; have r1 := (bat hS (w.heap.size + 1) hlw 1).trans x1; have r2 := (bat hS (w.heap.size + 1) hlw 2).trans x2; have r3 := (bat hS (w.heap.size + 1) hlw 3).trans x3; have r4 := (bat hS (w.heap.size + 1) hlw 4).trans x4; have r5 := (bat hS (w.heap.size + 1) hlw 5).trans x5; have r6 := (bat hS (w.heap.size + 1) hlw 6).trans x6; go_simp; first | done | rfl) ?_; simp only [Act.put, List.setIfInBounds_toArray, List.set_cons_zero, List.set_cons_succ])
          | (refine seq_skip (by rfl) ?_; simp only [Act.put, List.setIfInBounds_toArray, List.set_cons_zero, List.set_cons_succ])
          | (refine seq_ret 149 _ (by rfl) (by intro W hS; have s0 := (bat hS w.heap.size (by omega) 0).trans y0; have s1 := (bat hS w.heap.size (by omega) 1).trans y1; have s2 := (bat hS w.heap.size (by omega) 2).trans y2; have r0 := (bat hS (w.heap.size + 1) hlw 0).trans x0; have r1 := (bat hS (w.heap.size + 1) hlw 1).trans x1; have r2 := (bat hS (w.heap.size + 1) hlw 2).trans x2; have r3 := (bat hS (w.heap.size + 1) hlw 3).trans x3; have r4 := (bat hS (w.heap.size + 1) hlw 4).trans x4; have r5 := (bat hS (w.heap.size + 1) hlw 5).trans x5; have r6 := (bat hS (w.heap.size + 1) hlw 6).trans x6; go_simp; first | done | rfl) (fun W hS => htb W (hB1.out.then hS)) ?_; simp only [Act.put, List.setIfInBounds_toArray, List.set_cons_zero, List.set_cons_succ])
          | fail
        refine seq_nil (fun W hS => ?_)
        have s0 := (bat hS w.heap.size (by omega) 0).trans y0
        have s1 := (bat hS w.heap.size (by omega) 1).trans y1
        have s2 := (bat hS w.heap.size (by omega) 2).trans y2
        have r0 := (bat hS (w.heap.size + 1) hlw 0).trans x0
        have r1 := (bat hS (w.heap.size + 1) hlw 1).trans x1
        have r2 := (bat hS (w.heap.size + 1) hlw 2).trans x2
        have r3 := (bat hS (w.heap.size + 1) hlw 3).trans x3
        have r4 := (bat hS (w.heap.size + 1) hlw 4).trans x4
        have r5 := (bat hS (w.heap.size + 1) hlw 5).trans x5
        have r6 := (bat hS (w.heap.size + 1) hlw 6).trans x6
        go_wp2
        go_ret
        exact ⟨by simp [q0, q1], hB1.out.then hS⟩
      | true =>
        go_wp2
        refine wp_region_bel (by kernel_rfl) (by kernel_rfl) ?_
        simp only [List.toList_toArray]
        repeat' first
          | (refine seq_val (by rfl) (by intro W hS; have s0 := (bat hS w.heap.size (by omega) 0).trans y0; have s1 := (bat hS w.heap.size (by omega) 1).trans y1; have s2 := (bat hS w.heap.size (by omega) 2).trans y2; have r0 := (bat hS (w.heap.size + 1) hlw 0).trans x0; have r1 := (bat hS (w.heap.size + 1) hlw 1).trans x1; have r2 := (bat hS (w.heap.size + 1) hlw 2).trans x2; have r3 := (bat hS (w.heap.size + 1) hlw 3).trans x3; have r4 := (bat hS (w.heap.size + 1) hlw 4).trans x4; have r5 := (bat hS (w.heap.size + 1) hlw 5).trans x5; have r6 := (bat hS (w.heap.size + 1) hlw 6).trans x6; go_simp; first | done | rfl) ?_; simp only [Act.put, List.setIfInBounds_toArray, List.set_cons_zero, List.set_cons_succ])
          | (refine seq_skip (by rfl) ?_; simp only [Act.put, List.setIfInBounds_toArray, List.set_cons_zero, List.set_cons_succ])
          | (refine seq_ret 149 _ (by rfl) (by intro W hS; have s0 := (bat hS w.heap.size (by omega) 0).trans y0; have s1 := (bat hS w.heap.size (by omega) 1).trans y1; have s2 := (bat hS w.heap.size (by omega) 2).trans y2; have r0 := (bat hS (w.heap.size + 1) hlw 0).trans x0; have r1 := (bat hS (w.heap.size + 1) hlw 1).trans x1; have r2 := (bat hS (w.heap.size + 1) hlw 2).trans x2; have r3 := (bat hS (w.heap.size + 1) hlw 3).trans x3; have r4 := (bat hS (w.heap.size + 1) hlw 4).trans x4; have r5 := (bat hS (w.heap.size + 1) hlw 5).trans x5; have r6 := (bat hS (w.heap.size + 1) hlw 6).trans x6; go_simp; first | done | rfl) (fun W hS => htb W (hB1.out.then hS)) ?_; simp only [Act.put, List.setIfInBounds_toArray, List.set_cons_zero, List.set_cons_succ])
          | fail
        refine seq_nil (fun W hS => ?_)
        have s0 := (bat hS w.heap.size (by omega) 0).trans y0
        have s1 := (bat hS w.heap.size (by omega) 1).trans y1
        have s2 := (bat hS w.heap.size (by omega) 2).trans y2
        have r0 := (bat hS (w.heap.size + 1) hlw 0).trans x0
        have r1 := (bat hS (w.heap.size + 1) hlw 1).trans x1
        have r2 := (bat hS (w.heap.size + 1) hlw 2).trans x2
        have r3 := (bat hS (w.heap.size + 1) hlw 3).trans x3
        have r4 := (bat hS (w.heap.size + 1) hlw 4).trans x4
        have r5 := (bat hS (w.heap.size + 1) hlw 5).trans x5
        have r6 := (bat hS (w.heap.size + 1) hlw 6).trans x6
        go_wp2
        go_ret
        exact ⟨by simp [q0, q1], hB1.out.then hS⟩
  rw [hbin] at hib
  rw [if_neg (by rw [hbin]; decide)] at hR'
  clear hbin
  by_cases h27 : op = 27
  · subst h27
    simp only [beq_self_eq_true, if_true, Int.reduceBEq, Bool.false_eq_true, if_false, Bool.or_true, Bool.true_or] at hR'
    have hv : R = (ta == wd) := hR'.out.symm
    subst hv
    clear hR'
    go_enter Tryz.func150, Tryz.ntmps150
    go_wp2_with fail
    rw [← hW0'.out]
    have y0 := hzf'.out 0 _ rfl
    have y1 := hzf'.out 1 _ rfl
    have y2 := hzf'.out 2 _ rfl
    have x0 := hxc'.out 0 _ rfl
    have x1 := hxc'.out 1 _ rfl
    have x2 := hxc'.out 2 _ rfl
    have x3 := hxc'.out 3 _ rfl
    have x4 := hxc'.out 4 _ rfl
    have x5 := hxc'.out 5 _ rfl
    have x6 := hxc'.out 6 _ rfl
    go_wp2_with fail
    refine (hta W0 hB0'.out).mono ?_; rintro e w1 ⟨rfl, hb1⟩
    replace y0 := (bat hb1 w.heap.size (by omega) 0).trans y0
    replace y1 := (bat hb1 w.heap.size (by omega) 1).trans y1
    replace y2 := (bat hb1 w.heap.size (by omega) 2).trans y2
    replace x0 := (bat hb1 (w.heap.size + 1) (by omega) 0).trans x0
    replace x1 := (bat hb1 (w.heap.size + 1) (by omega) 1).trans x1
    replace x2 := (bat hb1 (w.heap.size + 1) (by omega) 2).trans x2
    replace x3 := (bat hb1 (w.heap.size + 1) (by omega) 3).trans x3
    replace x4 := (bat hb1 (w.heap.size + 1) (by omega) 4).trans x4
    replace x5 := (bat hb1 (w.heap.size + 1) (by omega) 5).trans x5
    replace x6 := (bat hb1 (w.heap.size + 1) (by omega) 6).trans x6
    have hz1 := hb1.size
    have hB1 := Hd.mk (hB0'.out.then hb1)
    have hlw : w.heap.size + 1 < w1.heap.size := by omega
    clear hb1 hta
    go_wp2_with fail
    refine (hib _).mono ?_; rintro e w' ⟨rfl, rfl⟩
    go_wp2
    go_ret
    exact ⟨by first | rfl | simp, hB1.out⟩
  have b27 := beqF h27
  simp only [b27, Bool.false_eq_true, if_false, Bool.or_false, Bool.false_or] at hR'
  by_cases h18 : op = 18
  · subst h18
    simp only [beq_self_eq_true, if_true, Int.reduceBEq, Bool.false_eq_true, if_false, Bool.or_true, Bool.true_or] at hR'
    have nn := hnn.out (by simp)
    have hpos : (ta != 0) = decide (ta > 0) := by
      by_cases t : ta = 0
      · subst t; rfl
      · rw [bneT t]; exact (decide_eq_true (by omega)).symm
    rw [hpos] at hR'
    clear hpos nn
    have hv : R = (decide (ta > 0) && decide (ta < wd)) := hR'.out.symm
    subst hv
    clear hR'
    by_cases t0 : ta > 0
    · have t1 : decide (ta > 0) = true := by simpa using t0
      go_enter Tryz.func150, Tryz.ntmps150
      go_wp2_with fail
      rw [← hW0'.out]
      have y0 := hzf'.out 0 _ rfl
      have y1 := hzf'.out 1 _ rfl
      have y2 := hzf'.out 2 _ rfl
      have x0 := hxc'.out 0 _ rfl
      have x1 := hxc'.out 1 _ rfl
      have x2 := hxc'.out 2 _ rfl
      have x3 := hxc'.out 3 _ rfl
      have x4 := hxc'.out 4 _ rfl
      have x5 := hxc'.out 5 _ rfl
      have x6 := hxc'.out 6 _ rfl
      go_wp2_with fail
      refine (hta W0 hB0'.out).mono ?_; rintro e w1 ⟨rfl, hb1⟩
      replace y0 := (bat hb1 w.heap.size (by omega) 0).trans y0
      replace y1 := (bat hb1 w.heap.size (by omega) 1).trans y1
      replace y2 := (bat hb1 w.heap.size (by omega) 2).trans y2
      replace x0 := (bat hb1 (w.heap.size + 1) (by omega) 0).trans x0
      replace x1 := (bat hb1 (w.heap.size + 1) (by omega) 1).trans x1
      replace x2 := (bat hb1 (w.heap.size + 1) (by omega) 2).trans x2
      replace x3 := (bat hb1 (w.heap.size + 1) (by omega) 3).trans x3
      replace x4 := (bat hb1 (w.heap.size + 1) (by omega) 4).trans x4
      replace x5 := (bat hb1 (w.heap.size + 1) (by omega) 5).trans x5
      replace x6 := (bat hb1 (w.heap.size + 1) (by omega) 6).trans x6
      have hz1 := hb1.size
      have hB1 := Hd.mk (hB0'.out.then hb1)
      have hlw : w.heap.size + 1 < w1.heap.size := by omega
      clear hb1 hta
      go_wp2_with fail
      refine (hib _).mono ?_; rintro e w' ⟨rfl, rfl⟩
      go_wp2
      go_ret
      exact ⟨by first | (simp [t0]; done) | (simp; omega), hB1.out⟩
    have t1 : decide (ta > 0) = false := by simpa using t0
    go_enter Tryz.func150, Tryz.ntmps150
    go_wp2_with fail
    rw [← hW0'.out]
    have y0 := hzf'.out 0 _ rfl
    have y1 := hzf'.out 1 _ rfl
    have y2 := hzf'.out 2 _ rfl
    have x0 := hxc'.out 0 _ rfl
    have x1 := hxc'.out 1 _ rfl
    have x2 := hxc'.out 2 _ rfl
    have x3 := hxc'.out 3 _ rfl
    have x4 := hxc'.out 4 _ rfl
    have x5 := hxc'.out 5 _ rfl
    have x6 := hxc'.out 6 _ rfl
    go_wp2_with fail
    refine (hta W0 hB0'.out).mono ?_; rintro e w1 ⟨rfl, hb1⟩
    replace y0 := (bat hb1 w.heap.size (by omega) 0).trans y0
    replace y1 := (bat hb1 w.heap.size (by omega) 1).trans y1
    replace y2 := (bat hb1 w.heap.size (by omega) 2).trans y2
    replace x0 := (bat hb1 (w.heap.size + 1) (by omega) 0).trans x0
    replace x1 := (bat hb1 (w.heap.size + 1) (by omega) 1).trans x1
    replace x2 := (bat hb1 (w.heap.size + 1) (by omega) 2).trans x2
    replace x3 := (bat hb1 (w.heap.size + 1) (by omega) 3).trans x3
    replace x4 := (bat hb1 (w.heap.size + 1) (by omega) 4).trans x4
    replace x5 := (bat hb1 (w.heap.size + 1) (by omega) 5).trans x5
    replace x6 := (bat hb1 (w.heap.size + 1) (by omega) 6).trans x6
    have hz1 := hb1.size
    have hB1 := Hd.mk (hB0'.out.then hb1)
    have hlw : w.heap.size + 1 < w1.heap.size := by omega
    clear hb1 hta
    go_wp2_with fail
    refine (hib _).mono ?_; rintro e w' ⟨rfl, rfl⟩
    go_wp2
    go_ret
    exact ⟨by first | (simp [t0]; done) | (simp; omega), hB1.out⟩
  have b18 := beqF h18
  simp only [b18, Bool.false_eq_true, if_false, Bool.or_false, Bool.false_or] at hR'
  by_cases h19 : op = 19
  · subst h19
    simp only [beq_self_eq_true, if_true, Int.reduceBEq, Bool.false_eq_true, if_false, Bool.or_true, Bool.true_or] at hR'
    have nn := hnn.out (by simp)
    have hpos : (ta != 0) = decide (ta > 0) := by
      by_cases t : ta = 0
      · subst t; rfl
      · rw [bneT t]; exact (decide_eq_true (by omega)).symm
    rw [hpos] at hR'
    clear hpos nn
    have hv : R = (decide (ta > 0) && decide (ta < wd)) := hR'.out.symm
    subst hv
    clear hR'
    by_cases t0 : ta > 0
    · have t1 : decide (ta > 0) = true := by simpa using t0
      go_enter Tryz.func150, Tryz.ntmps150
      go_wp2_with fail
      rw [← hW0'.out]
      have y0 := hzf'.out 0 _ rfl
      have y1 := hzf'.out 1 _ rfl
      have y2 := hzf'.out 2 _ rfl
      have x0 := hxc'.out 0 _ rfl
      have x1 := hxc'.out 1 _ rfl
      have x2 := hxc'.out 2 _ rfl
      have x3 := hxc'.out 3 _ rfl
      have x4 := hxc'.out 4 _ rfl
      have x5 := hxc'.out 5 _ rfl
      have x6 := hxc'.out 6 _ rfl
      go_wp2_with fail
      refine (hta W0 hB0'.out).mono ?_; rintro e w1 ⟨rfl, hb1⟩
      replace y0 := (bat hb1 w.heap.size (by omega) 0).trans y0
      replace y1 := (bat hb1 w.heap.size (by omega) 1).trans y1
      replace y2 := (bat hb1 w.heap.size (by omega) 2).trans y2
      replace x0 := (bat hb1 (w.heap.size + 1) (by omega) 0).trans x0
      replace x1 := (bat hb1 (w.heap.size + 1) (by omega) 1).trans x1
      replace x2 := (bat hb1 (w.heap.size + 1) (by omega) 2).trans x2
      replace x3 := (bat hb1 (w.heap.size + 1) (by omega) 3).trans x3
      replace x4 := (bat hb1 (w.heap.size + 1) (by omega) 4).trans x4
      replace x5 := (bat hb1 (w.heap.size + 1) (by omega) 5).trans x5
      replace x6 := (bat hb1 (w.heap.size + 1) (by omega) 6).trans x6
      have hz1 := hb1.size
      have hB1 := Hd.mk (hB0'.out.then hb1)
      have hlw : w.heap.size + 1 < w1.heap.size := by omega
      clear hb1 hta
      go_wp2_with fail
      refine (hib _).mono ?_; rintro e w' ⟨rfl, rfl⟩
      go_wp2
      go_ret
      exact ⟨by first | (simp [t0]; done) | (simp; omega), hB1.out⟩
    have t1 : decide (ta > 0) = false := by simpa using t0
    go_enter Tryz.func150, Tryz.ntmps150
    go_wp2_with fail
    rw [← hW0'.out]
    have y0 := hzf'.out 0 _ rfl
    have y1 := hzf'.out 1 _ rfl
    have y2 := hzf'.out 2 _ rfl
    have x0 := hxc'.out 0 _ rfl
    have x1 := hxc'.out 1 _ rfl
    have x2 := hxc'.out 2 _ rfl
    have x3 := hxc'.out 3 _ rfl
    have x4 := hxc'.out 4 _ rfl
    have x5 := hxc'.out 5 _ rfl
    have x6 := hxc'.out 6 _ rfl
    go_wp2_with fail
    refine (hta W0 hB0'.out).mono ?_; rintro e w1 ⟨rfl, hb1⟩
    replace y0 := (bat hb1 w.heap.size (by omega) 0).trans y0
    replace y1 := (bat hb1 w.heap.size (by omega) 1).trans y1
    replace y2 := (bat hb1 w.heap.size (by omega) 2).trans y2
    replace x0 := (bat hb1 (w.heap.size + 1) (by omega) 0).trans x0
    replace x1 := (bat hb1 (w.heap.size + 1) (by omega) 1).trans x1
    replace x2 := (bat hb1 (w.heap.size + 1) (by omega) 2).trans x2
    replace x3 := (bat hb1 (w.heap.size + 1) (by omega) 3).trans x3
    replace x4 := (bat hb1 (w.heap.size + 1) (by omega) 4).trans x4
    replace x5 := (bat hb1 (w.heap.size + 1) (by omega) 5).trans x5
    replace x6 := (bat hb1 (w.heap.size + 1) (by omega) 6).trans x6
    have hz1 := hb1.size
    have hB1 := Hd.mk (hB0'.out.then hb1)
    have hlw : w.heap.size + 1 < w1.heap.size := by omega
    clear hb1 hta
    go_wp2_with fail
    refine (hib _).mono ?_; rintro e w' ⟨rfl, rfl⟩
    go_wp2
    go_ret
    exact ⟨by first | (simp [t0]; done) | (simp; omega), hB1.out⟩
  have b19 := beqF h19
  simp only [b19, Bool.false_eq_true, if_false, Bool.or_false, Bool.false_or] at hR'
  by_cases h20 : op = 20
  · subst h20
    simp only [beq_self_eq_true, if_true, Int.reduceBEq, Bool.false_eq_true, if_false, Bool.or_true, Bool.true_or] at hR'
    have hv : R = (decide (wd < ta)) := hR'.out.symm
    subst hv
    clear hR'
    go_enter Tryz.func150, Tryz.ntmps150
    go_wp2_with fail
    rw [← hW0'.out]
    have y0 := hzf'.out 0 _ rfl
    have y1 := hzf'.out 1 _ rfl
    have y2 := hzf'.out 2 _ rfl
    have x0 := hxc'.out 0 _ rfl
    have x1 := hxc'.out 1 _ rfl
    have x2 := hxc'.out 2 _ rfl
    have x3 := hxc'.out 3 _ rfl
    have x4 := hxc'.out 4 _ rfl
    have x5 := hxc'.out 5 _ rfl
    have x6 := hxc'.out 6 _ rfl
    go_wp2_with fail
    refine (hta W0 hB0'.out).mono ?_; rintro e w1 ⟨rfl, hb1⟩
    replace y0 := (bat hb1 w.heap.size (by omega) 0).trans y0
    replace y1 := (bat hb1 w.heap.size (by omega) 1).trans y1
    replace y2 := (bat hb1 w.heap.size (by omega) 2).trans y2
    replace x0 := (bat hb1 (w.heap.size + 1) (by omega) 0).trans x0
    replace x1 := (bat hb1 (w.heap.size + 1) (by omega) 1).trans x1
    replace x2 := (bat hb1 (w.heap.size + 1) (by omega) 2).trans x2
    replace x3 := (bat hb1 (w.heap.size + 1) (by omega) 3).trans x3
    replace x4 := (bat hb1 (w.heap.size + 1) (by omega) 4).trans x4
    replace x5 := (bat hb1 (w.heap.size + 1) (by omega) 5).trans x5
    replace x6 := (bat hb1 (w.heap.size + 1) (by omega) 6).trans x6
    have hz1 := hb1.size
    have hB1 := Hd.mk (hB0'.out.then hb1)
    have hlw : w.heap.size + 1 < w1.heap.size := by omega
    clear hb1 hta
    go_wp2_with fail
    refine (hib _).mono ?_; rintro e w' ⟨rfl, rfl⟩
    go_wp2
    go_ret
    exact ⟨by first | rfl | simp, hB1.out⟩
  have b20 := beqF h20
  simp only [b20, Bool.false_eq_true, if_false, Bool.or_false, Bool.false_or] at hR'
  by_cases h22 : op = 22
  · subst h22
    simp only [beq_self_eq_true, if_true, Int.reduceBEq, Bool.false_eq_true, if_false, Bool.or_true, Bool.true_or] at hR'
    have hv : R = (ta == 1 && tb == wd && tc == wd) := hR'.out.symm
    subst hv
    clear hR'
    go_enter Tryz.func150, Tryz.ntmps150
    go_wp2_with fail
    rw [← hW0'.out]
    have y0 := hzf'.out 0 _ rfl
    have y1 := hzf'.out 1 _ rfl
    have y2 := hzf'.out 2 _ rfl
    have x0 := hxc'.out 0 _ rfl
    have x1 := hxc'.out 1 _ rfl
    have x2 := hxc'.out 2 _ rfl
    have x3 := hxc'.out 3 _ rfl
    have x4 := hxc'.out 4 _ rfl
    have x5 := hxc'.out 5 _ rfl
    have x6 := hxc'.out 6 _ rfl
    go_wp2_with fail
    refine (hta W0 hB0'.out).mono ?_; rintro e w1 ⟨rfl, hb1⟩
    replace y0 := (bat hb1 w.heap.size (by omega) 0).trans y0
    replace y1 := (bat hb1 w.heap.size (by omega) 1).trans y1
    replace y2 := (bat hb1 w.heap.size (by omega) 2).trans y2
    replace x0 := (bat hb1 (w.heap.size + 1) (by omega) 0).trans x0
    replace x1 := (bat hb1 (w.heap.size + 1) (by omega) 1).trans x1
    replace x2 := (bat hb1 (w.heap.size + 1) (by omega) 2).trans x2
    replace x3 := (bat hb1 (w.heap.size + 1) (by omega) 3).trans x3
    replace x4 := (bat hb1 (w.heap.size + 1) (by omega) 4).trans x4
    replace x5 := (bat hb1 (w.heap.size + 1) (by omega) 5).trans x5
    replace x6 := (bat hb1 (w.heap.size + 1) (by omega) 6).trans x6
    have hz1 := hb1.size
    have hB1 := Hd.mk (hB0'.out.then hb1)
    have hlw : w.heap.size + 1 < w1.heap.size := by omega
    clear hb1 hta
    go_wp2_with fail
    refine (hib _).mono ?_; rintro e w' ⟨rfl, rfl⟩
    cases q0 : (ta == 1) with
    | false =>
      go_wp2
      refine wp_region_bel (by kernel_rfl) (by kernel_rfl) ?_
      simp only [List.toList_toArray]
      repeat' first
        | (refine seq_val (by rfl) (by intro W hS; have s0 := (bat hS w.heap.size (by omega) 0).trans y0; have s1 := (bat hS w.heap.size (by omega) 1).trans y1; have s2 := (bat hS w.heap.size (by omega) 2).trans y2; have r0 := (bat hS (w.heap.size + 1) hlw 0).trans x0; have r1 := (bat hS (w.heap.size + 1) hlw 1).trans x1; have r2 := (bat hS (w.heap.size + 1) hlw 2).trans x2; have r3 := (bat hS (w.heap.size + 1) hlw 3).trans x3; have r4 := (bat hS (w.heap.size + 1) hlw 4).trans x4; have r5 := (bat hS (w.heap.size + 1) hlw 5).trans x5; have r6 := (bat hS (w.heap.size + 1) hlw 6).trans x6; go_simp; first | done | rfl) ?_; simp only [Act.put, List.setIfInBounds_toArray, List.set_cons_zero, List.set_cons_succ])
        | (refine seq_skip (by rfl) ?_; simp only [Act.put, List.setIfInBounds_toArray, List.set_cons_zero, List.set_cons_succ])
        | fail
      refine seq_nil (fun W hS => ?_)
      have s0 := (bat hS w.heap.size (by omega) 0).trans y0
      have s1 := (bat hS w.heap.size (by omega) 1).trans y1
      have s2 := (bat hS w.heap.size (by omega) 2).trans y2
      have r0 := (bat hS (w.heap.size + 1) hlw 0).trans x0
      have r1 := (bat hS (w.heap.size + 1) hlw 1).trans x1
      have r2 := (bat hS (w.heap.size + 1) hlw 2).trans x2
      have r3 := (bat hS (w.heap.size + 1) hlw 3).trans x3
      have r4 := (bat hS (w.heap.size + 1) hlw 4).trans x4
      have r5 := (bat hS (w.heap.size + 1) hlw 5).trans x5
      have r6 := (bat hS (w.heap.size + 1) hlw 6).trans x6
      go_wp2
      go_ret
      exact ⟨by simp [q0], hB1.out.then hS⟩
    | true =>
      cases q1 : (tb == wd) with
      | false =>
        go_wp2
        refine wp_region_bel (by kernel_rfl) (by kernel_rfl) ?_
        simp only [List.toList_toArray]
        repeat' first
          | (refine seq_val (by rfl) (by intro W hS; have s0 := (bat hS w.heap.size (by omega) 0).trans y0; have s1 := (bat hS w.heap.size (by omega) 1).trans y1; have s2 := (bat hS w.heap.size (by omega) 2).trans y2; have r0 := (bat hS (w.heap.size + 1) hlw 0).trans x0; have r1 := (bat hS (w.heap.size + 1) hlw 1).trans x1; have r2 := (bat hS (w.heap.size + 1) hlw 2).trans x2; have r3 := (bat hS (w.heap.size + 1) hlw 3).trans x3; have r4 := (bat hS (w.heap.size + 1) hlw 4).trans x4; have r5 := (bat hS (w.heap.size + 1) hlw 5).trans x5; have r6 := (bat hS (w.heap.size + 1) hlw 6).trans x6; go_simp; first | done | rfl) ?_; simp only [Act.put, List.setIfInBounds_toArray, List.set_cons_zero, List.set_cons_succ])
          | (refine seq_skip (by rfl) ?_; simp only [Act.put, List.setIfInBounds_toArray, List.set_cons_zero, List.set_cons_succ])
          | (refine seq_ret 149 _ (by rfl) (by intro W hS; have s0 := (bat hS w.heap.size (by omega) 0).trans y0; have s1 := (bat hS w.heap.size (by omega) 1).trans y1; have s2 := (bat hS w.heap.size (by omega) 2).trans y2; have r0 := (bat hS (w.heap.size + 1) hlw 0).trans x0; have r1 := (bat hS (w.heap.size + 1) hlw 1).trans x1; have r2 := (bat hS (w.heap.size + 1) hlw 2).trans x2; have r3 := (bat hS (w.heap.size + 1) hlw 3).trans x3; have r4 := (bat hS (w.heap.size + 1) hlw 4).trans x4; have r5 := (bat hS (w.heap.size + 1) hlw 5).trans x5; have r6 := (bat hS (w.heap.size + 1) hlw 6).trans x6; go_simp; first | done | rfl) (fun W hS => htb W (hB1.out.then hS)) ?_; simp only [Act.put, List.setIfInBounds_toArray, List.set_cons_zero, List.set_cons_succ])
          | fail
        refine seq_nil (fun W hS => ?_)
        have s0 := (bat hS w.heap.size (by omega) 0).trans y0
        have s1 := (bat hS w.heap.size (by omega) 1).trans y1
        have s2 := (bat hS w.heap.size (by omega) 2).trans y2
        have r0 := (bat hS (w.heap.size + 1) hlw 0).trans x0
        have r1 := (bat hS (w.heap.size + 1) hlw 1).trans x1
        have r2 := (bat hS (w.heap.size + 1) hlw 2).trans x2
        have r3 := (bat hS (w.heap.size + 1) hlw 3).trans x3
        have r4 := (bat hS (w.heap.size + 1) hlw 4).trans x4
        have r5 := (bat hS (w.heap.size + 1) hlw 5).trans x5
        have r6 := (bat hS (w.heap.size + 1) hlw 6).trans x6
        go_wp2
        go_ret
        exact ⟨by simp [q0, q1], hB1.out.then hS⟩
      | true =>
        cases q2 : (tc == wd) with
        | false =>
          go_wp2
          refine wp_region_bel (by kernel_rfl) (by kernel_rfl) ?_
          simp only [List.toList_toArray]
          repeat' first
            | (refine seq_val (by rfl) (by intro W hS; have s0 := (bat hS w.heap.size (by omega) 0).trans y0; have s1 := (bat hS w.heap.size (by omega) 1).trans y1; have s2 := (bat hS w.heap.size (by omega) 2).trans y2; have r0 := (bat hS (w.heap.size + 1) hlw 0).trans x0; have r1 := (bat hS (w.heap.size + 1) hlw 1).trans x1; have r2 := (bat hS (w.heap.size + 1) hlw 2).trans x2; have r3 := (bat hS (w.heap.size + 1) hlw 3).trans x3; have r4 := (bat hS (w.heap.size + 1) hlw 4).trans x4; have r5 := (bat hS (w.heap.size + 1) hlw 5).trans x5; have r6 := (bat hS (w.heap.size + 1) hlw 6).trans x6; go_simp; first | done | rfl) ?_; simp only [Act.put, List.setIfInBounds_toArray, List.set_cons_zero, List.set_cons_succ])
            | (refine seq_skip (by rfl) ?_; simp only [Act.put, List.setIfInBounds_toArray, List.set_cons_zero, List.set_cons_succ])
            | (refine seq_ret 149 _ (by rfl) (by intro W hS; have s0 := (bat hS w.heap.size (by omega) 0).trans y0; have s1 := (bat hS w.heap.size (by omega) 1).trans y1; have s2 := (bat hS w.heap.size (by omega) 2).trans y2; have r0 := (bat hS (w.heap.size + 1) hlw 0).trans x0; have r1 := (bat hS (w.heap.size + 1) hlw 1).trans x1; have r2 := (bat hS (w.heap.size + 1) hlw 2).trans x2; have r3 := (bat hS (w.heap.size + 1) hlw 3).trans x3; have r4 := (bat hS (w.heap.size + 1) hlw 4).trans x4; have r5 := (bat hS (w.heap.size + 1) hlw 5).trans x5; have r6 := (bat hS (w.heap.size + 1) hlw 6).trans x6; go_simp; first | done | rfl) (fun W hS => htb W (hB1.out.then hS)) ?_; simp only [Act.put, List.setIfInBounds_toArray, List.set_cons_zero, List.set_cons_succ])
            | (refine seq_ret 149 _ (by rfl) (by intro W hS; have s0 := (bat hS w.heap.size (by omega) 0).trans y0; have s1 := (bat hS w.heap.size (by omega) 1).trans y1; have s2 := (bat hS w.heap.size (by omega) 2).trans y2; have r0 := (bat hS (w.heap.size + 1) hlw 0).trans x0; have r1 := (bat hS (w.heap.size + 1) hlw 1).trans x1; have r2 := (bat hS (w.heap.size + 1) hlw 2).trans x2; have r3 := (bat hS (w.heap.size + 1) hlw 3).trans x3; have r4 := (bat hS (w.heap.size + 1) hlw 4).trans x4; have r5 := (bat hS (w.heap.size + 1) hlw 5).trans x5; have r6 := (bat hS (w.heap.size + 1) hlw 6).trans x6; go_simp; first | done | rfl) (fun W hS => htc W (hB1.out.then hS)) ?_; simp only [Act.put, List.setIfInBounds_toArray, List.set_cons_zero, List.set_cons_succ])
            | fail
          refine seq_nil (fun W hS => ?_)
          have s0 := (bat hS w.heap.size (by omega) 0).trans y0
          have s1 := (bat hS w.heap.size (by omega) 1).trans y1
          have s2 := (bat hS w.heap.size (by omega) 2).trans y2
          have r0 := (bat hS (w.heap.size + 1) hlw 0).trans x0
          have r1 := (bat hS (w.heap.size + 1) hlw 1).trans x1
          have r2 := (bat hS (w.heap.size + 1) hlw 2).trans x2
          have r3 := (bat hS (w.heap.size + 1) hlw 3).trans x3
          have r4 := (bat hS (w.heap.size + 1) hlw 4).trans x4
          have r5 := (bat hS (w.heap.size + 1) hlw 5).trans x5
          have r6 := (bat hS (w.heap.size + 1) hlw 6).trans x6
          go_wp2
          go_ret
          exact ⟨by simp [q0, q1, q2], hB1.out.then hS⟩
        | true =>
          go_wp2
          refine wp_region_bel (by kernel_rfl) (by kernel_rfl) ?_
          simp only [List.toList_toArray]
          repeat' first
            | (refine seq_val (by rfl) (by intro W hS; have s0 := (bat hS w.heap.size (by omega) 0).trans y0; have s1 := (bat hS w.heap.size (by omega) 1).trans y1; have s2 := (bat hS w.heap.size (by omega) 2).trans y2; have r0 := (bat hS (w.heap.size + 1) hlw 0).trans x0; have r1 := (bat hS (w.heap.size + 1) hlw 1).trans x1; have r2 := (bat hS (w.heap.size + 1) hlw 2).trans x2; have r3 := (bat hS (w.heap.size + 1) hlw 3).trans x3; have r4 := (bat hS (w.heap.size + 1) hlw 4).trans x4; have r5 := (bat hS (w.heap.size + 1) hlw 5).trans x5; have r6 := (bat hS (w.heap.size + 1) hlw 6).trans x6; go_simp; first | done | rfl) ?_; simp only [Act.put, List.setIfInBounds_toArray, List.set_cons_zero, List.set_cons_succ])
            | (refine seq_skip (by rfl) ?_; simp only [Act.put, List.setIfInBounds_toArray, List.set_cons_zero, List.set_cons_succ])
            | (refine seq_ret 149 _ (by rfl) (by intro W hS; have s0 := (bat hS w.heap.size (by omega) 0).trans y0; have s1 := (bat hS w.heap.size (by omega) 1).trans y1; have s2 := (bat hS w.heap.size (by omega) 2).trans y2; have r0 := (bat hS (w.heap.size + 1) hlw 0).trans x0; have r1 := (bat hS (w.heap.size + 1) hlw 1).trans x1; have r2 := (bat hS (w.heap.size + 1) hlw 2).trans x2; have r3 := (bat hS (w.heap.size + 1) hlw 3).trans x3; have r4 := (bat hS (w.heap.size + 1) hlw 4).trans x4; have r5 := (bat hS (w.heap.size + 1) hlw 5).trans x5; have r6 := (bat hS (w.heap.size + 1) hlw 6).trans x6; go_simp; first | done | rfl) (fun W hS => htb W (hB1.out.then hS)) ?_; simp only [Act.put, List.setIfInBounds_toArray, List.set_cons_zero, List.set_cons_succ])
            | (refine seq_ret 149 _ (by rfl) (by intro W hS; have s0 := (bat hS w.heap.size (by omega) 0).trans y0; have s1 := (bat hS w.heap.size (by omega) 1).trans y1; have s2 := (bat hS w.heap.size (by omega) 2).trans y2; have r0 := (bat hS (w.heap.size + 1) hlw 0).trans x0; have r1 := (bat hS (w.heap.size + 1) hlw 1).trans x1; have r2 := (bat hS (w.heap.size + 1) hlw 2).trans x2; have r3 := (bat hS (w.heap.size + 1) hlw 3).trans x3; have r4 := (bat hS (w.heap.size + 1) hlw 4).trans x4; have r5 := (bat hS (w.heap.size + 1) hlw 5).trans x5; have r6 := (bat hS (w.heap.size + 1) hlw 6).trans x6; go_simp; first | done | rfl) (fun W hS => htc W (hB1.out.then hS)) ?_; simp only [Act.put, List.setIfInBounds_toArray, List.set_cons_zero, List.set_cons_succ])
            | fail
          refine seq_nil (fun W hS => ?_)
          have s0 := (bat hS w.heap.size (by omega) 0).trans y0
          have s1 := (bat hS w.heap.size (by omega) 1).trans y1
          have s2 := (bat hS w.heap.size (by omega) 2).trans y2
          have r0 := (bat hS (w.heap.size + 1) hlw 0).trans x0
          have r1 := (bat hS (w.heap.size + 1) hlw 1).trans x1
          have r2 := (bat hS (w.heap.size + 1) hlw 2).trans x2
          have r3 := (bat hS (w.heap.size + 1) hlw 3).trans x3
          have r4 := (bat hS (w.heap.size + 1) hlw 4).trans x4
          have r5 := (bat hS (w.heap.size + 1) hlw 5).trans x5
          have r6 := (bat hS (w.heap.size + 1) hlw 6).trans x6
          go_wp2
          go_ret
          exact ⟨by simp [q0, q1, q2], hB1.out.then hS⟩
  have b22 := beqF h22
  simp only [b22, Bool.false_eq_true, if_false, Bool.or_false, Bool.false_or] at hR'
  by_cases h23 : op = 23
  · subst h23
    simp only [beq_self_eq_true, if_true, Int.reduceBEq, Bool.false_eq_true, if_false, Bool.or_true, Bool.true_or] at hR'
    have hv : R = (ta == 32) := hR'.out.symm
    subst hv
    clear hR'
    go_enter Tryz.func150, Tryz.ntmps150
    go_wp2_with fail
    rw [← hW0'.out]
    have y0 := hzf'.out 0 _ rfl
    have y1 := hzf'.out 1 _ rfl
    have y2 := hzf'.out 2 _ rfl
    have x0 := hxc'.out 0 _ rfl
    have x1 := hxc'.out 1 _ rfl
    have x2 := hxc'.out 2 _ rfl
    have x3 := hxc'.out 3 _ rfl
    have x4 := hxc'.out 4 _ rfl
    have x5 := hxc'.out 5 _ rfl
    have x6 := hxc'.out 6 _ rfl
    go_wp2_with fail
    refine (hta W0 hB0'.out).mono ?_; rintro e w1 ⟨rfl, hb1⟩
    replace y0 := (bat hb1 w.heap.size (by omega) 0).trans y0
    replace y1 := (bat hb1 w.heap.size (by omega) 1).trans y1
    replace y2 := (bat hb1 w.heap.size (by omega) 2).trans y2
    replace x0 := (bat hb1 (w.heap.size + 1) (by omega) 0).trans x0
    replace x1 := (bat hb1 (w.heap.size + 1) (by omega) 1).trans x1
    replace x2 := (bat hb1 (w.heap.size + 1) (by omega) 2).trans x2
    replace x3 := (bat hb1 (w.heap.size + 1) (by omega) 3).trans x3
    replace x4 := (bat hb1 (w.heap.size + 1) (by omega) 4).trans x4
    replace x5 := (bat hb1 (w.heap.size + 1) (by omega) 5).trans x5
    replace x6 := (bat hb1 (w.heap.size + 1) (by omega) 6).trans x6
    have hz1 := hb1.size
    have hB1 := Hd.mk (hB0'.out.then hb1)
    have hlw : w.heap.size + 1 < w1.heap.size := by omega
    clear hb1 hta
    go_wp2_with fail
    refine (hib _).mono ?_; rintro e w' ⟨rfl, rfl⟩
    go_wp2
    go_ret
    exact ⟨by first | rfl | simp, hB1.out⟩
  have b23 := beqF h23
  simp only [b23, Bool.false_eq_true, if_false, Bool.or_false, Bool.false_or] at hR'
  by_cases h24 : op = 24
  · subst h24
    simp only [beq_self_eq_true, if_true, Int.reduceBEq, Bool.false_eq_true, if_false, Bool.or_true, Bool.true_or] at hR'
    have hv : R = (ta == 32 && tb == 8) := hR'.out.symm
    subst hv
    clear hR'
    go_enter Tryz.func150, Tryz.ntmps150
    go_wp2_with fail
    rw [← hW0'.out]
    have y0 := hzf'.out 0 _ rfl
    have y1 := hzf'.out 1 _ rfl
    have y2 := hzf'.out 2 _ rfl
    have x0 := hxc'.out 0 _ rfl
    have x1 := hxc'.out 1 _ rfl
    have x2 := hxc'.out 2 _ rfl
    have x3 := hxc'.out 3 _ rfl
    have x4 := hxc'.out 4 _ rfl
    have x5 := hxc'.out 5 _ rfl
    have x6 := hxc'.out 6 _ rfl
    go_wp2_with fail
    refine (hta W0 hB0'.out).mono ?_; rintro e w1 ⟨rfl, hb1⟩
    replace y0 := (bat hb1 w.heap.size (by omega) 0).trans y0
    replace y1 := (bat hb1 w.heap.size (by omega) 1).trans y1
    replace y2 := (bat hb1 w.heap.size (by omega) 2).trans y2
    replace x0 := (bat hb1 (w.heap.size + 1) (by omega) 0).trans x0
    replace x1 := (bat hb1 (w.heap.size + 1) (by omega) 1).trans x1
    replace x2 := (bat hb1 (w.heap.size + 1) (by omega) 2).trans x2
    replace x3 := (bat hb1 (w.heap.size + 1) (by omega) 3).trans x3
    replace x4 := (bat hb1 (w.heap.size + 1) (by omega) 4).trans x4
    replace x5 := (bat hb1 (w.heap.size + 1) (by omega) 5).trans x5
    replace x6 := (bat hb1 (w.heap.size + 1) (by omega) 6).trans x6
    have hz1 := hb1.size
    have hB1 := Hd.mk (hB0'.out.then hb1)
    have hlw : w.heap.size + 1 < w1.heap.size := by omega
    clear hb1 hta
    go_wp2_with fail
    refine (hib _).mono ?_; rintro e w' ⟨rfl, rfl⟩
    cases q0 : (ta == 32) with
    | false =>
      go_wp2
      go_ret
      exact ⟨by simp [q0], hB1.out⟩
    | true =>
      go_wp2_with fail
      refine (htb _ hB1.out).mono ?_; rintro e w2 ⟨rfl, hb2⟩
      go_wp2
      go_ret
      exact ⟨by simp [q0], hB1.out.then hb2⟩
  have b24 := beqF h24
  simp only [b24, Bool.false_eq_true, if_false, Bool.or_false, Bool.false_or] at hR'
  by_cases h25 : op = 25
  · subst h25
    simp only [beq_self_eq_true, if_true, Int.reduceBEq, Bool.false_eq_true, if_false, Bool.or_true, Bool.true_or] at hR'
    have nn := hnn.out (by simp)
    have hpos : (ta != 0) = decide (ta > 0) := by
      by_cases t : ta = 0
      · subst t; rfl
      · rw [bneT t]; exact (decide_eq_true (by omega)).symm
    rw [hpos] at hR'
    clear hpos nn
    have hv : R = (decide (ta > 0)) := hR'.out.symm
    subst hv
    clear hR'
    go_enter Tryz.func150, Tryz.ntmps150
    go_wp2_with fail
    rw [← hW0'.out]
    have y0 := hzf'.out 0 _ rfl
    have y1 := hzf'.out 1 _ rfl
    have y2 := hzf'.out 2 _ rfl
    have x0 := hxc'.out 0 _ rfl
    have x1 := hxc'.out 1 _ rfl
    have x2 := hxc'.out 2 _ rfl
    have x3 := hxc'.out 3 _ rfl
    have x4 := hxc'.out 4 _ rfl
    have x5 := hxc'.out 5 _ rfl
    have x6 := hxc'.out 6 _ rfl
    go_wp2_with fail
    refine (hta W0 hB0'.out).mono ?_; rintro e w1 ⟨rfl, hb1⟩
    replace y0 := (bat hb1 w.heap.size (by omega) 0).trans y0
    replace y1 := (bat hb1 w.heap.size (by omega) 1).trans y1
    replace y2 := (bat hb1 w.heap.size (by omega) 2).trans y2
    replace x0 := (bat hb1 (w.heap.size + 1) (by omega) 0).trans x0
    replace x1 := (bat hb1 (w.heap.size + 1) (by omega) 1).trans x1
    replace x2 := (bat hb1 (w.heap.size + 1) (by omega) 2).trans x2
    replace x3 := (bat hb1 (w.heap.size + 1) (by omega) 3).trans x3
    replace x4 := (bat hb1 (w.heap.size + 1) (by omega) 4).trans x4
    replace x5 := (bat hb1 (w.heap.size + 1) (by omega) 5).trans x5
    replace x6 := (bat hb1 (w.heap.size + 1) (by omega) 6).trans x6
    have hz1 := hb1.size
    have hB1 := Hd.mk (hB0'.out.then hb1)
    have hlw : w.heap.size + 1 < w1.heap.size := by omega
    clear hb1 hta
    go_wp2_with fail
    refine (hib _).mono ?_; rintro e w' ⟨rfl, rfl⟩
    go_wp2
    go_ret
    exact ⟨by first | rfl | simp, hB1.out⟩
  have b25 := beqF h25
  simp only [b25, Bool.false_eq_true, if_false, Bool.or_false, Bool.false_or] at hR'
  have hv : R = (true) := hR'.out.symm
  subst hv
  clear hR'
  go_enter Tryz.func150, Tryz.ntmps150
  go_wp2_with fail
  rw [← hW0'.out]
  have y0 := hzf'.out 0 _ rfl
  have y1 := hzf'.out 1 _ rfl
  have y2 := hzf'.out 2 _ rfl
  have x0 := hxc'.out 0 _ rfl
  have x1 := hxc'.out 1 _ rfl
  have x2 := hxc'.out 2 _ rfl
  have x3 := hxc'.out 3 _ rfl
  have x4 := hxc'.out 4 _ rfl
  have x5 := hxc'.out 5 _ rfl
  have x6 := hxc'.out 6 _ rfl
  go_wp2_with fail
  refine (hta W0 hB0'.out).mono ?_; rintro e w1 ⟨rfl, hb1⟩
  replace y0 := (bat hb1 w.heap.size (by omega) 0).trans y0
  replace y1 := (bat hb1 w.heap.size (by omega) 1).trans y1
  replace y2 := (bat hb1 w.heap.size (by omega) 2).trans y2
  replace x0 := (bat hb1 (w.heap.size + 1) (by omega) 0).trans x0
  replace x1 := (bat hb1 (w.heap.size + 1) (by omega) 1).trans x1
  replace x2 := (bat hb1 (w.heap.size + 1) (by omega) 2).trans x2
  replace x3 := (bat hb1 (w.heap.size + 1) (by omega) 3).trans x3
  replace x4 := (bat hb1 (w.heap.size + 1) (by omega) 4).trans x4
  replace x5 := (bat hb1 (w.heap.size + 1) (by omega) 5).trans x5
  replace x6 := (bat hb1 (w.heap.size + 1) (by omega) 6).trans x6
  have hz1 := hb1.size
  have hB1 := Hd.mk (hB0'.out.then hb1)
  have hlw : w.heap.size + 1 < w1.heap.size := by omega
  clear hb1 hta
  go_wp2_with fail
  refine (hib _).mono ?_; rintro e w' ⟨rfl, rfl⟩
  go_wp2
  go_ret
  exact ⟨by first | rfl | simp, hB1.out⟩
end Go.Proofs.YtkcgejbnhpccdaaGreat
set_option linter.unusedSimpArgs false
set_option linter.unusedVariables false
namespace Go.Proofs.YtkcgejbnhpccdaaGreat
open Go.RowKit
def phB (f : XFunc) (k : Nat) : Bool := (blkAt f k).phis.all fun p => p.ins.length == (predsOf f k).length
theorem phisOk_all (f : XFunc) : phisOk f = (List.range f.blocks.length).all (phB f) := rfl
set_option maxRecDepth 20000 in
set_option maxHeartbeats 4000000 in
theorem s_l4Phis (f : XFunc) (cs : List Value) (w : World) (hf : KFunc lm w f cs) (hn10 : f.blocks.length ≤ 10) : Calls Tryz.prog 101 #[.agg cs.toArray] w (Ret (.bool (phisOk f)) w) := by
  have hf' := Hd.mk hf
  obtain ⟨v1, v2, rfl, hp, hb⟩ := hf
  obtain ⟨A1, c1, rfl, -, hl1, -⟩ := hp.sm
  obtain ⟨A2, c2, rfl, hcap, hl2, hb0⟩ := hb.sm
  clear hp hb
  have hbl := fun o => (Below.refl w.heap.size w).al (Nat.le_refl _) o
  obtain ⟨W0, hW0⟩ : ∃ W0 : World, W0 = w.alloc (.cells #[.slice A1 f.params.length c1, .int .i64 f.ret, .slice A2 f.blocks.length c2] 35) := ⟨_, rfl⟩
  have hB0 : Below w.heap.size w W0 := by rw [hW0]; exact hbl _
  have hz0 : W0.heap.size = w.heap.size + 1 := by rw [hW0]; simp
  have hzf : Hd (∀ o u, [Value.slice A1 f.params.length c1, .int .i64 f.ret, .slice A2 f.blocks.length c2][o]? = some u → W0.cell? ⟨w.heap.size, o, none⟩ = some u) := ⟨fun o u hu => by rw [hW0]; exact new_cell _ _ _ rfl o u (by simpa using hu)⟩
  have hW0' := Hd.mk hW0
  have hB0' := Hd.mk hB0
  clear hW0 hB0
  generalize hR : phisOk f = R
  have hR' := Hd.mk hR
  clear hR
  rw [phisOk_all] at hR'
  have hpr := fun W (hW : Below w.heap.size w W) b => s_l3Preds f _ b W (KM.mv hf'.out hW)
  go_enter Tryz.func101, Tryz.ntmps101
  go_wp2_with fail
  rw [← hW0'.out]
  go_wp2
  go_loopw [3] (fun s3 wr => ∃ k : Nat, k ≤ f.blocks.length ∧ s3 = .int .i64 k ∧ Hd ((List.range k).all (phB f) = true) ∧ Hd (Below W0.heap.size W0 wr)) (fun s3 _ => f.blocks.length - (intOf s3).toNat)
  case atStart => exact ⟨0, Nat.zero_le _, rfl, ⟨rfl⟩, ⟨Below.refl _ _⟩⟩
  case round =>
    obtain ⟨k, hk, rfl, hall, hbr⟩ := hrel
    obtain ⟨wo, rfl⟩ : ∃ wo : World, wo = wr := ⟨_, rfl⟩
    have hBw := Hd.mk (hB0'.out.then hbr.out)
    have hzo := hbr.out.size
    have x0 := (bat hbr.out w.heap.size (by omega) 0).trans (hzf.out 0 _ rfl)
    have x1 := (bat hbr.out w.heap.size (by omega) 1).trans (hzf.out 1 _ rfl)
    have x2 := (bat hbr.out w.heap.size (by omega) 2).trans (hzf.out 2 _ rfl)
    by_cases hlt : k < f.blocks.length
    · have hsn := Hd.mk (range_all_snoc (phB f) k)
      have hfl := fun h => Hd.mk (range_all_fail (phB f) f.blocks.length k hlt h)
      have hph : phB f k = f.blocks[k].phis.all fun p => p.ins.length == (predsOf f k).length := by unfold phB; rw [blkAt_nat f k hlt]
      rw [hph] at hsn hfl
      clear hph
      have hpk := hpr wo hBw.out k
      have hpl := preds_len f k
      generalize predsOf f k = ps at *
      go_wp2_with fail
      refine hpk.mono ?_; rintro e w2 ⟨u2, rfl, ho2, hb2⟩
      obtain ⟨Au, cu, rfl, -, -, -, -⟩ := own_shape ho2
      have hB2 := Hd.mk (hBw.out.then hb2)
      have hc2 := Hd.mk (hbr.out.then hb2)
      have hz2 := hb2.size
      clear hb2 ho2 hpk x0 x1 x2
      obtain ⟨eb, eo, ecs, hA_, heb, ⟨bv1, bv2, rfl, hr_, hr2_⟩, hat_⟩ := (hb0.out).in0 (hB2.out) (k) (hlt)
      cases hA_
      have hew := Nat.lt_of_lt_of_le heb (hB2.out).size
      have g0 := hat_ 0 _ rfl
      have g1 := hat_ 1 _ rfl
      have g2 := hat_ 2 _ rfl
      have g3 := hat_ 3 _ rfl
      have g4 := hat_ 4 _ rfl
      have g5 := hat_ 5 _ rfl
      clear hat_
      simp at g0 g1 g2 g3 g4 g5
      obtain ⟨Ap, cp, rfl, hcp, hlp, hrp⟩ := hr_.sm
      obtain ⟨Ai, ci, rfl, hci, hli, hri⟩ := hr2_.sm
      clear hr_ hr2_
      generalize f.blocks[k] = x at *
      go_wp2
      go_loopw [5] (fun s5 wr => ∃ j : Nat, j ≤ x.phis.length ∧ s5 = .int .i64 j ∧ Hd ((x.phis.take j).all (fun p => p.ins.length == ps.length) = true) ∧ wr = w2) (fun s5 _ => x.phis.length - (intOf s5).toNat)
      case atStart => exact ⟨0, Nat.zero_le _, rfl, ⟨rfl⟩, rfl⟩
      case round =>
        obtain ⟨j, hj, rfl, hallj, rfl⟩ := hrel
        have x0 := (bat hc2.out w.heap.size (by omega) 0).trans (hzf.out 0 _ rfl)
        have x1 := (bat hc2.out w.heap.size (by omega) 1).trans (hzf.out 1 _ rfl)
        have x2 := (bat hc2.out w.heap.size (by omega) 2).trans (hzf.out 2 _ rfl)
        have h0 := g0
        clear g1 g2 g3 g4 g5
        by_cases hltj : j < x.phis.length
        · obtain ⟨eb, eo, ecs, hA_, heb, ⟨pv1, rfl, hr_⟩, hat_⟩ := (hrp.out).in0 (hB2.out) (j) (hltj)
          cases hA_
          have hew := Nat.lt_of_lt_of_le heb (hB2.out).size
          have g0 := hat_ 0 _ rfl
          have g1 := hat_ 1 _ rfl
          clear hat_
          simp at g0 g1
          obtain ⟨Ax, cx, rfl, hcx, hlx, hrx⟩ := hr_.sm
          clear hr_
          have hsnj := Hd.mk (all_take_snoc (fun p => p.ins.length == ps.length) x.phis j hltj)
          have hflj := fun h => Hd.mk (all_false_of (fun p => p.ins.length == ps.length) x.phis j hltj h)
          generalize x.phis[j] = p at *
          by_cases he : p.ins.length = ps.length
          · have hall2 := Hd.mk (show (x.phis.take (j + 1)).all (fun p => p.ins.length == ps.length) = true by rw [hsnj.out, hallj.out, he]; simp)
            have d : ((p.ins.length : Int) != (ps.length : Int)) = false := by rw [he]; simp
            clear hsnj hflj he
            go_wp2
            go_roundw
            case rel => exact ⟨j + 1, by omega, by go_num, hall2, by first | trivial | rfl⟩
            case measure => simp [intOf]; omega
          · have hv : R = false := by
              rw [← hR'.out]
              exact (hfl (hflj (by simpa using he)).out).out
            have d : ((p.ins.length : Int) != (ps.length : Int)) = true := bneT (by omega)
            subst hv
            clear hsnj hflj hsn hfl he
            go_wp2
            go_ret
            exact ⟨rfl, hB2.out⟩
        · have e : j = x.phis.length := by omega
          subst e
          rw [List.take_length] at hallj
          have hall2 := Hd.mk (show (List.range (k + 1)).all (phB f) = true by rw [hsn.out, hall.out, hallj.out]; rfl)
          clear hsn hfl
          go_wp2
          go_roundw
          case rel => exact ⟨k + 1, by omega, by go_num, hall2, hc2⟩
          case measure => simp [intOf]; omega
    · have e : k = f.blocks.length := by omega
      subst e
      have hv := hR'.out.symm.trans hall.out
      subst hv
      go_wp2
      go_ret
      exact ⟨rfl, hBw.out⟩
end Go.Proofs.YtkcgejbnhpccdaaGreat
