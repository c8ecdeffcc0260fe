/- Contracts of the laws' functions that copy. No conditions. -/
import Derived.Test.YtkcgejbnhpccdaaGreatJ13
set_option linter.unusedSimpArgs false
set_option linter.unusedVariables false
namespace Go.Proofs.YtkcgejbnhpccdaaGreat
open Go.RowKit
def RetX {α : Type} (K : Nat → World → α → List Value → Prop) (x : α) (w : World) (e : Ending) (w' : World) : Prop := ∃ cs, e = .returned (.agg cs.toArray) ∧ K w.heap.size w' x cs ∧ Below w.heap.size w w'
def RetL {α : Type} (e sz : Nat) (K : Nat → World → α → List Value → Prop) (xs : List α) (w : World) (en : Ending) (w' : World) : Prop := ∃ v, en = .returned v ∧ Own w.heap.size e sz (K w.heap.size) w' v xs ∧ Below w.heap.size w w'
theorem Own.sh {α : Type} {lo e sz : Nat} {K : World → α → List Value → Prop} {w : World} {v : Value} {xs : List α} (h : Own lo e sz K w v xs) : ∃ A c, v = .slice A xs.length c ∧ Hd (Own lo e sz K w v xs) := by
  have h' := h
  obtain ⟨cells, h1, h2⟩ := h
  obtain ⟨A, c, rfl, _⟩ := own_shape h1
  exact ⟨A, c, rfl, ⟨h'⟩⟩
theorem own_lt {w : World} {base e sz G n cap : Nat} {cs : List Value} (h : w.ownsRow base e sz (.slice (some ⟨G, 0, none⟩) n cap) n cs) : base ≤ G ∧ G < w.heap.size := by
  rcases h.2 with ⟨h', _⟩ | ⟨g, cap', cur, h', h1, h2, _⟩
  · cases h'
  · cases h'; exact ⟨h1, (Array.getElem?_eq_some_iff.1 h2).1⟩
theorem own_cell {w : World} {base e sz G n cap : Nat} {cs : List Value} (h : w.ownsRow base e sz (.slice (some ⟨G, 0, none⟩) n cap) n cs) (j : Nat) (hj : j < n * sz) : ∃ u, w.cell? ⟨G, j, none⟩ = some u := by
  rw [World.ownsRow.cellAt h j hj]
  exact ⟨_, List.getElem?_eq_getElem (by have := h.1; omega)⟩
theorem mk_own (W : World) (base e sz n : Nat) (z : Array Value) (hb : base ≤ W.heap.size) (hm : n ≤ maxLen) : (W.alloc (.cells (madeCells z (n * sz)) e)).ownsRow base e sz (.slice (some ⟨W.heap.size, 0, none⟩) n n) n (madeCells z (n * sz)).toList :=
  World.ownsRow_lit W _ n hb hm (size_madeCells _ _)
theorem mk_run (t e : Nat) (z : Value) (sz bytes n : Nat) (ht : Tryz.prog.underlying t = some (.slice e)) (hi : (Tryz.prog.info? e).map (fun i => (i.zero, i.size, i.bytes)) = some (some z, sz, bytes)) (hb : bytes * n ≤ 281474976710656) (hn : n ≤ 9223372036854775807) (W : World) :
    (Instr.makeSlice t (.int .i64 (n : Int)) (.int .i64 (n : Int))).run Tryz.prog W = .ok (.slice (some ⟨W.heap.size, 0, none⟩) n n) (W.alloc (.cells (madeCells z.cells (n * sz)) e)) := by
  obtain ⟨i0, h1, h2, h3, h4⟩ := info_parts hi
  have h := run_make (P := Tryz.prog) W t e i0 z ht h1 h2 .i64 .i64 n n (by omega) (Int.le_refl _) (by rw [h4]; have h9 : ((bytes * n : Nat) : Int) ≤ 281474976710656 := Int.ofNat_le.2 hb; rwa [Int.natCast_mul] at h9) (by omega)
  rw [h3] at h
  simpa using h
set_option maxHeartbeats 1000000 in
theorem t_I (v : Value) (x : List Int) (w : World) (hv : RI lm w v x) : Calls Tryz.prog 30 #[v] w (RetL 2 1 OInt x w) := by
  obtain ⟨A, c, rfl, -, hl, hv0⟩ := hv.sm
  clear hv
  have hmk := mk_run 24 2 (.int .i64 0) 1 8 x.length Tryz.underlying24 infoI (by omega) (by omega)
  rw [Nat.mul_one] at hmk
  go_enter Tryz.func30, Tryz.ntmps30
  go_wp2
  have hst := mk_own w w.heap.size 2 1 x.length #[.int .i64 0] (Nat.le_refl _) (by unfold maxLen; omega)
  rw [Nat.mul_one] at hst
  have hst' := Hd.mk hst
  clear hst hmk
  generalize hmc : madeCells #[.int .i64 0] x.length = mc at *
  clear hmc
  go_loopw [4] (fun s4 wr => ∃ k : Nat, ∃ cells, k ≤ x.length ∧ s4 = .int .i64 k ∧ Hd (wr.ownsRow w.heap.size 2 1 (.slice (some ⟨w.heap.size, 0, none⟩) x.length x.length) x.length cells) ∧ Hd (Els 1 (OInt w.heap.size wr) cells x k) ∧ Hd (Below w.heap.size w wr)) (fun s4 _ => x.length - (intOf s4).toNat)
  case atStart => exact ⟨0, _, Nat.zero_le _, rfl, hst', ⟨Els.nil _ _ _ _⟩, ⟨(Below.refl _ _).al (Nat.le_refl _) _⟩⟩
  case round =>
    clear hst'
    obtain ⟨k, cells, hk, rfl, ho, hels, hbr⟩ := hrel
    by_cases hlt : k < x.length
    · obtain ⟨b, off, cs, hA, hbl, hk1, hat⟩ := hv0.out.in0 hbr.out k hlt
      cases hA
      cases hk1
      have g0 := hat 0 _ rfl
      simp at g0
      clear hat
      obtain ⟨u0, q0⟩ := own_cell ho.out k (by omega)
      have fz := World.ownsRow.frozenAt ho.out k
      go_wp2
      go_roundw
      case rel =>
        have ho2 := own_setAll [.int .i64 x[k]] k ho.out
        have hel := Els.set hels.out hlt [.int .i64 x[k]] rfl rfl (by simpa using ho.out.1)
        rw [Nat.mul_one] at hel
        exact ⟨k + 1, _, by omega, by go_num, ⟨ho2⟩, ⟨hel.imp fun _ _ hh => hh⟩, ⟨below_setAll [.int .i64 x[k]] (Nat.le_refl _) k hbr.out⟩⟩
      case measure => simp [intOf]; omega
    · have e : k = x.length := by omega
      subst e
      go_wp2
      go_ret
      exact ⟨_, rfl, ⟨cells, ho.out, hels.out⟩, hbr.out⟩
theorem own_sw {α : Type} {K : Nat → World → α → List Value → Prop} {e sz : Nat} {w : World} {v : Value} {xs : List α} {lo : Nat} (h : Own lo e sz (K lo) w v xs) : ∃ A c, v = .slice A xs.length c ∧ Hd (Own lo e sz (K lo) w v xs) := h.sh
theorem abv_setAll {lo G : Nat} (us : List Value) (hG : G < lo) : ∀ {a w : World} (o : Nat), Abv lo a w → Abv lo a (setAll w G o us) := by
  induction us with
  | nil => intro a w o h; exact h
  | cons u r ih => intro a w o h; exact ih (o + 1) (h.setCell (p := ⟨G, o, none⟩) hG u)
theorem rel_step {α : Type} {K : Nat → World → α → List Value → Prop} [KA K] {lo base e sz G c : Nat} {w wr w1 : World} {xs : List α} {cells : List Value} {k : Nat} (us : List Value)
    (ho : wr.ownsRow base e sz (.slice (some ⟨G, 0, none⟩) xs.length c) xs.length cells) (hels : Els sz (K lo wr) cells xs k) (hG : G < lo) (hbG : base ≤ G) (hbr : Below base w wr) (hz : base ≤ wr.heap.size) (hb1 : Below wr.heap.size wr w1) (hlt : k < xs.length) (hu : us.length = sz) (hK : K lo w1 xs[k] us) :
    ∃ cells', (setAll w1 G (k * sz) us).ownsRow base e sz (.slice (some ⟨G, 0, none⟩) xs.length c) xs.length cells' ∧ Els sz (K lo (setAll w1 G (k * sz) us)) cells' xs (k + 1) ∧ Below base w (setAll w1 G (k * sz) us) := by
  have hA : Abv lo wr (setAll w1 G (k * sz) us) := abv_setAll us hG _ ((Abv.refl _ _).below hb1)
  have hA1 : Abv lo w1 (setAll w1 G (k * sz) us) := abv_setAll us hG _ (Abv.refl _ _)
  exact ⟨_, own_setAll us _ (own_mv ho hb1), Els.set (hels.imp fun _ _ hh => KA.mv hh hA) hlt us hu (KA.mv hK hA1) ho.1, below_setAll us hbG _ (hbr.trans (hb1.mono hz))⟩
set_option maxHeartbeats 4000000 in
theorem t_Phi (x : XPhi) (cs : List Value) (w : World) (hx : KPhi lm w x cs) : Calls Tryz.prog 222 #[.agg cs.toArray] w (RetX OPhi x w) := by
  obtain ⟨vins, rfl, hins⟩ := hx
  have tcins := fun W hW => t_I vins x.ins W (hins.mv hW)
  obtain ⟨Ains, cins, rfl, -, hlins, hr0⟩ := hins.sm
  clear hins hr0
  have hbl := fun o o' o'' => (((Below.refl w.heap.size w).al (Nat.le_refl _) o).al (by first | (simp; done) | (simp; omega)) o').al (by first | (simp; done) | (simp; omega)) o''
  go_enter Tryz.func222, Tryz.ntmps222
  go_wp2_with fail
  refine (tcins _ (hbl _ _ _)).mono ?_; rintro e w1 ⟨v, rfl, ho, hb1⟩
  have hB1 := (hbl _ _ _).then hb1
  have k0_1 := bat hb1 w.heap.size (by first | (simp; done) | (simp; omega))
  have f0_1 := fat hb1 w.heap.size (by first | (simp; done) | (simp; omega))
  have k1_1 := bat hb1 (w.heap.size + 1) (by first | (simp; done) | (simp; omega))
  have f1_1 := fat hb1 (w.heap.size + 1) (by first | (simp; done) | (simp; omega))
  have k2_1 := bat hb1 (w.heap.size + 2) (by first | (simp; done) | (simp; omega))
  have f2_1 := fat hb1 (w.heap.size + 2) (by first | (simp; done) | (simp; omega))
  have hz1 := hb1.size
  simp at k0_1 f0_1 k1_1 f1_1 k2_1 f2_1 hz1
  obtain ⟨Bins, dins, rfl, pins⟩ := own_sw ho
  clear ho
  go_wp2
  refine bodyPost_ret (v := .agg #[.int .i64 x.w, .slice Bins x.ins.length dins]) (by simp [results, Tryz.results222, go_sem, k1_1]) rfl ⟨_, rfl, ⟨_, rfl, (Own.abv pins.out ?pins).low (by first | (simp; done) | (simp; omega))⟩, ?h2⟩
  case pins =>
    repeat (refine Abv.setCell ?_ (by first | (simp; done) | (simp; omega)) _)
    exact Abv.refl _ _
  case h2 =>
    repeat (refine Below.setCell ?_ (by first | (simp; done) | (simp; omega)) _)
    exact hB1
theorem infoPhi : (Tryz.prog.info? 165).map (fun i => (i.zero, i.size, i.bytes)) = some (some (.agg #[.int .i64 0, .slice none 0 0]), 2, 32) := by kernel_rfl
set_option maxHeartbeats 4000000 in
theorem t_PhiS (v : Value) (x : List XPhi) (w : World) (hv : RPhi lm w v x) : Calls Tryz.prog 198 #[v] w (RetL 165 2 OPhi x w) := by
  obtain ⟨A, c, rfl, -, hl, hv0⟩ := hv.sm
  clear hv
  have hmk := mk_run 30 165 (.agg #[.int .i64 0, .slice none 0 0]) 2 32 x.length Tryz.underlying30 infoPhi (by omega) (by omega)
  go_enter Tryz.func198, Tryz.ntmps198
  go_wp2
  have hst := Hd.mk (mk_own w w.heap.size 165 2 x.length #[.int .i64 0, .slice none 0 0] (Nat.le_refl _) (by unfold maxLen; omega))
  clear hmk
  generalize hmc : madeCells #[.int .i64 0, .slice none 0 0] (x.length * 2) = mc at *
  clear hmc
  go_loopw [4] (fun s4 wr => ∃ k : Nat, ∃ cells, k ≤ x.length ∧ s4 = .int .i64 k ∧ Hd (wr.ownsRow w.heap.size 165 2 (.slice (some ⟨w.heap.size, 0, none⟩) x.length x.length) x.length cells) ∧ Hd (Els 2 (OPhi (w.heap.size + 1) wr) cells x k) ∧ Hd (Below w.heap.size w wr)) (fun s4 _ => x.length - (intOf s4).toNat)
  case atStart => exact ⟨0, _, Nat.zero_le _, rfl, hst, ⟨Els.nil _ _ _ _⟩, ⟨(Below.refl _ _).al (Nat.le_refl _) _⟩⟩
  case round =>
    clear hst
    obtain ⟨k, cells, hk, rfl, ho, hels, hbr⟩ := hrel
    by_cases hlt : k < x.length
    · obtain ⟨b, off, cs, hA, hbl, hkk, hat⟩ := hv0.out.in0 hbr.out k hlt
      cases hA
      have hsm := Hd.mk hbr.out.size
      have htc := fun W hW => t_Phi x[k] cs W (KM.mv hkk (hbr.out.then hW))
      obtain ⟨vins, rfl, hins⟩ := hkk
      obtain ⟨Ains, cins, rfl, -, hlins, -⟩ := hins.sm
      have g0 := hat 0 _ rfl
      have g1 := hat 1 _ rfl
      simp at g0 g1
      clear hat
      have hG := Hd.mk (own_lt ho.out)
      obtain ⟨u0, q0⟩ := own_cell ho.out (k * 2) (by omega)
      have z0 := World.ownsRow.frozenAt ho.out (k * 2)
      obtain ⟨u1, q1⟩ := own_cell ho.out (k * 2 + 1) (by omega)
      have z1 := World.ownsRow.frozenAt ho.out (k * 2 + 1)
      go_wp2_with fail
      refine (htc _ (Below.refl _ _)).mono ?_; rintro e w1 ⟨cs1, rfl, hcs, hb1⟩
      obtain ⟨nins, rfl, rins⟩ := hcs
      obtain ⟨Bins, dins, rfl, pins⟩ := own_sw rins
      clear rins
      replace q0 := (bat hb1 w.heap.size hG.out.2 (k * 2)).trans q0
      replace z0 := (fat hb1 w.heap.size hG.out.2 (k * 2)).trans z0
      replace q1 := (bat hb1 w.heap.size hG.out.2 (k * 2 + 1)).trans q1
      replace z1 := (fat hb1 w.heap.size hG.out.2 (k * 2 + 1)).trans z1
      go_wp2
      go_roundw
      case rel =>
        obtain ⟨cells', h1, h2, h3⟩ := rel_step [.int .i64 x[k].w, .slice Bins x[k].ins.length dins] ho.out hels.out (Nat.lt_succ_self _) (Nat.le_refl _) hbr.out hsm.out hb1 hlt rfl (KA.low (show OPhi wr.heap.size w1 x[k] _ from ⟨_, rfl, pins.out⟩) hG.out.2)
        exact ⟨k + 1, cells', by omega, by go_num, ⟨h1⟩, ⟨h2⟩, ⟨h3⟩⟩
      case measure => simp [intOf]; omega
    · have e : k = x.length := by omega
      subst e
      go_wp2
      go_ret
      exact ⟨_, rfl, ⟨cells, ho.out, hels.out.imp fun _ _ hh => KA.low hh (Nat.le_succ _)⟩, hbr.out⟩
set_option maxHeartbeats 4000000 in
theorem t_Inst (x : XInst) (cs : List Value) (w : World) (hx : KInst lm w x cs) : Calls Tryz.prog 223 #[.agg cs.toArray] w (RetX OInst x w) := by
  obtain ⟨vargs, rfl, hargs⟩ := hx
  have tcargs := fun W hW => t_I vargs x.args W (hargs.mv hW)
  obtain ⟨Aargs, cargs, rfl, -, hlargs, hr0⟩ := hargs.sm
  clear hargs hr0
  have hbl := fun o o' o'' => (((Below.refl w.heap.size w).al (Nat.le_refl _) o).al (by first | (simp; done) | (simp; omega)) o').al (by first | (simp; done) | (simp; omega)) o''
  go_enter Tryz.func223, Tryz.ntmps223
  go_wp2_with fail
  refine (tcargs _ (hbl _ _ _)).mono ?_; rintro e w1 ⟨v, rfl, ho, hb1⟩
  have hB1 := (hbl _ _ _).then hb1
  have k0_1 := bat hb1 w.heap.size (by first | (simp; done) | (simp; omega))
  have f0_1 := fat hb1 w.heap.size (by first | (simp; done) | (simp; omega))
  have k1_1 := bat hb1 (w.heap.size + 1) (by first | (simp; done) | (simp; omega))
  have f1_1 := fat hb1 (w.heap.size + 1) (by first | (simp; done) | (simp; omega))
  have k2_1 := bat hb1 (w.heap.size + 2) (by first | (simp; done) | (simp; omega))
  have f2_1 := fat hb1 (w.heap.size + 2) (by first | (simp; done) | (simp; omega))
  have hz1 := hb1.size
  simp at k0_1 f0_1 k1_1 f1_1 k2_1 f2_1 hz1
  obtain ⟨Bargs, dargs, rfl, pargs⟩ := own_sw ho
  clear ho
  go_wp2
  refine bodyPost_ret (v := .agg #[.int .i64 x.op, .int .i64 x.w, .int .i64 x.a, .int .i64 x.b, .int .i64 x.c, .int .i64 x.imm, .slice Bargs x.args.length dargs]) (by simp [results, Tryz.results223, go_sem, k1_1]) rfl ⟨_, rfl, ⟨_, rfl, (Own.abv pargs.out ?pargs).low (by first | (simp; done) | (simp; omega))⟩, ?h2⟩
  case pargs =>
    repeat (refine Abv.setCell ?_ (by first | (simp; done) | (simp; omega)) _)
    exact Abv.refl _ _
  case h2 =>
    repeat (refine Below.setCell ?_ (by first | (simp; done) | (simp; omega)) _)
    exact hB1
theorem infoInst : (Tryz.prog.info? 26).map (fun i => (i.zero, i.size, i.bytes)) = some (some (.agg #[.int .i64 0, .int .i64 0, .int .i64 0, .int .i64 0, .int .i64 0, .int .i64 0, .slice none 0 0]), 7, 72) := by kernel_rfl
set_option maxHeartbeats 4000000 in
theorem t_InstS (v : Value) (x : List XInst) (w : World) (hv : RInst lm w v x) : Calls Tryz.prog 199 #[v] w (RetL 26 7 OInst x w) := by
  obtain ⟨A, c, rfl, -, hl, hv0⟩ := hv.sm
  clear hv
  have hmk := mk_run 27 26 (.agg #[.int .i64 0, .int .i64 0, .int .i64 0, .int .i64 0, .int .i64 0, .int .i64 0, .slice none 0 0]) 7 72 x.length Tryz.underlying27 infoInst (by omega) (by omega)
  go_enter Tryz.func199, Tryz.ntmps199
  go_wp2
  have hst := Hd.mk (mk_own w w.heap.size 26 7 x.length #[.int .i64 0, .int .i64 0, .int .i64 0, .int .i64 0, .int .i64 0, .int .i64 0, .slice none 0 0] (Nat.le_refl _) (by unfold maxLen; omega))
  clear hmk
  generalize hmc : madeCells #[.int .i64 0, .int .i64 0, .int .i64 0, .int .i64 0, .int .i64 0, .int .i64 0, .slice none 0 0] (x.length * 7) = mc at *
  clear hmc
  go_loopw [4] (fun s4 wr => ∃ k : Nat, ∃ cells, k ≤ x.length ∧ s4 = .int .i64 k ∧ Hd (wr.ownsRow w.heap.size 26 7 (.slice (some ⟨w.heap.size, 0, none⟩) x.length x.length) x.length cells) ∧ Hd (Els 7 (OInst (w.heap.size + 1) wr) cells x k) ∧ Hd (Below w.heap.size w wr)) (fun s4 _ => x.length - (intOf s4).toNat)
  case atStart => exact ⟨0, _, Nat.zero_le _, rfl, hst, ⟨Els.nil _ _ _ _⟩, ⟨(Below.refl _ _).al (Nat.le_refl _) _⟩⟩
  case round =>
    clear hst
    obtain ⟨k, cells, hk, rfl, ho, hels, hbr⟩ := hrel
    by_cases hlt : k < x.length
    · obtain ⟨b, off, cs, hA, hbl, hkk, hat⟩ := hv0.out.in0 hbr.out k hlt
      cases hA
      have hsm := Hd.mk hbr.out.size
      have htc := fun W hW => t_Inst x[k] cs W (KM.mv hkk (hbr.out.then hW))
      obtain ⟨vargs, rfl, hargs⟩ := hkk
      obtain ⟨Aargs, cargs, rfl, -, hlargs, -⟩ := hargs.sm
      have g0 := hat 0 _ rfl
      have g1 := hat 1 _ rfl
      have g2 := hat 2 _ rfl
      have g3 := hat 3 _ rfl
      have g4 := hat 4 _ rfl
      have g5 := hat 5 _ rfl
      have g6 := hat 6 _ rfl
      simp at g0 g1 g2 g3 g4 g5 g6
      clear hat
      have hG := Hd.mk (own_lt ho.out)
      obtain ⟨u0, q0⟩ := own_cell ho.out (k * 7) (by omega)
      have z0 := World.ownsRow.frozenAt ho.out (k * 7)
      obtain ⟨u1, q1⟩ := own_cell ho.out (k * 7 + 1) (by omega)
      have z1 := World.ownsRow.frozenAt ho.out (k * 7 + 1)
      obtain ⟨u2, q2⟩ := own_cell ho.out (k * 7 + 2) (by omega)
      have z2 := World.ownsRow.frozenAt ho.out (k * 7 + 2)
      obtain ⟨u3, q3⟩ := own_cell ho.out (k * 7 + 3) (by omega)
      have z3 := World.ownsRow.frozenAt ho.out (k * 7 + 3)
      obtain ⟨u4, q4⟩ := own_cell ho.out (k * 7 + 4) (by omega)
      have z4 := World.ownsRow.frozenAt ho.out (k * 7 + 4)
      obtain ⟨u5, q5⟩ := own_cell ho.out (k * 7 + 5) (by omega)
      have z5 := World.ownsRow.frozenAt ho.out (k * 7 + 5)
      obtain ⟨u6, q6⟩ := own_cell ho.out (k * 7 + 6) (by omega)
      have z6 := World.ownsRow.frozenAt ho.out (k * 7 + 6)
      go_wp2_with fail
      refine (htc _ (Below.refl _ _)).mono ?_; rintro e w1 ⟨cs1, rfl, hcs, hb1⟩
      obtain ⟨nargs, rfl, rargs⟩ := hcs
      obtain ⟨Bargs, dargs, rfl, pargs⟩ := own_sw rargs
      clear rargs
      replace q0 := (bat hb1 w.heap.size hG.out.2 (k * 7)).trans q0
      replace z0 := (fat hb1 w.heap.size hG.out.2 (k * 7)).trans z0
      replace q1 := (bat hb1 w.heap.size hG.out.2 (k * 7 + 1)).trans q1
      replace z1 := (fat hb1 w.heap.size hG.out.2 (k * 7 + 1)).trans z1
      replace q2 := (bat hb1 w.heap.size hG.out.2 (k * 7 + 2)).trans q2
      replace z2 := (fat hb1 w.heap.size hG.out.2 (k * 7 + 2)).trans z2
      replace q3 := (bat hb1 w.heap.size hG.out.2 (k * 7 + 3)).trans q3
      replace z3 := (fat hb1 w.heap.size hG.out.2 (k * 7 + 3)).trans z3
      replace q4 := (bat hb1 w.heap.size hG.out.2 (k * 7 + 4)).trans q4
      replace z4 := (fat hb1 w.heap.size hG.out.2 (k * 7 + 4)).trans z4
      replace q5 := (bat hb1 w.heap.size hG.out.2 (k * 7 + 5)).trans q5
      replace z5 := (fat hb1 w.heap.size hG.out.2 (k * 7 + 5)).trans z5
      replace q6 := (bat hb1 w.heap.size hG.out.2 (k * 7 + 6)).trans q6
      replace z6 := (fat hb1 w.heap.size hG.out.2 (k * 7 + 6)).trans z6
      go_wp2
      go_roundw
      case rel =>
        obtain ⟨cells', h1, h2, h3⟩ := rel_step [.int .i64 x[k].op, .int .i64 x[k].w, .int .i64 x[k].a, .int .i64 x[k].b, .int .i64 x[k].c, .int .i64 x[k].imm, .slice Bargs x[k].args.length dargs] ho.out hels.out (Nat.lt_succ_self _) (Nat.le_refl _) hbr.out hsm.out hb1 hlt rfl (KA.low (show OInst wr.heap.size w1 x[k] _ from ⟨_, rfl, pargs.out⟩) hG.out.2)
        exact ⟨k + 1, cells', by omega, by go_num, ⟨h1⟩, ⟨h2⟩, ⟨h3⟩⟩
      case measure => simp [intOf]; omega
    · have e : k = x.length := by omega
      subst e
      go_wp2
      go_ret
      exact ⟨_, rfl, ⟨cells, ho.out, hels.out.imp fun _ _ hh => KA.low hh (Nat.le_succ _)⟩, hbr.out⟩
theorem t_Term (x : XTerm) (w : World) : Calls Tryz.prog 200 #[.agg #[.int .i64 x.kind, .int .i64 x.a, .int .i64 x.x, .int .i64 x.y]] w (Ret (.agg #[.int .i64 x.kind, .int .i64 x.a, .int .i64 x.x, .int .i64 x.y]) w) := by
  have hbl := fun o o' o'' => (((Below.refl w.heap.size w).al (Nat.le_refl _) o).al (by first | (simp; done) | (simp; omega)) o').al (by first | (simp; done) | (simp; omega)) o''
  go_enter Tryz.func200, Tryz.ntmps200
  go_wp2
  refine bodyPost_ret (v := .agg #[.int .i64 x.kind, .int .i64 x.a, .int .i64 x.x, .int .i64 x.y]) (by simp [results, Tryz.results200, go_sem]) rfl ⟨rfl, ?h2⟩
  case h2 =>
    repeat (refine Below.setCell ?_ (by first | (simp; done) | (simp; omega)) _)
    exact hbl _ _ _
set_option maxHeartbeats 4000000 in
theorem t_Block (x : XBlock) (cs : List Value) (w : World) (hx : KBlock lm w x cs) : Calls Tryz.prog 162 #[.agg cs.toArray] w (RetX OBlock x w) := by
  obtain ⟨vphis, vinsts, rfl, hphis, hinsts⟩ := hx
  have tcphis := fun W hW => t_PhiS vphis x.phis W (hphis.mv hW)
  have tcinsts := fun W hW => t_InstS vinsts x.insts W (hinsts.mv hW)
  have tcterm := fun W => t_Term x.term W
  obtain ⟨Aphis, cphis, rfl, -, hlphis, hr0⟩ := hphis.sm
  clear hphis hr0
  obtain ⟨Ainsts, cinsts, rfl, -, hlinsts, hr0⟩ := hinsts.sm
  clear hinsts hr0
  have hbl := fun o o' o'' => (((Below.refl w.heap.size w).al (Nat.le_refl _) o).al (by first | (simp; done) | (simp; omega)) o').al (by first | (simp; done) | (simp; omega)) o''
  go_enter Tryz.func162, Tryz.ntmps162
  go_wp2_with fail
  refine (tcphis _ (hbl _ _ _)).mono ?_; rintro e w1 ⟨v, rfl, ho, hb1⟩
  have hB1 := (hbl _ _ _).then hb1
  have k0_1 := bat hb1 w.heap.size (by first | (simp; done) | (simp; omega))
  have f0_1 := fat hb1 w.heap.size (by first | (simp; done) | (simp; omega))
  have k1_1 := bat hb1 (w.heap.size + 1) (by first | (simp; done) | (simp; omega))
  have f1_1 := fat hb1 (w.heap.size + 1) (by first | (simp; done) | (simp; omega))
  have k2_1 := bat hb1 (w.heap.size + 2) (by first | (simp; done) | (simp; omega))
  have f2_1 := fat hb1 (w.heap.size + 2) (by first | (simp; done) | (simp; omega))
  have hz1 := hb1.size
  simp at k0_1 f0_1 k1_1 f1_1 k2_1 f2_1 hz1
  obtain ⟨Bphis, dphis, rfl, pphis⟩ := own_sw ho
  clear ho
  go_wp2_with fail
  refine (tcinsts _ ?hB).mono ?_
  case hB =>
    repeat (refine Below.setCell ?_ (by first | (simp; done) | (simp; omega)) _)
    exact hB1
  rintro e w2 ⟨v, rfl, ho, hb2⟩
  have hB2 : Below w.heap.size w w2 := by
    refine Below.then ?_ hb2
    repeat (refine Below.setCell ?_ (by first | (simp; done) | (simp; omega)) _)
    exact hB1
  have k0_2 := bat hb2 w.heap.size (by first | (simp; done) | (simp; omega))
  have f0_2 := fat hb2 w.heap.size (by first | (simp; done) | (simp; omega))
  have k1_2 := bat hb2 (w.heap.size + 1) (by first | (simp; done) | (simp; omega))
  have f1_2 := fat hb2 (w.heap.size + 1) (by first | (simp; done) | (simp; omega))
  have k2_2 := bat hb2 (w.heap.size + 2) (by first | (simp; done) | (simp; omega))
  have f2_2 := fat hb2 (w.heap.size + 2) (by first | (simp; done) | (simp; omega))
  have hz2 := hb2.size
  simp at k0_2 f0_2 k1_2 f1_2 k2_2 f2_2 hz2
  obtain ⟨Binsts, dinsts, rfl, pinsts⟩ := own_sw ho
  clear ho
  go_wp2_with fail
  refine (tcterm _).mono ?_; rintro e w3 ⟨rfl, hb3⟩
  have hB3 : Below w.heap.size w w3 := by
    refine Below.then ?_ hb3
    repeat (refine Below.setCell ?_ (by first | (simp; done) | (simp; omega)) _)
    exact hB2
  have k0_3 := bat hb3 w.heap.size (by first | (simp; done) | (simp; omega))
  have f0_3 := fat hb3 w.heap.size (by first | (simp; done) | (simp; omega))
  have k1_3 := bat hb3 (w.heap.size + 1) (by first | (simp; done) | (simp; omega))
  have f1_3 := fat hb3 (w.heap.size + 1) (by first | (simp; done) | (simp; omega))
  have k2_3 := bat hb3 (w.heap.size + 2) (by first | (simp; done) | (simp; omega))
  have f2_3 := fat hb3 (w.heap.size + 2) (by first | (simp; done) | (simp; omega))
  have hz3 := hb3.size
  simp at k0_3 f0_3 k1_3 f1_3 k2_3 f2_3 hz3
  go_wp2
  refine bodyPost_ret (v := .agg #[.slice Bphis x.phis.length dphis, .slice Binsts x.insts.length dinsts, .int .i64 x.term.kind, .int .i64 x.term.a, .int .i64 x.term.x, .int .i64 x.term.y]) (by simp [results, Tryz.results162, go_sem, k1_1, k1_2, k1_3]) rfl ⟨_, rfl, ⟨_, _, rfl, (Own.abv pphis.out ?pphis).low (by first | (simp; done) | (simp; omega)), (Own.abv pinsts.out ?pinsts).low (by first | (simp; done) | (simp; omega))⟩, ?h2⟩
  case pphis =>
    repeat (refine Abv.setCell ?_ (by first | (simp; done) | (simp; omega)) _)
    refine Abv.below ?_ hb3
    repeat (refine Abv.setCell ?_ (by first | (simp; done) | (simp; omega)) _)
    refine Abv.below ?_ hb2
    repeat (refine Abv.setCell ?_ (by first | (simp; done) | (simp; omega)) _)
    exact Abv.refl _ _
  case pinsts =>
    repeat (refine Abv.setCell ?_ (by first | (simp; done) | (simp; omega)) _)
    refine Abv.below ?_ hb3
    repeat (refine Abv.setCell ?_ (by first | (simp; done) | (simp; omega)) _)
    exact Abv.refl _ _
  case h2 =>
    repeat (refine Below.setCell ?_ (by first | (simp; done) | (simp; omega)) _)
    exact hB3
theorem infoBlock : (Tryz.prog.info? 32).map (fun i => (i.zero, i.size, i.bytes)) = some (some (.agg #[.slice none 0 0, .slice none 0 0, .int .i64 0, .int .i64 0, .int .i64 0, .int .i64 0]), 6, 80) := by kernel_rfl
set_option maxHeartbeats 4000000 in
theorem t_BlockS (v : Value) (x : List XBlock) (w : World) (hv : RBlock lm w v x) : Calls Tryz.prog 122 #[v] w (RetL 32 6 OBlock x w) := by
  obtain ⟨A, c, rfl, -, hl, hv0⟩ := hv.sm
  clear hv
  have hmk := mk_run 33 32 (.agg #[.slice none 0 0, .slice none 0 0, .int .i64 0, .int .i64 0, .int .i64 0, .int .i64 0]) 6 80 x.length Tryz.underlying33 infoBlock (by omega) (by omega)
  go_enter Tryz.func122, Tryz.ntmps122
  go_wp2
  have hst := Hd.mk (mk_own w w.heap.size 32 6 x.length #[.slice none 0 0, .slice none 0 0, .int .i64 0, .int .i64 0, .int .i64 0, .int .i64 0] (Nat.le_refl _) (by unfold maxLen; omega))
  clear hmk
  generalize hmc : madeCells #[.slice none 0 0, .slice none 0 0, .int .i64 0, .int .i64 0, .int .i64 0, .int .i64 0] (x.length * 6) = mc at *
  clear hmc
  go_loopw [4] (fun s4 wr => ∃ k : Nat, ∃ cells, k ≤ x.length ∧ s4 = .int .i64 k ∧ Hd (wr.ownsRow w.heap.size 32 6 (.slice (some ⟨w.heap.size, 0, none⟩) x.length x.length) x.length cells) ∧ Hd (Els 6 (OBlock (w.heap.size + 1) wr) cells x k) ∧ Hd (Below w.heap.size w wr)) (fun s4 _ => x.length - (intOf s4).toNat)
  case atStart => exact ⟨0, _, Nat.zero_le _, rfl, hst, ⟨Els.nil _ _ _ _⟩, ⟨(Below.refl _ _).al (Nat.le_refl _) _⟩⟩
  case round =>
    clear hst
    obtain ⟨k, cells, hk, rfl, ho, hels, hbr⟩ := hrel
    by_cases hlt : k < x.length
    · obtain ⟨b, off, cs, hA, hbl, hkk, hat⟩ := hv0.out.in0 hbr.out k hlt
      cases hA
      have hsm := Hd.mk hbr.out.size
      have htc := fun W hW => t_Block x[k] cs W (KM.mv hkk (hbr.out.then hW))
      obtain ⟨vphis, vinsts, rfl, hphis, hinsts⟩ := hkk
      obtain ⟨Aphis, cphis, rfl, -, hlphis, -⟩ := hphis.sm
      obtain ⟨Ainsts, cinsts, rfl, -, hlinsts, -⟩ := hinsts.sm
      have g0 := hat 0 _ rfl
      have g1 := hat 1 _ rfl
      have g2 := hat 2 _ rfl
      have g3 := hat 3 _ rfl
      have g4 := hat 4 _ rfl
      have g5 := hat 5 _ rfl
      simp at g0 g1 g2 g3 g4 g5
      clear hat
      have hG := Hd.mk (own_lt ho.out)
      obtain ⟨u0, q0⟩ := own_cell ho.out (k * 6) (by omega)
      have z0 := World.ownsRow.frozenAt ho.out (k * 6)
      obtain ⟨u1, q1⟩ := own_cell ho.out (k * 6 + 1) (by omega)
      have z1 := World.ownsRow.frozenAt ho.out (k * 6 + 1)
      obtain ⟨u2, q2⟩ := own_cell ho.out (k * 6 + 2) (by omega)
      have z2 := World.ownsRow.frozenAt ho.out (k * 6 + 2)
      obtain ⟨u3, q3⟩ := own_cell ho.out (k * 6 + 3) (by omega)
      have z3 := World.ownsRow.frozenAt ho.out (k * 6 + 3)
      obtain ⟨u4, q4⟩ := own_cell ho.out (k * 6 + 4) (by omega)
      have z4 := World.ownsRow.frozenAt ho.out (k * 6 + 4)
      obtain ⟨u5, q5⟩ := own_cell ho.out (k * 6 + 5) (by omega)
      have z5 := World.ownsRow.frozenAt ho.out (k * 6 + 5)
      go_wp2_with fail
      refine (htc _ (Below.refl _ _)).mono ?_; rintro e w1 ⟨cs1, rfl, hcs, hb1⟩
      obtain ⟨nphis, ninsts, rfl, rphis, rinsts⟩ := hcs
      obtain ⟨Bphis, dphis, rfl, pphis⟩ := own_sw rphis
      clear rphis
      obtain ⟨Binsts, dinsts, rfl, pinsts⟩ := own_sw rinsts
      clear rinsts
      replace q0 := (bat hb1 w.heap.size hG.out.2 (k * 6)).trans q0
      replace z0 := (fat hb1 w.heap.size hG.out.2 (k * 6)).trans z0
      replace q1 := (bat hb1 w.heap.size hG.out.2 (k * 6 + 1)).trans q1
      replace z1 := (fat hb1 w.heap.size hG.out.2 (k * 6 + 1)).trans z1
      replace q2 := (bat hb1 w.heap.size hG.out.2 (k * 6 + 2)).trans q2
      replace z2 := (fat hb1 w.heap.size hG.out.2 (k * 6 + 2)).trans z2
      replace q3 := (bat hb1 w.heap.size hG.out.2 (k * 6 + 3)).trans q3
      replace z3 := (fat hb1 w.heap.size hG.out.2 (k * 6 + 3)).trans z3
      replace q4 := (bat hb1 w.heap.size hG.out.2 (k * 6 + 4)).trans q4
      replace z4 := (fat hb1 w.heap.size hG.out.2 (k * 6 + 4)).trans z4
      replace q5 := (bat hb1 w.heap.size hG.out.2 (k * 6 + 5)).trans q5
      replace z5 := (fat hb1 w.heap.size hG.out.2 (k * 6 + 5)).trans z5
      go_wp2
      go_roundw
      case rel =>
        obtain ⟨cells', h1, h2, h3⟩ := rel_step [.slice Bphis x[k].phis.length dphis, .slice Binsts x[k].insts.length dinsts, .int .i64 x[k].term.kind, .int .i64 x[k].term.a, .int .i64 x[k].term.x, .int .i64 x[k].term.y] ho.out hels.out (Nat.lt_succ_self _) (Nat.le_refl _) hbr.out hsm.out hb1 hlt rfl (KA.low (show OBlock wr.heap.size w1 x[k] _ from ⟨_, _, rfl, pphis.out, pinsts.out⟩) hG.out.2)
        exact ⟨k + 1, cells', by omega, by go_num, ⟨h1⟩, ⟨h2⟩, ⟨h3⟩⟩
      case measure => simp [intOf]; omega
    · have e : k = x.length := by omega
      subst e
      go_wp2
      go_ret
      exact ⟨_, rfl, ⟨cells, ho.out, hels.out.imp fun _ _ hh => KA.low hh (Nat.le_succ _)⟩, hbr.out⟩
set_option maxHeartbeats 4000000 in
theorem t_Func (x : XFunc) (cs : List Value) (w : World) (hx : KFunc lm w x cs) : Calls Tryz.prog 86 #[.agg cs.toArray] w (RetX OFunc x w) := by
  obtain ⟨vparams, vblocks, rfl, hparams, hblocks⟩ := hx
  have tcparams := fun W hW => t_I vparams x.params W (hparams.mv hW)
  have tcblocks := fun W hW => t_BlockS vblocks x.blocks W (hblocks.mv hW)
  obtain ⟨Aparams, cparams, rfl, -, hlparams, hr0⟩ := hparams.sm
  clear hparams hr0
  obtain ⟨Ablocks, cblocks, rfl, -, hlblocks, hr0⟩ := hblocks.sm
  clear hblocks hr0
  have hbl := fun o o' o'' => (((Below.refl w.heap.size w).al (Nat.le_refl _) o).al (by first | (simp; done) | (simp; omega)) o').al (by first | (simp; done) | (simp; omega)) o''
  go_enter Tryz.func86, Tryz.ntmps86
  go_wp2_with fail
  refine (tcparams _ (hbl _ _ _)).mono ?_; rintro e w1 ⟨v, rfl, ho, hb1⟩
  have hB1 := (hbl _ _ _).then hb1
  have k0_1 := bat hb1 w.heap.size (by first | (simp; done) | (simp; omega))
  have f0_1 := fat hb1 w.heap.size (by first | (simp; done) | (simp; omega))
  have k1_1 := bat hb1 (w.heap.size + 1) (by first | (simp; done) | (simp; omega))
  have f1_1 := fat hb1 (w.heap.size + 1) (by first | (simp; done) | (simp; omega))
  have k2_1 := bat hb1 (w.heap.size + 2) (by first | (simp; done) | (simp; omega))
  have f2_1 := fat hb1 (w.heap.size + 2) (by first | (simp; done) | (simp; omega))
  have hz1 := hb1.size
  simp at k0_1 f0_1 k1_1 f1_1 k2_1 f2_1 hz1
  obtain ⟨Bparams, dparams, rfl, pparams⟩ := own_sw ho
  clear ho
  go_wp2_with fail
  refine (tcblocks _ ?hB).mono ?_
  case hB =>
    repeat (refine Below.setCell ?_ (by first | (simp; done) | (simp; omega)) _)
    exact hB1
  rintro e w2 ⟨v, rfl, ho, hb2⟩
  have hB2 : Below w.heap.size w w2 := by
    refine Below.then ?_ hb2
    repeat (refine Below.setCell ?_ (by first | (simp; done) | (simp; omega)) _)
    exact hB1
  have k0_2 := bat hb2 w.heap.size (by first | (simp; done) | (simp; omega))
  have f0_2 := fat hb2 w.heap.size (by first | (simp; done) | (simp; omega))
  have k1_2 := bat hb2 (w.heap.size + 1) (by first | (simp; done) | (simp; omega))
  have f1_2 := fat hb2 (w.heap.size + 1) (by first | (simp; done) | (simp; omega))
  have k2_2 := bat hb2 (w.heap.size + 2) (by first | (simp; done) | (simp; omega))
  have f2_2 := fat hb2 (w.heap.size + 2) (by first | (simp; done) | (simp; omega))
  have hz2 := hb2.size
  simp at k0_2 f0_2 k1_2 f1_2 k2_2 f2_2 hz2
  obtain ⟨Bblocks, dblocks, rfl, pblocks⟩ := own_sw ho
  clear ho
  go_wp2
  refine bodyPost_ret (v := .agg #[.slice Bparams x.params.length dparams, .int .i64 x.ret, .slice Bblocks x.blocks.length dblocks]) (by simp [results, Tryz.results86, go_sem, k1_1, k1_2]) rfl ⟨_, rfl, ⟨_, _, rfl, (Own.abv pparams.out ?pparams).low (by first | (simp; done) | (simp; omega)), (Own.abv pblocks.out ?pblocks).low (by first | (simp; done) | (simp; omega))⟩, ?h2⟩
  case pparams =>
    repeat (refine Abv.setCell ?_ (by first | (simp; done) | (simp; omega)) _)
    refine Abv.below ?_ hb2
    repeat (refine Abv.setCell ?_ (by first | (simp; done) | (simp; omega)) _)
    exact Abv.refl _ _
  case pblocks =>
    repeat (refine Abv.setCell ?_ (by first | (simp; done) | (simp; omega)) _)
    exact Abv.refl _ _
  case h2 =>
    repeat (refine Below.setCell ?_ (by first | (simp; done) | (simp; omega)) _)
    exact hB2
end Go.Proofs.YtkcgejbnhpccdaaGreat
