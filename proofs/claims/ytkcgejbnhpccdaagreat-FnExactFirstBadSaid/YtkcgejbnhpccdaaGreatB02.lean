import Derived.Test.YtkcgejbnhpccdaaGreatJ43
import Derived.Test.YtkcgejbnhpccdaaGreatB01
import Derived.Test.YtkcgejbnhpccdaaGreatJ24
import Derived.Test.YtkcgejbnhpccdaaGreatJ07
set_option linter.unusedSimpArgs false
set_option linter.unusedVariables false
namespace Go.Proofs.YtkcgejbnhpccdaaGreat
open Go.RowKit
def wRes (x : XRes) : Nat := x.out.length + x.mem.size
def wOra (x : XOra) : Nat := x.args.length + (x.mem.size + wRes x.want)
def KResW (w : World) (x : XRes) (cs : List Value) : Prop := ∃ v, cs = [.int .i64 x.code, .int .i64 x.value, v, .string x.mem, .int .i64 x.steps] ∧ RI lw w v x.out ∧ (x.mem.size : Int) ≤ 9223372036854775807
def KOraW (w : World) (x : XOra) (cs : List Value) : Prop := KOracle lw w x cs ∧ (x.mem.size : Int) ≤ 9223372036854775807 ∧ (x.want.mem.size : Int) ≤ 9223372036854775807
set_option maxHeartbeats 1000000 in
theorem z_Res (x : XRes) (cs : List Value) (left : Int) (w : World) (hk : KResW w x cs) (h0 : 0 ≤ left) (h1 : left ≤ 1048576) : Calls Tryz.prog 69 #[.agg cs.toArray, .int .i64 left] w (Ret (.int .i64 (sub left (wRes x))) w) := by
  obtain ⟨v1, rfl, r1, hn⟩ := hk
  obtain ⟨xc, xv, xo, xm, xs⟩ := x
  have hbl := fun o => (Below.refl w.heap.size w).al (Nat.le_refl _) o
  have z1 := fun W hW => z_I v1 xo left W (r1.mv hW) h0 h1
  unfold wRes
  simp only at *
  clear r1
  generalize xo.length = n1 at *
  rcases sub_cases left n1 h0 with ⟨e1, q1⟩ | ⟨e1, q1, q1'⟩
  · rw [e1] at z1
    rw [sub_lt left (n1 + xm.size) (by omega)]
    clear e1
    go_enter Tryz.func69, Tryz.ntmps69
    go_wp2_with fail
    refine (z1 _ (hbl _)).mono ?_; rintro e w1 ⟨rfl, hb1⟩
    go_wp2
    go_ret
    exact ⟨rfl, (hbl _).then hb1⟩
  · rw [e1] at z1
    rw [← sub_add left n1 xm.size q1']
    clear e1
    have q9 : left - (n1 : Int) ≤ 1048576 := by omega
    generalize left - (n1 : Int) = l1 at *
    rcases sub_cases l1 xm.size q1 with ⟨e2, q2⟩ | ⟨e2, q2, q2'⟩
    all_goals
      rw [e2]
      clear e2
      go_enter Tryz.func69, Tryz.ntmps69
      go_wp2_with fail
      refine (z1 _ (hbl _)).mono ?_; rintro e w1 ⟨rfl, hb1⟩
      have k0 := bat hb1 w.heap.size (by simp)
      simp at k0
      have hbw := Hd.mk ((hbl _).then hb1)
      go_wp2
      go_ret
      exact ⟨rfl, hbw.out⟩
set_option maxHeartbeats 1000000 in
theorem z_Ora (x : XOra) (cs : List Value) (left : Int) (w : World) (hk : KOraW w x cs) (h0 : 0 ≤ left) (h1 : left ≤ 1048576) : Calls Tryz.prog 38 #[.agg cs.toArray, .int .i64 left] w (Ret (.int .i64 (sub left (wOra x))) w) := by
  obtain ⟨⟨v1, v2, rfl, r1, r2⟩, hn, hn2⟩ := hk
  obtain ⟨xf, xa, xm, ⟨yc, yv, yo, ym, ys⟩⟩ := x
  have hbl := fun o => (Below.refl w.heap.size w).al (Nat.le_refl _) o
  have z1 := fun W hW => z_I v1 xa left W (r1.mv hW) h0 h1
  have z3 := fun W hW left h0 h1 => z_Res ⟨yc, yv, yo, ym, ys⟩ _ left W ⟨v2, rfl, r2.mv hW, hn2⟩ h0 h1
  unfold wOra
  simp only at *
  clear r1 r2
  generalize wRes ⟨yc, yv, yo, ym, ys⟩ = n3 at *
  generalize xa.length = n1 at *
  rcases sub_cases left n1 h0 with ⟨e1, q1⟩ | ⟨e1, q1, q1'⟩
  · rw [e1] at z1
    rw [sub_lt left (n1 + (xm.size + n3)) (by omega)]
    clear e1 z3
    go_enter Tryz.func38, Tryz.ntmps38
    go_wp2_with fail
    refine (z1 _ (hbl _)).mono ?_; rintro e w1 ⟨rfl, hb1⟩
    go_wp2
    go_ret
    exact ⟨rfl, (hbl _).then hb1⟩
  · rw [e1] at z1
    rw [← sub_add left n1 (xm.size + n3) q1']
    clear e1
    have q9 : left - (n1 : Int) ≤ 1048576 := by omega
    generalize left - (n1 : Int) = l1 at *
    rcases sub_cases l1 xm.size q1 with ⟨e2, q2⟩ | ⟨e2, q2, q2'⟩
    · rw [sub_lt l1 (xm.size + n3) (by omega)]
      clear e2 z3
      go_enter Tryz.func38, Tryz.ntmps38
      go_wp2_with fail
      refine (z1 _ (hbl _)).mono ?_; rintro e w1 ⟨rfl, hb1⟩
      have hbw := Hd.mk ((hbl _).then hb1)
      have k0 := bat hb1 w.heap.size (by simp)
      simp at k0
      go_wp2
      go_ret
      exact ⟨rfl, hbw.out⟩
    · rw [← sub_add l1 xm.size n3 q2']
      clear e2
      have d1 : decide (l1 - (xm.size : Int) < 0) = false := by simpa using q2
      replace z3 := fun W hW => z3 W hW (l1 - xm.size) q2 (by omega)
      rcases sub_cases (l1 - xm.size) n3 q2 with ⟨e3, q3⟩ | ⟨e3, q3, q3'⟩
      all_goals
        rw [e3] at z3 ⊢
        clear e3
        go_enter Tryz.func38, Tryz.ntmps38
        go_wp2_with fail
        refine (z1 _ (hbl _)).mono ?_; rintro e w1 ⟨rfl, hb1⟩
        have hbw := Hd.mk ((hbl _).then hb1)
        have k0 := bat hb1 w.heap.size (by simp)
        simp at k0
        go_wp2_with fail
        refine (z3 _ hbw.out).mono ?_; rintro e w2 ⟨rfl, hb2⟩
        go_wp2
        go_ret
        exact ⟨rfl, hbw.out.then hb2⟩
end Go.Proofs.YtkcgejbnhpccdaaGreat
set_option linter.unusedSimpArgs false
set_option linter.unusedVariables false
namespace Go.Proofs.YtkcgejbnhpccdaaGreat
open Go.RowKit
def ORes (lo : Nat) (w : World) (x : XRes) (cs : List Value) : Prop := ∃ v, cs = [.int .i64 x.code, .int .i64 x.value, v, .string x.mem, .int .i64 x.steps] ∧ OwI lo w v x.out
instance : KA ORes := ⟨fun ⟨v, h, r⟩ hb => ⟨v, h, r.abv hb⟩, fun ⟨v, h, r⟩ hl => ⟨v, h, r.low hl⟩⟩
def OOra (lo : Nat) (w : World) (x : XOra) (cs : List Value) : Prop := ∃ va vo, cs = [.int .i64 x.func, va, .string x.mem, .int .i64 x.want.code, .int .i64 x.want.value, vo, .string x.want.mem, .int .i64 x.want.steps] ∧ OwI lo w va x.args ∧ OwI lo w vo x.want.out
instance : KA OOra := ⟨fun ⟨v, v', h, r, s⟩ hb => ⟨v, v', h, r.abv hb, s.abv hb⟩, fun ⟨v, v', h, r, s⟩ hl => ⟨v, v', h, r.low hl, s.low hl⟩⟩
theorem o_ora {lo : Nat} {w : World} {p : XOra} {cs : List Value} (h : OOra lo w p cs) (hw : wOra p ≤ lm) : KOracle lm w p cs := by
  obtain ⟨v, v', rfl, r, s⟩ := h
  unfold wOra wRes at hw
  exact ⟨v, v', rfl, r.rd (by omega), s.rd (by omega)⟩
theorem nar_ora {w : World} {p : XOra} {cs : List Value} (h : KOracle lw w p cs) (hw : wOra p ≤ lm) : KOracle lm w p cs := by
  obtain ⟨v, v', rfl, r, s⟩ := h
  unfold wOra wRes at hw
  exact ⟨v, v', rfl, r.nar (by omega) fun _ _ _ hk => hk, s.nar (by omega) fun _ _ _ hk => hk⟩
set_option maxHeartbeats 4000000 in
theorem t_Res (x : XRes) (cs : List Value) (w : World) (hx : KRes w x cs) : Calls Tryz.prog 70 #[.agg cs.toArray] w (RetX ORes x w) := by
  obtain ⟨vout, rfl, hout⟩ := hx
  have tcout := fun W hW => t_I vout x.out W (hout.mv hW)
  obtain ⟨Aout, cout, rfl, -, hlout, hr0⟩ := hout.sm
  clear hout hr0
  have hbl := fun o o' o'' => (((Below.refl w.heap.size w).al (Nat.le_refl _) o).al (by first | (simp; done) | (simp; omega)) o').al (by first | (simp; done) | (simp; omega)) o''
  go_enter Tryz.func70, Tryz.ntmps70
  go_wp2_with fail
  refine (tcout _ (hbl _ _ _)).mono ?_; rintro e w1 ⟨v, rfl, ho, hb1⟩
  have hB1 := (hbl _ _ _).then hb1
  have k0_1 := bat hb1 w.heap.size (by first | (simp; done) | (simp; omega))
  have f0_1 := fat hb1 w.heap.size (by first | (simp; done) | (simp; omega))
  have k1_1 := bat hb1 (w.heap.size + 1) (by first | (simp; done) | (simp; omega))
  have f1_1 := fat hb1 (w.heap.size + 1) (by first | (simp; done) | (simp; omega))
  have k2_1 := bat hb1 (w.heap.size + 2) (by first | (simp; done) | (simp; omega))
  have f2_1 := fat hb1 (w.heap.size + 2) (by first | (simp; done) | (simp; omega))
  have hz1 := hb1.size
  simp at k0_1 f0_1 k1_1 f1_1 k2_1 f2_1 hz1
  obtain ⟨Bout, dout, rfl, pout⟩ := own_sw ho
  clear ho
  go_wp2
  refine bodyPost_ret (v := .agg #[.int .i64 x.code, .int .i64 x.value, .slice Bout x.out.length dout, .string x.mem, .int .i64 x.steps]) (by simp [results, Tryz.results70, go_sem, k1_1]) rfl ⟨_, rfl, ⟨_, rfl, (Own.abv pout.out ?pout).low (by first | (simp; done) | (simp; omega))⟩, ?h2⟩
  case pout =>
    repeat (refine Abv.setCell ?_ (by first | (simp; done) | (simp; omega)) _)
    exact Abv.refl _ _
  case h2 =>
    repeat (refine Below.setCell ?_ (by first | (simp; done) | (simp; omega)) _)
    exact hB1
set_option maxHeartbeats 4000000 in
theorem t_Ora (x : XOra) (cs : List Value) (w : World) (hx : KOracle lm w x cs) : Calls Tryz.prog 39 #[.agg cs.toArray] w (RetX OOra x w) := by
  obtain ⟨vargs, vwant, rfl, hargs, hwant⟩ := hx
  have tcargs := fun W hW => t_I vargs x.args W (hargs.mv hW)
  have tcwant := fun W hW => t_Res x.want _ W ⟨_, rfl, hwant.mv hW⟩
  obtain ⟨Aargs, cargs, rfl, -, hlargs, hr0⟩ := hargs.sm
  clear hargs hr0
  obtain ⟨Awant, cwant, rfl, -, hlwant, hr0⟩ := hwant.sm
  clear hwant hr0
  have hbl := fun o o' o'' => (((Below.refl w.heap.size w).al (Nat.le_refl _) o).al (by first | (simp; done) | (simp; omega)) o').al (by first | (simp; done) | (simp; omega)) o''
  go_enter Tryz.func39, Tryz.ntmps39
  go_wp2_with fail
  refine (tcargs _ (hbl _ _ _)).mono ?_; rintro e w1 ⟨v, rfl, ho, hb1⟩
  have hB1 := (hbl _ _ _).then hb1
  have k0_1 := bat hb1 w.heap.size (by first | (simp; done) | (simp; omega))
  have f0_1 := fat hb1 w.heap.size (by first | (simp; done) | (simp; omega))
  have k1_1 := bat hb1 (w.heap.size + 1) (by first | (simp; done) | (simp; omega))
  have f1_1 := fat hb1 (w.heap.size + 1) (by first | (simp; done) | (simp; omega))
  have k2_1 := bat hb1 (w.heap.size + 2) (by first | (simp; done) | (simp; omega))
  have f2_1 := fat hb1 (w.heap.size + 2) (by first | (simp; done) | (simp; omega))
  have hz1 := hb1.size
  simp at k0_1 f0_1 k1_1 f1_1 k2_1 f2_1 hz1
  obtain ⟨Bargs, dargs, rfl, pargs⟩ := own_sw ho
  clear ho
  go_wp2_with fail
  refine (tcwant _ ?hB).mono ?_
  case hB =>
    repeat (refine Below.setCell ?_ (by first | (simp; done) | (simp; omega)) _)
    exact hB1
  rintro e w2 ⟨cs2, rfl, ⟨v, rfl, ho⟩, hb2⟩
  have hB2 : Below w.heap.size w w2 := by
    refine Below.then ?_ hb2
    repeat (refine Below.setCell ?_ (by first | (simp; done) | (simp; omega)) _)
    exact hB1
  have k0_2 := bat hb2 w.heap.size (by first | (simp; done) | (simp; omega))
  have f0_2 := fat hb2 w.heap.size (by first | (simp; done) | (simp; omega))
  have k1_2 := bat hb2 (w.heap.size + 1) (by first | (simp; done) | (simp; omega))
  have f1_2 := fat hb2 (w.heap.size + 1) (by first | (simp; done) | (simp; omega))
  have k2_2 := bat hb2 (w.heap.size + 2) (by first | (simp; done) | (simp; omega))
  have f2_2 := fat hb2 (w.heap.size + 2) (by first | (simp; done) | (simp; omega))
  have hz2 := hb2.size
  simp at k0_2 f0_2 k1_2 f1_2 k2_2 f2_2 hz2
  obtain ⟨Bwant, dwant, rfl, pwant⟩ := own_sw ho
  clear ho
  go_wp2
  refine bodyPost_ret (v := .agg #[.int .i64 x.func, .slice Bargs x.args.length dargs, .string x.mem, .int .i64 x.want.code, .int .i64 x.want.value, .slice Bwant x.want.out.length dwant, .string x.want.mem, .int .i64 x.want.steps]) (by simp [results, Tryz.results39, go_sem, k1_1, k1_2]) rfl ⟨_, rfl, ⟨_, _, rfl, (Own.abv pargs.out ?pargs).low (by first | (simp; done) | (simp; omega)), (Own.abv pwant.out ?pwant).low (by first | (simp; done) | (simp; omega))⟩, ?h2⟩
  case pargs =>
    repeat (refine Abv.setCell ?_ (by first | (simp; done) | (simp; omega)) _)
    refine Abv.below ?_ hb2
    repeat (refine Abv.setCell ?_ (by first | (simp; done) | (simp; omega)) _)
    exact Abv.refl _ _
  case pwant =>
    repeat (refine Abv.setCell ?_ (by first | (simp; done) | (simp; omega)) _)
    exact Abv.refl _ _
  case h2 =>
    repeat (refine Below.setCell ?_ (by first | (simp; done) | (simp; omega)) _)
    exact hB2
end Go.Proofs.YtkcgejbnhpccdaaGreat
set_option linter.unusedSimpArgs false
set_option linter.unusedVariables false
namespace Go.Proofs.YtkcgejbnhpccdaaGreat
open Go.RowKit
section
variable {H : Type} {enc : TypeId × Value → H}
theorem ln5 {cs : List Value} (h : cs.length = 5) : ∃ c0 c1 c2 c3 c4, cs = [c0, c1, c2, c3, c4] := by
  match cs, h with
  | [c0, c1, c2, c3, c4], _ => exact ⟨_, _, _, _, _, rfl⟩
theorem ln8 {cs : List Value} (h : cs.length = 8) : ∃ c0 c1 c2 c3 c4 c5 c6 c7, cs = [c0, c1, c2, c3, c4, c5, c6, c7] := by
  match cs, h with
  | [c0, c1, c2, c3, c4, c5, c6, c7], _ => exact ⟨_, _, _, _, _, _, _, _, rfl⟩
theorem int_le {n : Nat} (h : n ≤ maxLen) : (n : Int) ≤ 9223372036854775807 := by unfold maxLen at h; omega
theorem cells_str : Tryz.prog.cellsOf 9 = 1 := by kernel_rfl
theorem cells_Result : Tryz.prog.cellsOf 69 = 5 := by kernel_rfl
theorem op_Result {W : World} : Op enc W 69 5 (KResW) := fun n cs y h => by
  obtain ⟨xs, m, _, _, hl, hs, hf⟩ := DataW.trod_struct Tryz.underlying69 h
  rw [cells_Result] at hl
  have hs : xs.length = 5 := hs
  obtain ⟨c0, c1, c2, c3, c4, rfl⟩ := ln5 hl
  have u0 : DataW.trod enc Tryz.prog W 0 (fun _ => true) true m 2 (([c0, c1, c2, c3, c4].drop 0).take (Tryz.prog.cellsOf 2)) = xs[0]? := hf 0 _ rfl
  rw [cells_int, List.getElem?_eq_getElem (by omega)] at u0
  have u1 : DataW.trod enc Tryz.prog W 0 (fun _ => true) true m 2 (([c0, c1, c2, c3, c4].drop 1).take (Tryz.prog.cellsOf 2)) = xs[1]? := hf 1 _ rfl
  rw [cells_int, List.getElem?_eq_getElem (by omega)] at u1
  have u2 : DataW.trod enc Tryz.prog W 0 (fun _ => true) true m 24 (([c0, c1, c2, c3, c4].drop 2).take (Tryz.prog.cellsOf 24)) = xs[2]? := hf 2 _ rfl
  rw [cells_ints, List.getElem?_eq_getElem (by omega)] at u2
  have u3 : DataW.trod enc Tryz.prog W 0 (fun _ => true) true m 9 (([c0, c1, c2, c3, c4].drop 3).take (Tryz.prog.cellsOf 9)) = xs[3]? := hf 3 _ rfl
  rw [cells_str, List.getElem?_eq_getElem (by omega)] at u3
  have u4 : DataW.trod enc Tryz.prog W 0 (fun _ => true) true m 2 (([c0, c1, c2, c3, c4].drop 4).take (Tryz.prog.cellsOf 2)) = xs[4]? := hf 4 _ rfl
  rw [cells_int, List.getElem?_eq_getElem (by omega)] at u4
  obtain ⟨i0, e0, _, f0⟩ := DataW.trod_int Tryz.underlying2 u0
  obtain rfl : c0 = .int .i64 i0 := by simpa using e0
  obtain ⟨i1, e1, _, f1⟩ := DataW.trod_int Tryz.underlying2 u1
  obtain rfl : c1 = .int .i64 i1 := by simpa using e1
  obtain ⟨v2, i2, e2, r2⟩ := op_ints u2
  obtain rfl : c2 = v2 := by simpa using e2
  obtain ⟨i3, e3, _, f3⟩ := DataW.trod_string Tryz.underlying9 u3
  obtain rfl : c3 = .string i3 := by simpa using e3
  obtain ⟨i4, e4, _, f4⟩ := DataW.trod_int Tryz.underlying2 u4
  obtain rfl : c4 = .int .i64 i4 := by simpa using e4
  exact ⟨⟨i0, i1, i2, i3, i4⟩, ⟨_, rfl, r2, int_le f3⟩, rfl⟩
theorem cells_Oracle : Tryz.prog.cellsOf 71 = 8 := by kernel_rfl
theorem op_Oracle {W : World} : Op enc W 71 8 (KOraW) := fun n cs y h => by
  obtain ⟨xs, m, _, _, hl, hs, hf⟩ := DataW.trod_struct Tryz.underlying71 h
  rw [cells_Oracle] at hl
  have hs : xs.length = 4 := hs
  obtain ⟨c0, c1, c2, c3, c4, c5, c6, c7, rfl⟩ := ln8 hl
  have u0 : DataW.trod enc Tryz.prog W 0 (fun _ => true) true m 2 (([c0, c1, c2, c3, c4, c5, c6, c7].drop 0).take (Tryz.prog.cellsOf 2)) = xs[0]? := hf 0 _ rfl
  rw [cells_int, List.getElem?_eq_getElem (by omega)] at u0
  have u1 : DataW.trod enc Tryz.prog W 0 (fun _ => true) true m 24 (([c0, c1, c2, c3, c4, c5, c6, c7].drop 1).take (Tryz.prog.cellsOf 24)) = xs[1]? := hf 1 _ rfl
  rw [cells_ints, List.getElem?_eq_getElem (by omega)] at u1
  have u2 : DataW.trod enc Tryz.prog W 0 (fun _ => true) true m 9 (([c0, c1, c2, c3, c4, c5, c6, c7].drop 2).take (Tryz.prog.cellsOf 9)) = xs[2]? := hf 2 _ rfl
  rw [cells_str, List.getElem?_eq_getElem (by omega)] at u2
  have u3 : DataW.trod enc Tryz.prog W 0 (fun _ => true) true m 69 (([c0, c1, c2, c3, c4, c5, c6, c7].drop 3).take (Tryz.prog.cellsOf 69)) = xs[3]? := hf 3 _ rfl
  rw [cells_Result, List.getElem?_eq_getElem (by omega)] at u3
  obtain ⟨i0, e0, _, f0⟩ := DataW.trod_int Tryz.underlying2 u0
  obtain rfl : c0 = .int .i64 i0 := by simpa using e0
  obtain ⟨v1, i1, e1, r1⟩ := op_ints u1
  obtain rfl : c1 = v1 := by simpa using e1
  obtain ⟨i2, e2, _, f2⟩ := DataW.trod_string Tryz.underlying9 u2
  obtain rfl : c2 = .string i2 := by simpa using e2
  obtain ⟨i3, e3, _⟩ := op_Result _ _ _ u3
  obtain ⟨v3, e3, r3, hm3⟩ := e3
  simp at e3
  obtain ⟨rfl, rfl, rfl, rfl, rfl⟩ := e3
  exact ⟨⟨i0, i1, i2, i3⟩, ⟨⟨_, _, rfl, r1, r3⟩, int_le f2, hm3⟩, rfl⟩
end
end Go.Proofs.YtkcgejbnhpccdaaGreat
