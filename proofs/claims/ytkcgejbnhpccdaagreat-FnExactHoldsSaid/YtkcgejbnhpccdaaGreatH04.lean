import Derived.Test.YtkcgejbnhpccdaaGreatJ07
import Derived.Test.YtkcgejbnhpccdaaGreatH03
import Derived.Test.YtkcgejbnhpccdaaGreatRows
import Derived.Test.YtkcgejbnhpccdaaGreatJ44
import Derived.WalkKit
import Derived.ProofKit
import Derived.OpenShut
import Derived.ShutString
import Derived.ChangeOld
import Derived.Below
set_option linter.unusedSimpArgs false
set_option linter.unusedVariables false
namespace Go.Proofs.YtkcgejbnhpccdaaGreat
open Go.RowKit
section
variable {H : Type} {enc : TypeId × Value → H}
theorem ln5 {cs : List Value} (h : cs.length = 5) : ∃ c0 c1 c2 c3 c4, cs = [c0, c1, c2, c3, c4] := by
  match cs, h with
  | [c0, c1, c2, c3, c4], _ => exact ⟨_, _, _, _, _, rfl⟩
theorem ln8 {cs : List Value} (h : cs.length = 8) : ∃ c0 c1 c2 c3 c4 c5 c6 c7, cs = [c0, c1, c2, c3, c4, c5, c6, c7] := by
  match cs, h with
  | [c0, c1, c2, c3, c4, c5, c6, c7], _ => exact ⟨_, _, _, _, _, _, _, _, rfl⟩
theorem int_le {n : Nat} (h : n ≤ maxLen) : (n : Int) ≤ 9223372036854775807 := by unfold maxLen at h; omega
theorem cells_str : Tryz.prog.cellsOf 9 = 1 := by kernel_rfl
theorem cells_Result : Tryz.prog.cellsOf 69 = 5 := by kernel_rfl
theorem op_Result {W : World} : Op enc W 69 5 (KResW) := fun n cs y h => by
  obtain ⟨xs, m, _, _, hl, hs, hf⟩ := DataW.trod_struct Tryz.underlying69 h
  rw [cells_Result] at hl
  have hs : xs.length = 5 := hs
  obtain ⟨c0, c1, c2, c3, c4, rfl⟩ := ln5 hl
  have u0 : DataW.trod enc Tryz.prog W 0 (fun _ => true) true m 2 (([c0, c1, c2, c3, c4].drop 0).take (Tryz.prog.cellsOf 2)) = xs[0]? := hf 0 _ rfl
  rw [cells_int, List.getElem?_eq_getElem (by omega)] at u0
  have u1 : DataW.trod enc Tryz.prog W 0 (fun _ => true) true m 2 (([c0, c1, c2, c3, c4].drop 1).take (Tryz.prog.cellsOf 2)) = xs[1]? := hf 1 _ rfl
  rw [cells_int, List.getElem?_eq_getElem (by omega)] at u1
  have u2 : DataW.trod enc Tryz.prog W 0 (fun _ => true) true m 24 (([c0, c1, c2, c3, c4].drop 2).take (Tryz.prog.cellsOf 24)) = xs[2]? := hf 2 _ rfl
  rw [cells_ints, List.getElem?_eq_getElem (by omega)] at u2
  have u3 : DataW.trod enc Tryz.prog W 0 (fun _ => true) true m 9 (([c0, c1, c2, c3, c4].drop 3).take (Tryz.prog.cellsOf 9)) = xs[3]? := hf 3 _ rfl
  rw [cells_str, List.getElem?_eq_getElem (by omega)] at u3
  have u4 : DataW.trod enc Tryz.prog W 0 (fun _ => true) true m 2 (([c0, c1, c2, c3, c4].drop 4).take (Tryz.prog.cellsOf 2)) = xs[4]? := hf 4 _ rfl
  rw [cells_int, List.getElem?_eq_getElem (by omega)] at u4
  obtain ⟨i0, e0, _, f0⟩ := DataW.trod_int Tryz.underlying2 u0
  obtain rfl : c0 = .int .i64 i0 := by simpa using e0
  obtain ⟨i1, e1, _, f1⟩ := DataW.trod_int Tryz.underlying2 u1
  obtain rfl : c1 = .int .i64 i1 := by simpa using e1
  obtain ⟨v2, i2, e2, r2⟩ := op_ints u2
  obtain rfl : c2 = v2 := by simpa using e2
  obtain ⟨i3, e3, _, f3⟩ := DataW.trod_string Tryz.underlying9 u3
  obtain rfl : c3 = .string i3 := by simpa using e3
  obtain ⟨i4, e4, _, f4⟩ := DataW.trod_int Tryz.underlying2 u4
  obtain rfl : c4 = .int .i64 i4 := by simpa using e4
  exact ⟨⟨i0, i1, i2, i3, i4⟩, ⟨_, rfl, r2, int_le f3⟩, rfl⟩
theorem cells_Oracle : Tryz.prog.cellsOf 71 = 8 := by kernel_rfl
theorem op_Oracle {W : World} : Op enc W 71 8 (KOraW) := fun n cs y h => by
  obtain ⟨xs, m, _, _, hl, hs, hf⟩ := DataW.trod_struct Tryz.underlying71 h
  rw [cells_Oracle] at hl
  have hs : xs.length = 4 := hs
  obtain ⟨c0, c1, c2, c3, c4, c5, c6, c7, rfl⟩ := ln8 hl
  have u0 : DataW.trod enc Tryz.prog W 0 (fun _ => true) true m 2 (([c0, c1, c2, c3, c4, c5, c6, c7].drop 0).take (Tryz.prog.cellsOf 2)) = xs[0]? := hf 0 _ rfl
  rw [cells_int, List.getElem?_eq_getElem (by omega)] at u0
  have u1 : DataW.trod enc Tryz.prog W 0 (fun _ => true) true m 24 (([c0, c1, c2, c3, c4, c5, c6, c7].drop 1).take (Tryz.prog.cellsOf 24)) = xs[1]? := hf 1 _ rfl
  rw [cells_ints, List.getElem?_eq_getElem (by omega)] at u1
  have u2 : DataW.trod enc Tryz.prog W 0 (fun _ => true) true m 9 (([c0, c1, c2, c3, c4, c5, c6, c7].drop 2).take (Tryz.prog.cellsOf 9)) = xs[2]? := hf 2 _ rfl
  rw [cells_str, List.getElem?_eq_getElem (by omega)] at u2
  have u3 : DataW.trod enc Tryz.prog W 0 (fun _ => true) true m 69 (([c0, c1, c2, c3, c4, c5, c6, c7].drop 3).take (Tryz.prog.cellsOf 69)) = xs[3]? := hf 3 _ rfl
  rw [cells_Result, List.getElem?_eq_getElem (by omega)] at u3
  obtain ⟨i0, e0, _, f0⟩ := DataW.trod_int Tryz.underlying2 u0
  obtain rfl : c0 = .int .i64 i0 := by simpa using e0
  obtain ⟨v1, i1, e1, r1⟩ := op_ints u1
  obtain rfl : c1 = v1 := by simpa using e1
  obtain ⟨i2, e2, _, f2⟩ := DataW.trod_string Tryz.underlying9 u2
  obtain rfl : c2 = .string i2 := by simpa using e2
  obtain ⟨i3, e3, _⟩ := op_Result _ _ _ u3
  obtain ⟨v3, e3, r3, hm3⟩ := e3
  simp at e3
  obtain ⟨rfl, rfl, rfl, rfl, rfl⟩ := e3
  exact ⟨⟨i0, i1, i2, i3⟩, ⟨⟨_, _, rfl, r1, r3⟩, int_le f2, hm3⟩, rfl⟩
end
end Go.Proofs.YtkcgejbnhpccdaaGreat
set_option linter.unusedSimpArgs false
set_option linter.unusedVariables false
namespace Go.Proofs.YtkcgejbnhpccdaaGreat
open Go.ChangeShapes Go.WideShapes Go.ChangeAt Go.RowKit
open Go.ChangeMaps (open_string shut_string)
theorem ownR7 : ownKnob Tryz.prog.godebug = none := by kernel_rfl
theorem laidOutR7 : laidOutB Tryz.prog = true := by kernel_rfl
set_option maxRecDepth 100000 in
theorem lifted_FnExactHolds (os : Os) (started : os.Started) (H : Type) (enc : TypeId × Value → H) :
    ReturnsInHanded {} Tryz.checked os 11 .any (Rows.fnExactHoldsSpec.pre6 enc Tryz.prog Tryz.f11 Rows.fnExactHoldsRow.domain false) (Rows.fnExactHoldsSpec.post enc Tryz.prog Tryz.f11 false true false false) := by
  refine returnsInHanded_of_change (C := Tryz.checked) ownR7 started (by kernel_rfl) Tryz.func11
    (ChangeSpec.witness6 (enc := enc) (C := Tryz.checked) false ⟨#[], #[.agg #[.slice none 0 0], .agg #[.int .i64 0, .slice none 0 0, .string ByteArray.empty, .int .i64 0, .int .i64 0, .slice none 0 0, .string ByteArray.empty, .int .i64 0]], []⟩ 8 (by kernel_rfl) (by kernel_rfl) (by kernel_rfl) (by kernel_rfl)) ?_
  intro W base args ds gs before hval0 hW hcnd _
  have hval : ∀ (j : Nat) t v, Tryz.f11.params[j]? = some t → args[j]? = some v → Value.okWide Tryz.prog W .any base t v := hval0
  have hW' := hW
  obtain ⟨p, q, hA0, hV, rfl, hfz, hnd⟩ := hW
  have hA : DataW.TrodAll enc Tryz.prog W 0 (fun _ => true) true Tryz.f11.params.toList args.toList ds p := hA0
  rw [Tryz.params11] at hA hval
  obtain ⟨v0, vs0, d0, ds0, p0, q0, hargs0, rfl, rfl, h0, r0⟩ := trodAll_cons hA
  obtain ⟨v1, vs1, d1, ds1, p1, q1, hargs1, rfl, rfl, h1, r1⟩ := trodAll_cons r0
  obtain ⟨rfl, rfl, rfl⟩ := trodAll_nil r1
  subst hargs1
  obtain rfl : args = #[v0, v1] := by cases args; simp_all
  obtain ⟨rfl, rfl⟩ := trodVars_none hV
  obtain ⟨cs0, rfl, _⟩ := okWide_struct Tryz.underlying60 (hval 0 60 v0 rfl rfl)
  have k0 := h0
  have lt0 : ∀ x ∈ p0, x.block < W.heap.size := by obtain ⟨m, hm⟩ := k0; exact DataW.trod_lt m _ _ _ hm
  obtain ⟨x0, w0⟩ : ∃ x, KMod lw W x cs0.toList := by
    obtain ⟨fuel, hf⟩ := h0
    obtain ⟨x, hx, _⟩ := op_Module _ _ _ hf
    exact ⟨x, hx⟩
  obtain ⟨cs1, rfl, _⟩ := okWide_struct Tryz.underlying71 (hval 1 71 v1 rfl rfl)
  have k1 := h1
  have lt1 : ∀ x ∈ p1, x.block < W.heap.size := by obtain ⟨m, hm⟩ := k1; exact DataW.trod_lt m _ _ _ hm
  obtain ⟨x1, w1⟩ : ∃ x, KOraW W x cs1.toList := by
    obtain ⟨fuel, hf⟩ := h1
    obtain ⟨x, hx, _⟩ := op_Oracle _ _ _ hf
    exact ⟨x, hx⟩
  clear hA0 hval0
  have hwalk := f_ExactHolds x0 cs0.toList x1 cs1.toList W w0 w1
  simp only [Array.toArray_toList] at hwalk
  refine hwalk.mono fun e W' ⟨he, bel⟩ => ?_
  subst he
  exact ⟨_, rfl, _, _, _, [], _, [], hW', trodAll_mk1 (shut_bool Tryz.underlying4 _), (trodAll_cons_mk (Below.trod laidOutR7 (by kernel_rfl) (of_decide_eq_true (by kernel_rfl)) k0 bel lt0) (trodAll_cons_mk (Below.trod laidOutR7 (by kernel_rfl) (of_decide_eq_true (by kernel_rfl)) k1 bel lt1) trodAll_mk0)), rfl, bel.frame _, fun h => by cases h⟩
theorem exact_Holds : Rows.FnExactHoldsSaid :=
  OpenClaim.holds_of_wide 11 Tryz.f11 rfl rfl rfl rfl rfl rfl rfl ⟨rfl, rfl, rfl, rfl, rfl⟩ rfl rfl rfl rfl rfl (by kernel_rfl) Tryz.func11 (by kernel_rfl)
    (of_decide_eq_true (by kernel_rfl)) (by unfold Func.isWrapper; first | (rw [if_pos (by decide +kernel)]; kernel_rfl) | (rw [if_neg (by decide +kernel)]; exact ⟨rfl, rfl⟩))
    (fun os started H enc _ => lifted_FnExactHolds os started H enc)
end Go.Proofs.YtkcgejbnhpccdaaGreat
