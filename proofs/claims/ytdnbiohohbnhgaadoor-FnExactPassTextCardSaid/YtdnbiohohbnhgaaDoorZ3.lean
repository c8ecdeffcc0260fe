/- The walk of FnExactPassText: it returns true and turns nothing that was there. No conditions. -/
import Derived.Test.YtdnbiohohbnhgaaDoorW5
import Derived.Test.YtdnbiohohbnhgaaDoorZ2
set_option linter.unusedSimpArgs false
set_option linter.unusedVariables false
namespace Go.Proofs.YtdnbiohohbnhgaaDoor
open Go.RowKit
set_option maxHeartbeats 4000000 in
theorem f_ExactPassText (v : Value) (l : List Int) (m : Int) (w : World) (hv : RI lw w v l) (hm : w.cell? ⟨0, 0, none⟩ = some (.int .i64 m)) (h00 : 0 < w.heap.size) : Calls Tryd.prog 4 #[v] w (RetT w) := by
  obtain ⟨A, c, rfl, -, -, hv1⟩ := hv.sh
  clear hv
  have hlw : (l.length : Int) ≤ 9223372036854775807 := by have := hv1.out.len; unfold lw at this; omega
  by_cases hs : l.length ≤ 1048576
  case neg =>
    have hgt : decide ((1048576 : Int) < l.length) = true := by simp; omega
    go_enter Tryd.func4, Tryd.ntmps4
    go_wp2
    go_ret
    exact ⟨rfl, Below.refl _ _⟩
  have hgt : decide ((1048576 : Int) < l.length) = false := by simp; omega
  have hv := hv1.out.nar hs fun _ _ _ hk => hk
  have hv0 := Hd.mk hv
  clear hv1 hv hlw
  have hT := fun W (hW : Below w.heap.size w W) => t_I _ l W (hv0.out.mv hW)
  go_enter Tryd.func4, Tryd.ntmps4
  go_wp2_with fail
  refine (hT _ (Below.refl _ _)).mono ?_; rintro e w1 ⟨V1, rfl, ho1, hb1⟩
  have hr1 := OwI.rd ho1 hs
  obtain ⟨A1, c1, rfl, -⟩ := Own.sh ho1
  clear ho1
  go_wp2_with fail
  refine (s_PassText _ l w1 hr1).mono ?_; rintro e w2 ⟨rfl, hb2⟩
  have hB2 := hb1.then hb2
  clear hr1
  go_wp2_with fail
  refine (hT _ hB2).mono ?_; rintro e w3 ⟨V3, rfl, ho3, hb3⟩
  have hr3 := OwI.rd ho3 hs
  obtain ⟨A3, c3, rfl, -⟩ := Own.sh ho3
  clear ho3
  have hB3 := hB2.then hb3
  go_wp2_with fail
  refine (c_PassText _ l m w3 hr3 ((bat hB3 0 h00 0).trans hm) (Nat.lt_of_lt_of_le h00 hB3.size)).mono ?_; rintro e w4 ⟨rfl, hb4⟩
  have hB4 := hB3.then hb4
  generalize passText l = s at *
  have hss : (s.toList == s.toList) = true := by simp
  have hsn : (s.toList != s.toList) = false := by simp
  go_wp2_with fail
  refine (hT _ hB4).mono ?_; rintro e w5 ⟨V5, rfl, ho5, hb5⟩
  have hr5 := OwI.rd ho5 hs
  obtain ⟨A5, c5, rfl, -⟩ := Own.sh ho5
  clear ho5
  go_wp2_with fail
  refine (e_same ((hr3.mv hb4).mv hb5) hr5).mono ?_; rintro e w6 ⟨rfl, hb6⟩
  go_wp2
  go_ret
  exact ⟨rfl, (hB4.then hb5).then hb6⟩
end Go.Proofs.YtdnbiohohbnhgaaDoor
