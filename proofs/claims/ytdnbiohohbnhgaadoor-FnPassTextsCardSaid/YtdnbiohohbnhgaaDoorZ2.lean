/- The walk of FnExactPassesOf: it returns true and turns nothing that was there. No conditions. -/
import Derived.Test.YtdnbiohohbnhgaaDoorW3
import Derived.Test.YtdnbiohohbnhgaaDoorL3
set_option linter.unusedSimpArgs false
set_option linter.unusedVariables false
namespace Go.Proofs.YtdnbiohohbnhgaaDoor
open Go.RowKit
/-- The law's answer, and that nothing that was there turned. -/
def RetT (w : World) (e : Ending) (w' : World) : Prop := e = .returned (.bool true) ∧ Below w.heap.size w w'
theorem OwI.cells {lo : Nat} {w : World} {v : Value} {xs : List Int} (h : w.ownsRow lo 2 1 v xs.length (xs.map (Value.int .i64))) : ∃ A c, v = .slice A xs.length c ∧ Wr w A xs.length ∧ (0 < xs.length → ∃ G, A = some ⟨G, 0, none⟩ ∧ lo ≤ G ∧ G < w.heap.size) := by
  obtain ⟨h1, h2⟩ := h
  rcases h2 with ⟨rfl, h3⟩ | ⟨g, cap, cur, rfl, h5, h6, h7, h8, h9, h10⟩
  · exact ⟨none, 0, by rw [h3], fun h => absurd h (by omega), fun h => absurd h (by omega)⟩
  · refine ⟨_, _, rfl, fun _ => ⟨g, cur, _, rfl, h6, fun i hi => ⟨xs[i], ?_⟩⟩, fun _ => ⟨g, rfl, h5, (Array.getElem?_eq_some_iff.1 h6).1⟩⟩
    have : (cur.toList.take (xs.length * 1))[i]? = (xs.map (Value.int .i64))[i]? := by rw [h10]
    rw [List.getElem?_take_of_lt (by omega)] at this
    simpa [hi] using this
theorem row_ri {lo : Nat} {w : World} {v : Value} {xs : List Int} (h : w.ownsRow lo 2 1 v xs.length (xs.map (Value.int .i64))) (hl : xs.length ≤ 1048576) : RI lm w v xs := OwI.rd (OwI.of h) hl
theorem e_same {v u : Value} {xs : List Int} {w : World} (hv : RI lm w v xs) (hu : RI lm w u xs) : Calls Tryd.prog 8 #[v, u] w (Ret (.bool true) w) := by
  have h := e_I v u xs xs w hv hu
  rwa [decide_eq_true rfl] at h
set_option maxHeartbeats 4000000 in
theorem f_ExactPassesOf (s : ByteArray) (m : Int) (w : World) (hm : w.cell? ⟨0, 0, none⟩ = some (.int .i64 m)) (h00 : 0 < w.heap.size) : Calls Tryd.prog 3 #[.string s] w (RetT w) := by
  by_cases hs : s.size ≤ 1048576
  case neg =>
    have hgt : decide ((1048576 : Int) < s.size) = true := by simp; omega
    go_enter Tryd.func3, Tryd.ntmps3
    go_wp2
    go_ret
    exact ⟨rfl, Below.refl _ _⟩
  have hgt : decide ((1048576 : Int) < s.size) = false := by simp; omega
  have hS := fun W => s_PassesOf s W hs
  have hC := fun W (hW : Below w.heap.size w W) => c_PassesOf s m W hs ((bat hW 0 h00 0).trans hm) (Nat.lt_of_lt_of_le h00 hW.size)
  have hul := passesOf_len s
  generalize passesOf s = r at *
  generalize hus : r.getD [] = us at *
  have hul : us.length ≤ 1048576 := by omega
  unfold RetO at hS hC
  rw [hus] at hS hC
  generalize r.isSome = ok at *
  clear hus hm
  have hbb : (ok != ok) = false := by cases ok <;> rfl
  go_enter Tryd.func3, Tryd.ntmps3
  go_wp2_with fail
  refine (hS _).mono ?_; rintro e w2 ⟨V0, rfl, hV0, hb2⟩
  have hv2 := row_ri hV0 hul
  obtain ⟨Aw, cw, rfl, -⟩ := own_shape hV0
  clear hV0
  go_wp2_with fail
  refine (hC _ hb2).mono ?_; rintro e w4 ⟨G0, rfl, hG0, hb4⟩
  obtain ⟨Ag, cg, rfl, -, -⟩ := OwI.cells hG0
  go_wp2_with fail
  refine (e_same (row_ri hG0 hul) (hv2.mv hb4)).mono ?_; rintro e w9 ⟨rfl, hb9⟩
  have h29 := hb4.then hb9
  obtain ⟨Ag', cg', hv, hwr, hGb⟩ := OwI.cells (own_mv hG0 hb9)
  cases hv
  go_wp2_with fail
  refine (m_I Ag us.length cg 1 w9 hul hwr (by omega) (by omega)).mono ?_; rintro e w10 ⟨rfl, hw10⟩
  have hld := hwr.held 1
  rw [← hw10] at hld
  have h210 : Below w2.heap.size w2 w10 := by
    rw [hw10]
    by_cases h0 : us.length = 0
    · rw [h0]; exact h29
    · obtain ⟨G, rfl, hG1, hG2⟩ := hGb (by omega)
      exact below_setAll _ hG1 _ h29
  clear hw10 hwr hGb
  go_wp2_with fail
  refine (h_I Ag us.length cg 1 w10 hul hld (by omega) (by omega)).mono ?_; rintro e w11 ⟨rfl, hb11⟩
  have h211 := h210.then hb11
  have q0 : decide ((1 : Int) + (us.length : Int) < 0) = false := by simp; omega
  have q1 : ((1 + (us.length : Int)) != (1 + (us.length : Int))) = false := by simp
  go_wp2_with fail
  refine (hC _ (hb2.then h211)).mono ?_; rintro e w13 ⟨V1, rfl, hV1, hb13⟩
  obtain ⟨Av, cv, rfl, -⟩ := own_shape hV1
  go_wp2_with fail
  refine (e_same (row_ri hV1 hul) (hv2.mv (h211.then hb13))).mono ?_; rintro e w14 ⟨rfl, hb14⟩
  go_wp2_with fail
  refine (h_I Ag us.length cg 1 w14 hul (((hld.mv hb11).mv hb13).mv hb14) (by omega) (by omega)).mono ?_; rintro e w15 ⟨rfl, hb15⟩
  go_wp2
  go_ret
  exact ⟨rfl, ((hb2.then h211).then hb13).then (hb14.then hb15)⟩
end Go.Proofs.YtdnbiohohbnhgaaDoor
