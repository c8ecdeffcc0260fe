/- Rows.FnPassTextsCardSaid is proved: whatever the input, FnPassTexts returns true and the input reads as it did; the tables of package utf8 that the row lists are tied to the program's text. -/
import Derived.Test.YtdnbiohohbnhgaaDoorR2
import Derived.Test.YtdnbiohohbnhgaaDoorZ4
import Derived.Test.YtdnbiohohbnhgaaDoorO1
set_option linter.unusedSimpArgs false
set_option linter.unusedVariables false
namespace Go.Proofs.YtdnbiohohbnhgaaDoor
open Go.ChangeShapes Go.WideShapes Go.ChangeAt Go.RowKit
theorem u8_wf {q : Int} (h : (Lit.int .u8 q).wf = true) : 0 ≤ q ∧ q < 256 := by
  have e1 : IntKind.u8.min = 0 := by decide
  have e2 : IntKind.u8.max = 255 := by decide
  have h' : (decide (IntKind.u8.min ≤ q) && decide (q ≤ IntKind.u8.max)) = true := h
  rw [e1, e2, Bool.and_eq_true, decide_eq_true_eq, decide_eq_true_eq] at h'
  omega
theorem op_byte {H : Type} {enc : TypeId × Value → H} {W : World} : Op enc W 5 1 KB := fun n cs y h => by
  obtain ⟨q, rfl, _, hw⟩ := DataW.trod_int Tryd.underlying5 h
  obtain ⟨q1, q2⟩ := u8_wf hw
  exact ⟨q, ⟨rfl, q1, q2⟩, rfl⟩
theorem cells_byte : Tryd.prog.cellsOf 5 = 1 := by kernel_rfl
theorem op_bytes {H : Type} {enc : TypeId × Value → H} {W : World} {n : Nat} {cs : List Value} {y : DataW H × List MemPlace} (h : DataW.trod enc Tryd.prog W 0 (fun _ => true) true n 31 cs = some y) : ∃ v xs, cs = [v] ∧ Rd lw 1 KB W v xs := op_slice Tryd.underlying31 cells_byte (by omega) op_byte h
set_option maxRecDepth 100000 in
theorem lifted_PassTexts (os : Os) (started : os.Started) (H : Type) (enc : TypeId × Value → H) :
    ReturnsInHanded {} Tryd.checked os 5 .any (fun w args => (Rows.fnPassTextsSpec.pre enc Tryd.prog Tryd.f5 [] false w args ∧ laidMetH Tryd.prog Rows.fnPassTextsRow.laid w) ∧ sizedMet enc Tryd.prog Tryd.f5 (OpenSpec.ofChange Rows.fnPassTextsSpec) false w args)
      (Rows.fnPassTextsSpec.post enc Tryd.prog Tryd.f5 false true false false) := by
  refine handed_shaped (X := fun w _ => laidMetH Tryd.prog Rows.fnPassTextsRow.laid w) (fun _ _ _ hh h => h.of_heap hh) started (by kernel_rfl) Tryd.func5
    (ChangeSpec.witness_shaped (enc := enc) (C := Tryd.checked) (os := os) (X := fun w _ => laidMetH Tryd.prog Rows.fnPassTextsRow.laid w) false (World.laidAll Tryd.prog os Rows.fnPassTextsRow.laid) #[.slice none 0 0] 8 (World.laidAll_os _ _ _) (World.shaped_of_ZipB (by kernel_rfl) (by kernel_rfl)) (by kernel_rfl) (by kernel_rfl) (by kernel_rfl)
      (by rw [MakeChecks.laidMetH_plain _ _ _ (by kernel_rfl)]; exact laidMet_laidAll _ (by kernel_rfl) (by kernel_rfl))) ?_
  intro W base args ds gs before hval0 hW hsh
  have hval : ∀ (j : Nat) t v, Tryd.f5.params[j]? = some t → args[j]? = some v → Value.okWide Tryd.prog W .any base t v := hval0
  have hW' := hW
  obtain ⟨p, q, hA0, hV, rfl, hfz, hnd⟩ := hW
  have hA : DataW.TrodAll enc Tryd.prog W 0 (fun _ => true) true Tryd.f5.params.toList args.toList ds p := hA0
  rw [Tryd.params5] at hA hval
  obtain ⟨v0, vs0, d0, ds0, p0, q0, hargs, rfl, rfl, h0, r0⟩ := trodAll_cons hA
  obtain ⟨rfl, rfl, rfl⟩ := trodAll_nil r0
  obtain rfl : args = #[v0] := by cases args; simp_all
  obtain ⟨rfl, rfl⟩ := trodVars_none hV
  obtain ⟨A0, n0, c0, rfl⟩ := okWide_slice Tryd.underlying31 (hval 0 31 v0 rfl rfl)
  have k0 := h0
  have lt0 : ∀ x ∈ p0, x.block < W.heap.size := by obtain ⟨m, hm⟩ := k0; exact DataW.trod_lt m _ _ _ hm
  obtain ⟨x0, w0⟩ : ∃ x, Rd lw 1 KB W (.slice A0 n0 c0) x := by
    obtain ⟨fuel, hf⟩ := h0
    obtain ⟨v, x, hv, hx⟩ := op_bytes hf
    obtain rfl : Value.slice A0 n0 c0 = v := by simpa [Value.cells] using hv
    exact ⟨x, hx⟩
  clear hA0 hval0
  obtain ⟨m, hm⟩ := maxLen_cell hsh
  refine (f_PassTexts _ x0 m W w0 hm (cell_lt hm)).mono fun e W' ⟨he, bel⟩ => ?_
  subst he
  exact ⟨_, rfl, _, _, _, [], _, [], hW', trodAll_mk1 (shut_bool Tryd.underlying4 _), (trodAll_cons_mk (Below.trod laidOut (by kernel_rfl) (of_decide_eq_true (by kernel_rfl)) k0 bel lt0) trodAll_mk0), rfl, bel.frame _, fun h => by cases h⟩
theorem row_PassTexts : Rows.FnPassTextsSaid :=
  OpenClaim.holds_of_wide 5 Tryd.f5 rfl rfl rfl rfl rfl rfl rfl ⟨rfl, rfl, rfl, rfl, rfl⟩ rfl rfl rfl rfl rfl (by kernel_rfl) Tryd.func5 (by kernel_rfl)
    (of_decide_eq_true (by kernel_rfl)) (by unfold Func.isWrapper; first | (rw [if_pos (by decide +kernel)]; kernel_rfl) | (rw [if_neg (by decide +kernel)]; exact ⟨rfl, rfl⟩))
    (fun os started H enc _ => lifted_PassTexts os started H enc)
theorem pass_Texts : Rows.FnPassTextsCardSaid :=
  Claim7.holds_tied_plain_at .later [] [.data, .pinned] true (true, "a6f2b99d3b276d46047ae49a8b9d8d384e70fba24930ad028c4a597bbc37ec05") false
    row_PassTexts (fun _ h => by cases h) (by kernel_rfl) (fun _ h => by cases h) fnPassTexts_row_tie rfl ⟨rfl, rfl⟩ (by kernel_rfl) rfl
    (fun f fn hf hfn => by
      obtain rfl : f = 5 := Option.some.inj ((show Tryd.prog.funcNamed "loop.example/g00457/laws.FnPassTexts" = some 5 by kernel_rfl).symm.trans hf) |>.symm
      obtain rfl : fn = Tryd.f5 := (Option.some.inj (Tryd.func5.symm.trans hfn)).symm
      exact ⟨by kernel_rfl, fun j t ht => by
        rw [Tryd.params5] at ht
        have hm : t ∈ [31] := by simpa using Array.mem_of_getElem? ht
        have hall : ([31].all fun u => !Tryd.prog.wantsStandIn u) = true := by kernel_rfl
        exact (show Tryd.prog.wantsStandIn t = false by simpa using List.all_eq_true.1 hall t hm)⟩)
    (by kernel_rfl)
end Go.Proofs.YtdnbiohohbnhgaaDoor
