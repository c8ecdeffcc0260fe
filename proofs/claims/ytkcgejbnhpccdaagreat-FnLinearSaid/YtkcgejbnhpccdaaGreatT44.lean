import Derived.Test.YtkcgejbnhpccdaaGreatT43
set_option linter.unusedSimpArgs false
set_option linter.unusedVariables false
namespace Go.Proofs.YtkcgejbnhpccdaaGreat
open Go.RowKit
theorem firstBad_all (m : XMod) : ∀ l : List XFunc, firstBad m l = 0 → ∀ f ∈ l, checkF m f = 0
  | [], _, f, hf => by cases hf
  | x :: r, h, f, hf => by
    rw [firstBad_cons] at h
    by_cases hx : checkF m x = 0
    · rw [if_pos hx] at h
      rcases List.mem_cons.1 hf with rfl | hf
      · exact hx
      · exact firstBad_all m r h f hf
    · rw [if_neg hx] at h; exact absurd h hx
theorem modOk_parts {m : XMod} (h : modOk m = true) : shapeOk m = true ∧ ∀ f ∈ m.funcs, checkF m f = 0 := by
  unfold modOk checkM at h
  rw [beq_iff_eq] at h
  cases hs : shapeOk m with
  | false => rw [hs] at h; cases h
  | true => rw [hs, if_pos rfl] at h; exact ⟨rfl, firstBad_all m _ h⟩
theorem checkF_parts {m : XMod} {f : XFunc} (h : checkF m f = 0) : entryOk f = true ∧ phisOk f = true ∧ typesOk f = true ∧ callsOk m f = true ∧ domsOk f = true := by
  unfold checkF at h
  cases h1 : entryOk f <;> rw [h1] at h <;> simp at h
  cases h2 : phisOk f <;> rw [h2] at h <;> simp at h
  cases h3 : typesOk f <;> rw [h3] at h <;> simp at h
  cases h4 : callsOk m f <;> rw [h4] at h <;> simp at h
  cases h5 : domsOk f <;> rw [h5] at h <;> simp at h
  exact ⟨rfl, rfl, rfl, rfl, rfl⟩
theorem modOk_rn {m : XMod} (h : modOk m = true) : ∀ f ∈ m.funcs, Rn m f := fun f hf => by
  obtain ⟨hs, hc⟩ := modOk_parts h
  obtain ⟨-, h2, -, h4, -⟩ := checkF_parts (hc f hf)
  refine ⟨(shape_parts hs).2 f hf, h2, fun b hb i hi h26 => ?_⟩
  unfold callsOk at h4
  simp only [List.all_eq_true] at h4
  have := h4 b hb i hi
  rw [h26] at this
  unfold callOk at this
  simp at this
  exact this.1.2
def invOk (m : XMod) (k : Int) (args : List Int) (mem : ByteArray) (fuel : Int) : Bool := inR k 0 (m.funcs.length - 1) && argsOk (m.funcs.getD k.toNat func0).params args && mem.size == 32 && inR fuel 0 2000
def runRes (R : (Int × Int) × RS) : XRes := ⟨R.1.2, R.1.1, R.2.out, toBytes R.2.mem, R.2.steps⟩
def res6 : XRes := ⟨6, 0, [], ⟨#[]⟩, 0⟩
def resI (m : XMod) (k : Int) (args : List Int) (mem : ByteArray) (fuel : Int) : XRes :=
  if invOk m k args mem fuel then runRes (callR m fuel.toNat 6 k args (rs0 mem)) else res6
def resR (m : XMod) (k : Int) (args : List Int) (mem : ByteArray) (fuel : Int) : XRes := if modOk m then resI m k args mem fuel else res6
theorem rs0_ok (mem : ByteArray) (h : mem.size = 32) (fuel : Nat) : ROk fuel (rs0 mem) := by
  refine ⟨?_, fun i hi => ?_, by simp [rs0], by simp [rs0]⟩
  · show (bytesOf mem).length = 32; rw [bytesOf_len]; exact h
  · exact bytesOf_rng mem i hi
end Go.Proofs.YtkcgejbnhpccdaaGreat
