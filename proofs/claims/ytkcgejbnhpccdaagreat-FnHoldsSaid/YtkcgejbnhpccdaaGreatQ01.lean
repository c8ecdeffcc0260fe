import Derived.Test.YtkcgejbnhpccdaaGreatP45
import Derived.Test.YtkcgejbnhpccdaaGreatP31
import Derived.Test.YtkcgejbnhpccdaaGreatP29
set_option linter.unusedSimpArgs false
set_option linter.unusedVariables false
namespace Go.Proofs.YtkcgejbnhpccdaaGreat
open Go.RowKit
/-! ### what a module does holds of it: plain -/
theorem alike_same (x y : XRes) : alikeR x y = sameR x y := by
  unfold sameR
  rw [bytes_beq']
  rw [Bool.eq_iff_iff]
  unfold alikeR seenR
  simp [XRes.mk.injEq]
  constructor
  · rintro ⟨h1, h2, h3, h4⟩; exact ⟨⟨⟨h1, h2⟩, h4⟩, h3⟩
  · rintro ⟨⟨⟨h1, h2⟩, h4⟩, h3⟩; exact ⟨h1, h2, h3, h4⟩
theorem same_self (x : XRes) : sameR x (seenR x) = true := by rw [← alike_same]; simp [alikeR, seenR]
theorem holds_form {m : XMod} {o : XOra} (h : (resR m o.func o.args o.mem 2000).code = 6) : holdsB m o = false := by unfold holdsB; rw [h]; rfl
theorem holds_want {m : XMod} {o : XOra} (h : (resR m o.func o.args o.mem 2000).code ≠ 6) : holdsB m o = alikeR (resR m o.func o.args o.mem 2000) o.want := by
  unfold holdsB
  rw [alike_same]
  simp [h]
theorem holds_own {m : XMod} {f : Int} {a : List Int} {s : ByteArray} (h : (resR m f a s 2000).code ≠ 6) : holdsB m ⟨f, a, s, seenR (resR m f a s 2000)⟩ = true := by
  unfold holdsB
  simp only
  rw [same_self]
  simp [h]
theorem holds_other {m : XMod} {f : Int} {a : List Int} {s : ByteArray} : holdsB m ⟨f, a, s, ⟨(resR m f a s 2000).code, (resR m f a s 2000).value + 1, (resR m f a s 2000).out, (resR m f a s 2000).mem, 0⟩⟩ = false := by
  unfold holdsB sameR
  simp
  omega
theorem value_rng {m : XMod} {k : Int} {a : List Int} {s : ByteArray} {fuel : Int} (h : (resR m k a s fuel).code ≠ 6) : 0 ≤ (resR m k a s fuel).value ∧ (resR m k a s fuel).value ≤ 4294967295 := by
  have := (resR_said m k a s fuel h).2.2.2.2.2.1
  rw [← this]
  exact mskd_rng _ _
end Go.Proofs.YtkcgejbnhpccdaaGreat
