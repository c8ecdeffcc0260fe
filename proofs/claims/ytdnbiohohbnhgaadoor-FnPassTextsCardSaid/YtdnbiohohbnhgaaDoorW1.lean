/- The words of the passes and the contract of passWords. No conditions. -/
import Derived.Test.YtdnbiohohbnhgaaDoorA0
import Derived.Test.YtdnbiohohbnhgaaDoorShelf
set_option linter.unusedSimpArgs false
set_option linter.unusedVariables false
namespace Go.Proofs.YtdnbiohohbnhgaaDoor
open Go.RowKit
/-- The words of the passes, from 1 on. -/
def words9 : List ByteArray := [⟨#[102, 111, 108, 100]⟩, ⟨#[99, 111, 112, 105, 101, 115]⟩, ⟨#[99, 108, 101, 97, 110]⟩, ⟨#[115, 104, 97, 114, 101]⟩, ⟨#[99, 104, 111, 111, 115, 101]⟩, ⟨#[112, 114, 117, 110, 101]⟩, ⟨#[106, 111, 105, 110]⟩, ⟨#[102, 97, 99, 116, 115]⟩, ⟨#[115, 112, 108, 105, 116]⟩]
def text9 : ByteArray := ⟨#[102, 111, 108, 100, 32, 99, 111, 112, 105, 101, 115, 32, 99, 108, 101, 97, 110, 32, 115, 104, 97, 114, 101, 32, 99, 104, 111, 111, 115, 101, 32, 112, 114, 117, 110, 101, 32, 106, 111, 105, 110, 32, 102, 97, 99, 116, 115, 32, 115, 112, 108, 105, 116]⟩
theorem split_count : Lib.countB text9 ⟨#[32]⟩ = 8 := by kernel_rfl
theorem split_words : Lib.splitB ⟨#[32]⟩ 0 8 text9 = words9 := by kernel_rfl
theorem c_passWords (m : Int) (w : World) (hm : w.cell? ⟨0, 0, none⟩ = some (.int .i64 m)) : Calls Tryd.prog 22 #[] w (fun e w' => e = .returned (.slice (some ⟨w.heap.size, 0, none⟩) 9 9) ∧ w' = w.alloc (.cells (words9.map Value.string).toArray 9)) := by
  have h := Tryd.strings_Split text9 ⟨#[32]⟩ m w (by decide) hm (by decide)
  rw [split_count, split_words] at h
  go_enter Tryd.func22, Tryd.ntmps22
  go_wp2_with fail
  refine h.mono ?_; rintro e w1 ⟨rfl, rfl⟩
  go_wp2
  go_ret
  exact ⟨rfl, rfl⟩
end Go.Proofs.YtdnbiohohbnhgaaDoor
