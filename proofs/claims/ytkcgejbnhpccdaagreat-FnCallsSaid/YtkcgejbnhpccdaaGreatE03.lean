import Derived.Test.YtkcgejbnhpccdaaGreatE01
import Derived.Test.YtkcgejbnhpccdaaGreatE02
import Derived.Test.YtkcgejbnhpccdaaGreatJ14
import Derived.Test.YtkcgejbnhpccdaaGreatJ10
import Derived.Test.YtkcgejbnhpccdaaGreatJ37
import Derived.Test.YtkcgejbnhpccdaaGreatJ42
import Derived.Test.YtkcgejbnhpccdaaGreatJ44
import Derived.Test.YtkcgejbnhpccdaaGreatRows
import Derived.WalkKit
import Derived.ProofKit
import Derived.OpenShut
import Derived.ShutString
import Derived.ChangeOld
import Derived.Below
set_option linter.unusedSimpArgs false
set_option linter.unusedVariables false
namespace Go.Proofs.YtkcgejbnhpccdaaGreat
open Go.RowKit
theorem rd_new {α : Type} {L sz : Nat} {K : World → α → List Value → Prop} {w : World} {b n : Nat} (xs : List α) (hn : n = xs.length) (hL : n ≤ L) (hb : b < w.heap.size) (h : ∀ i (hi : i < xs.length), ∃ cs, K w xs[i] cs ∧ cs.length = sz ∧ ∀ j (hj : j < cs.length), w.cell? ⟨b, i * sz + j, none⟩ = some cs[j]) : Rd L sz K w (.slice (some ⟨b, 0, none⟩) n n) xs := by
  subst hn
  exact ⟨_, _, rfl, Nat.le_refl _, hL, fun e => by simp at e, fun _ => ⟨b, 0, rfl, hb, fun i hi => by
    obtain ⟨cs, h1, h2, h3⟩ := h i hi
    exact ⟨cs, h1, h2, fun j hj => by rw [Nat.zero_add]; exact h3 j hj⟩⟩⟩
theorem rd_nilK {α : Type} {L sz : Nat} {K : World → α → List Value → Prop} {w : World} : Rd L sz K w (.slice none 0 0) ([] : List α) := ⟨none, 0, rfl, Nat.le_refl _, Nat.zero_le _, fun _ => rfl, fun h => absurd h (Nat.lt_irrefl _)⟩
theorem at_mid (A cs B : List Value) (j : Nat) (hj : j < cs.length) : (A ++ (cs ++ B)).toArray[A.length + j]? = some cs[j] := by
  rw [List.getElem?_toArray, List.getElem?_append_right (by omega), show A.length + j - A.length = j by omega, List.getElem?_append_left hj, List.getElem?_eq_getElem hj]
theorem info8 : (Tryz.prog.info? 5).map (fun i => (i.zero, i.size, i.bytes)) = some (some (.int .u8 0), 1, 1) := by kernel_rfl
theorem mk32 (W : World) : (Instr.makeSlice 22 (.int .i64 32) (.int .i64 32)).run Tryz.prog W = .ok (.slice (some ⟨W.heap.size, 0, none⟩) 32 32) (W.alloc (.cells (madeCells #[.int .u8 0] 32) 5)) :=
  mk_run 22 5 (.int .u8 0) 1 1 32 Tryz.underlying22 info8 (by omega) (by omega) W
theorem conv_zer (W : World) (g cap : Nat) (h : ∀ j, j < 32 → W.cell? ⟨g, j, none⟩ = some (.int .u8 0)) : (convert 22 9 (.slice (some ⟨g, 0, none⟩) 32 cap)).run Tryz.prog W = .ok (.string zerB) W := by
  have := run_convert_bytes_back (P := Tryz.prog) W 22 9 5 ⟨g, 0, none⟩ cap ((List.replicate 32 (0 : Int)).map fun n => UInt8.ofNat n.toNat) Tryz.underlying22 Tryz.underlying5 Tryz.underlying9 (fun j hj => by
    have hj' : j < 32 := by simpa using hj
    have hc := h j hj'
    have ea : (⟨g, 0, none⟩ : Addr).add j = ⟨g, j, none⟩ := by unfold Addr.add; by_cases h0 : j = 0 <;> simp [h0]
    rw [ea, hc]; simp only [List.getElem_map, List.getElem_replicate]; rfl)
  exact this
theorem zer_cells (W : World) (j : Nat) (hj : j < 32) : (W.alloc (.cells (madeCells #[.int .u8 0] 32) 5)).cell? ⟨W.heap.size, j, none⟩ = some (.int .u8 0) := by
  have h := (row_facts (heap_new W (madeCells #[.int .u8 0] 32) 5 _ rfl)).1 j
  rw [h]
  simp [madeCells, hj, Nat.mod_one]
theorem mem_at {a b : Int} (h : 0 ≤ a) (ha : a < 32) (hb : 0 ≤ b ∧ b < 256) : 0 ≤ a ∧ a < ((toBytes ((List.replicate 32 0).set a.toNat b)).size : Int) ∧ ∀ h : a.toNat < (toBytes ((List.replicate 32 0).set a.toNat b)).size, (((toBytes ((List.replicate 32 0).set a.toNat b))[a.toNat]'h).toNat : Int) = b := by
  have hs : (toBytes ((List.replicate 32 0).set a.toNat b)).size = 32 := by simp [toBytes, ByteArray.size]
  refine ⟨h, by rw [hs]; omega, fun hl => ?_⟩
  have e : (toBytes ((List.replicate 32 0).set a.toNat b))[a.toNat]'hl = UInt8.ofNat b.toNat := by
    show (((List.replicate 32 (0 : Int)).set a.toNat b).map fun n => UInt8.ofNat n.toNat).toArray[a.toNat]'(by simp; omega) = _
    simp only [List.getElem_toArray, List.getElem_map, List.getElem_set_self]
  rw [e, UInt8.toNat_ofNat_of_lt' (by show b.toNat < 256; omega)]
  omega
theorem sixty_four {x : Int} (h : 0 ≤ x) : 0 ≤ x % 64 ∧ x % 64 < 64 := ⟨Int.emod_nonneg _ (by decide), Int.emod_lt_of_pos _ (by decide)⟩
def RetT8 (w : World) (e : Ending) (w' : World) : Prop := e = .returned (.bool true) ∧ Below w.heap.size w w'
theorem KRes.mv8 {w w' : World} {x : XRes} {cs : List Value} (h : KRes w x cs) (hb : Below w.heap.size w w') : KRes w' x cs := by
  obtain ⟨v, rfl, r⟩ := h; exact ⟨v, rfl, r.mv hb⟩
end Go.Proofs.YtkcgejbnhpccdaaGreat
set_option linter.unusedSimpArgs false
set_option linter.unusedVariables false
namespace Go.Proofs.YtkcgejbnhpccdaaGreat
open Go.RowKit
set_option maxRecDepth 40000 in
set_option maxHeartbeats 8000000 in
theorem f_Calls (v : Value) (xs : List Int) (w : World) (hv : Rd lw 1 KB w v xs) : Calls Tryz.prog 4 #[v] w (RetT8 w) := by
  obtain ⟨A, c, rfl, -, -, hv1⟩ := hv.sh
  clear hv
  have hlw : (xs.length : Int) ≤ 9223372036854775807 := by have := hv1.out.len; unfold lw at this; omega
  have hbig := fun W => l_big A xs.length c W hlw
  by_cases hs : xs.length ≤ 1048576
  case neg =>
    have hgt : decide ((1048576 : Int) < xs.length) = true := by simp; omega
    rw [hgt] at hbig
    go_enter Tryz.func4, Tryz.ntmps4
    go_wp2_with fail
    refine (hbig _).mono ?_; rintro e w1 ⟨rfl, rfl⟩
    go_wp2
    go_ret
    exact ⟨rfl, Below.refl _ _⟩
  have hgt : decide ((1048576 : Int) < xs.length) = false := by simp; omega
  rw [hgt] at hbig
  by_cases h2 : xs.length < 2
  · have h2' : (xs.length : Int) < 2 := by omega
    go_enter Tryz.func4, Tryz.ntmps4
    go_wp2_with fail
    refine (hbig _).mono ?_; rintro e w1 ⟨rfl, rfl⟩
    go_wp2
    go_ret
    exact ⟨rfl, Below.refl _ _⟩
  have h2' : ¬ (xs.length : Int) < 2 := by omega
  have h2i : (1 : Int) < (xs.length : Int) := by omega
  obtain ⟨b, off, cs, hA, hbl, ⟨rfl, q1, q2⟩, hat⟩ := hv1.out.in0 (Below.refl _ _) 0 (by omega)
  cases hA
  have g0 := hat 0 _ rfl
  simp at g0
  clear hat
  obtain ⟨b', off', cs, hA, hbl', ⟨rfl, p1, p2⟩, hat⟩ := hv1.out.in0 (Below.refl _ _) 1 (by omega)
  cases hA
  have g1 := hat 0 _ rfl
  simp at g1
  clear hat hbl'
  generalize xs[0] = x0 at *
  generalize xs[1] = x1 at *
  generalize xs.length = n at *
  clear hv1 hlw hgt
  obtain ⟨W5, hW5⟩ : ∃ W5 : World, W5 = ((((((((((((((w.alloc (.cells #[.int .i64 8, .int .i64 8] 2)).alloc (.cells #[.int .i64 3, .int .i64 8, .int .i64 0, .int .i64 1, .int .i64 0, .int .i64 0, .slice none 0 0] 26)).alloc (.cells #[.slice none 0 0, .slice (some ⟨w.heap.size + 1, 0, none⟩) 1 1, .int .i64 1, .int .i64 2, .int .i64 0, .int .i64 0] 32)).alloc (.cells #[.slice (some ⟨w.heap.size, 0, none⟩) 2 2, .int .i64 8, .slice (some ⟨w.heap.size + 1 + 1, 0, none⟩) 1 1] 35)).alloc (.cells #[.int .i64 8, .int .i64 8] 2)).alloc (.cells #[.int .i64 1, .int .i64 0] 2)).alloc (.cells #[.int .i64 26, .int .i64 8, .int .i64 0, .int .i64 0, .int .i64 0, .int .i64 0, .slice (some ⟨w.heap.size + 1 + 1 + 1 + 1 + 1, 0, none⟩) 2 2] 26)).alloc (.cells #[.slice none 0 0, .slice (some ⟨w.heap.size + 1 + 1 + 1 + 1 + 1 + 1, 0, none⟩) 1 1, .int .i64 1, .int .i64 2, .int .i64 0, .int .i64 0] 32)).alloc (.cells #[.slice (some ⟨w.heap.size + 1 + 1 + 1 + 1, 0, none⟩) 2 2, .int .i64 8, .slice (some ⟨w.heap.size + 1 + 1 + 1 + 1 + 1 + 1 + 1, 0, none⟩) 1 1] 35)).alloc (.cells #[.int .i64 26, .int .i64 8, .int .i64 0, .int .i64 0, .int .i64 0, .int .i64 2, .slice none 0 0] 26)).alloc (.cells #[.slice none 0 0, .slice (some ⟨w.heap.size + 1 + 1 + 1 + 1 + 1 + 1 + 1 + 1 + 1, 0, none⟩) 1 1, .int .i64 1, .int .i64 0, .int .i64 0, .int .i64 0] 32)).alloc (.cells #[.slice none 0 0, .int .i64 8, .slice (some ⟨w.heap.size + 1 + 1 + 1 + 1 + 1 + 1 + 1 + 1 + 1 + 1, 0, none⟩) 1 1] 35)).alloc (.cells #[.slice (some ⟨w.heap.size, 0, none⟩) 2 2, .int .i64 8, .slice (some ⟨w.heap.size + 1 + 1, 0, none⟩) 1 1, .slice (some ⟨w.heap.size + 1 + 1 + 1 + 1, 0, none⟩) 2 2, .int .i64 8, .slice (some ⟨w.heap.size + 1 + 1 + 1 + 1 + 1 + 1 + 1, 0, none⟩) 1 1, .slice none 0 0, .int .i64 8, .slice (some ⟨w.heap.size + 1 + 1 + 1 + 1 + 1 + 1 + 1 + 1 + 1 + 1, 0, none⟩) 1 1] 35)).alloc (.cells #[.slice (some ⟨w.heap.size + 1 + 1 + 1 + 1 + 1 + 1 + 1 + 1 + 1 + 1 + 1 + 1, 0, none⟩) 3 3] 38)) := ⟨_, rfl⟩
  have hz5 : W5.heap.size = w.heap.size + 14 := by rw [hW5]; simp
  have c0 : Hd (∀ o, W5.cell? ⟨w.heap.size, o, none⟩ = (#[.int .i64 8, .int .i64 8] : Array Value)[o]?) := ⟨fun o => by rw [hW5]; exact (World.cell?_alloc_past _ _ _ (by first | omega | (simp; done) | (simp; omega))).trans ((World.cell?_alloc_past _ _ _ (by first | omega | (simp; done) | (simp; omega))).trans ((World.cell?_alloc_past _ _ _ (by first | omega | (simp; done) | (simp; omega))).trans ((World.cell?_alloc_past _ _ _ (by first | omega | (simp; done) | (simp; omega))).trans ((World.cell?_alloc_past _ _ _ (by first | omega | (simp; done) | (simp; omega))).trans ((World.cell?_alloc_past _ _ _ (by first | omega | (simp; done) | (simp; omega))).trans ((World.cell?_alloc_past _ _ _ (by first | omega | (simp; done) | (simp; omega))).trans ((World.cell?_alloc_past _ _ _ (by first | omega | (simp; done) | (simp; omega))).trans ((World.cell?_alloc_past _ _ _ (by first | omega | (simp; done) | (simp; omega))).trans ((World.cell?_alloc_past _ _ _ (by first | omega | (simp; done) | (simp; omega))).trans ((World.cell?_alloc_past _ _ _ (by first | omega | (simp; done) | (simp; omega))).trans ((World.cell?_alloc_past _ _ _ (by first | omega | (simp; done) | (simp; omega))).trans ((World.cell?_alloc_past _ _ _ (by first | omega | (simp; done) | (simp; omega))).trans ((row_facts (heap_new _ _ _ _ rfl)).1 o)))))))))))))⟩
  have c1 : Hd (∀ o, W5.cell? ⟨w.heap.size + 1, o, none⟩ = (#[.int .i64 3, .int .i64 8, .int .i64 0, .int .i64 1, .int .i64 0, .int .i64 0, .slice none 0 0] : Array Value)[o]?) := ⟨fun o => by rw [hW5]; exact (World.cell?_alloc_past _ _ _ (by first | omega | (simp; done) | (simp; omega))).trans ((World.cell?_alloc_past _ _ _ (by first | omega | (simp; done) | (simp; omega))).trans ((World.cell?_alloc_past _ _ _ (by first | omega | (simp; done) | (simp; omega))).trans ((World.cell?_alloc_past _ _ _ (by first | omega | (simp; done) | (simp; omega))).trans ((World.cell?_alloc_past _ _ _ (by first | omega | (simp; done) | (simp; omega))).trans ((World.cell?_alloc_past _ _ _ (by first | omega | (simp; done) | (simp; omega))).trans ((World.cell?_alloc_past _ _ _ (by first | omega | (simp; done) | (simp; omega))).trans ((World.cell?_alloc_past _ _ _ (by first | omega | (simp; done) | (simp; omega))).trans ((World.cell?_alloc_past _ _ _ (by first | omega | (simp; done) | (simp; omega))).trans ((World.cell?_alloc_past _ _ _ (by first | omega | (simp; done) | (simp; omega))).trans ((World.cell?_alloc_past _ _ _ (by first | omega | (simp; done) | (simp; omega))).trans ((World.cell?_alloc_past _ _ _ (by first | omega | (simp; done) | (simp; omega))).trans ((row_facts (heap_new _ _ _ _ (by simp))).1 o))))))))))))⟩
  have c2 : Hd (∀ o, W5.cell? ⟨w.heap.size + 1 + 1, o, none⟩ = (#[.slice none 0 0, .slice (some ⟨w.heap.size + 1, 0, none⟩) 1 1, .int .i64 1, .int .i64 2, .int .i64 0, .int .i64 0] : Array Value)[o]?) := ⟨fun o => by rw [hW5]; exact (World.cell?_alloc_past _ _ _ (by first | omega | (simp; done) | (simp; omega))).trans ((World.cell?_alloc_past _ _ _ (by first | omega | (simp; done) | (simp; omega))).trans ((World.cell?_alloc_past _ _ _ (by first | omega | (simp; done) | (simp; omega))).trans ((World.cell?_alloc_past _ _ _ (by first | omega | (simp; done) | (simp; omega))).trans ((World.cell?_alloc_past _ _ _ (by first | omega | (simp; done) | (simp; omega))).trans ((World.cell?_alloc_past _ _ _ (by first | omega | (simp; done) | (simp; omega))).trans ((World.cell?_alloc_past _ _ _ (by first | omega | (simp; done) | (simp; omega))).trans ((World.cell?_alloc_past _ _ _ (by first | omega | (simp; done) | (simp; omega))).trans ((World.cell?_alloc_past _ _ _ (by first | omega | (simp; done) | (simp; omega))).trans ((World.cell?_alloc_past _ _ _ (by first | omega | (simp; done) | (simp; omega))).trans ((World.cell?_alloc_past _ _ _ (by first | omega | (simp; done) | (simp; omega))).trans ((row_facts (heap_new _ _ _ _ (by simp))).1 o)))))))))))⟩
  have c3 : Hd (∀ o, W5.cell? ⟨w.heap.size + 1 + 1 + 1, o, none⟩ = (#[.slice (some ⟨w.heap.size, 0, none⟩) 2 2, .int .i64 8, .slice (some ⟨w.heap.size + 1 + 1, 0, none⟩) 1 1] : Array Value)[o]?) := ⟨fun o => by rw [hW5]; exact (World.cell?_alloc_past _ _ _ (by first | omega | (simp; done) | (simp; omega))).trans ((World.cell?_alloc_past _ _ _ (by first | omega | (simp; done) | (simp; omega))).trans ((World.cell?_alloc_past _ _ _ (by first | omega | (simp; done) | (simp; omega))).trans ((World.cell?_alloc_past _ _ _ (by first | omega | (simp; done) | (simp; omega))).trans ((World.cell?_alloc_past _ _ _ (by first | omega | (simp; done) | (simp; omega))).trans ((World.cell?_alloc_past _ _ _ (by first | omega | (simp; done) | (simp; omega))).trans ((World.cell?_alloc_past _ _ _ (by first | omega | (simp; done) | (simp; omega))).trans ((World.cell?_alloc_past _ _ _ (by first | omega | (simp; done) | (simp; omega))).trans ((World.cell?_alloc_past _ _ _ (by first | omega | (simp; done) | (simp; omega))).trans ((World.cell?_alloc_past _ _ _ (by first | omega | (simp; done) | (simp; omega))).trans ((row_facts (heap_new _ _ _ _ (by simp))).1 o))))))))))⟩
  have c4 : Hd (∀ o, W5.cell? ⟨w.heap.size + 1 + 1 + 1 + 1, o, none⟩ = (#[.int .i64 8, .int .i64 8] : Array Value)[o]?) := ⟨fun o => by rw [hW5]; exact (World.cell?_alloc_past _ _ _ (by first | omega | (simp; done) | (simp; omega))).trans ((World.cell?_alloc_past _ _ _ (by first | omega | (simp; done) | (simp; omega))).trans ((World.cell?_alloc_past _ _ _ (by first | omega | (simp; done) | (simp; omega))).trans ((World.cell?_alloc_past _ _ _ (by first | omega | (simp; done) | (simp; omega))).trans ((World.cell?_alloc_past _ _ _ (by first | omega | (simp; done) | (simp; omega))).trans ((World.cell?_alloc_past _ _ _ (by first | omega | (simp; done) | (simp; omega))).trans ((World.cell?_alloc_past _ _ _ (by first | omega | (simp; done) | (simp; omega))).trans ((World.cell?_alloc_past _ _ _ (by first | omega | (simp; done) | (simp; omega))).trans ((World.cell?_alloc_past _ _ _ (by first | omega | (simp; done) | (simp; omega))).trans ((row_facts (heap_new _ _ _ _ (by simp))).1 o)))))))))⟩
  have c5 : Hd (∀ o, W5.cell? ⟨w.heap.size + 1 + 1 + 1 + 1 + 1, o, none⟩ = (#[.int .i64 1, .int .i64 0] : Array Value)[o]?) := ⟨fun o => by rw [hW5]; exact (World.cell?_alloc_past _ _ _ (by first | omega | (simp; done) | (simp; omega))).trans ((World.cell?_alloc_past _ _ _ (by first | omega | (simp; done) | (simp; omega))).trans ((World.cell?_alloc_past _ _ _ (by first | omega | (simp; done) | (simp; omega))).trans ((World.cell?_alloc_past _ _ _ (by first | omega | (simp; done) | (simp; omega))).trans ((World.cell?_alloc_past _ _ _ (by first | omega | (simp; done) | (simp; omega))).trans ((World.cell?_alloc_past _ _ _ (by first | omega | (simp; done) | (simp; omega))).trans ((World.cell?_alloc_past _ _ _ (by first | omega | (simp; done) | (simp; omega))).trans ((World.cell?_alloc_past _ _ _ (by first | omega | (simp; done) | (simp; omega))).trans ((row_facts (heap_new _ _ _ _ (by simp))).1 o))))))))⟩
  have c6 : Hd (∀ o, W5.cell? ⟨w.heap.size + 1 + 1 + 1 + 1 + 1 + 1, o, none⟩ = (#[.int .i64 26, .int .i64 8, .int .i64 0, .int .i64 0, .int .i64 0, .int .i64 0, .slice (some ⟨w.heap.size + 1 + 1 + 1 + 1 + 1, 0, none⟩) 2 2] : Array Value)[o]?) := ⟨fun o => by rw [hW5]; exact (World.cell?_alloc_past _ _ _ (by first | omega | (simp; done) | (simp; omega))).trans ((World.cell?_alloc_past _ _ _ (by first | omega | (simp; done) | (simp; omega))).trans ((World.cell?_alloc_past _ _ _ (by first | omega | (simp; done) | (simp; omega))).trans ((World.cell?_alloc_past _ _ _ (by first | omega | (simp; done) | (simp; omega))).trans ((World.cell?_alloc_past _ _ _ (by first | omega | (simp; done) | (simp; omega))).trans ((World.cell?_alloc_past _ _ _ (by first | omega | (simp; done) | (simp; omega))).trans ((World.cell?_alloc_past _ _ _ (by first | omega | (simp; done) | (simp; omega))).trans ((row_facts (heap_new _ _ _ _ (by simp))).1 o)))))))⟩
  have c7 : Hd (∀ o, W5.cell? ⟨w.heap.size + 1 + 1 + 1 + 1 + 1 + 1 + 1, o, none⟩ = (#[.slice none 0 0, .slice (some ⟨w.heap.size + 1 + 1 + 1 + 1 + 1 + 1, 0, none⟩) 1 1, .int .i64 1, .int .i64 2, .int .i64 0, .int .i64 0] : Array Value)[o]?) := ⟨fun o => by rw [hW5]; exact (World.cell?_alloc_past _ _ _ (by first | omega | (simp; done) | (simp; omega))).trans ((World.cell?_alloc_past _ _ _ (by first | omega | (simp; done) | (simp; omega))).trans ((World.cell?_alloc_past _ _ _ (by first | omega | (simp; done) | (simp; omega))).trans ((World.cell?_alloc_past _ _ _ (by first | omega | (simp; done) | (simp; omega))).trans ((World.cell?_alloc_past _ _ _ (by first | omega | (simp; done) | (simp; omega))).trans ((World.cell?_alloc_past _ _ _ (by first | omega | (simp; done) | (simp; omega))).trans ((row_facts (heap_new _ _ _ _ (by simp))).1 o))))))⟩
  have c8 : Hd (∀ o, W5.cell? ⟨w.heap.size + 1 + 1 + 1 + 1 + 1 + 1 + 1 + 1, o, none⟩ = (#[.slice (some ⟨w.heap.size + 1 + 1 + 1 + 1, 0, none⟩) 2 2, .int .i64 8, .slice (some ⟨w.heap.size + 1 + 1 + 1 + 1 + 1 + 1 + 1, 0, none⟩) 1 1] : Array Value)[o]?) := ⟨fun o => by rw [hW5]; exact (World.cell?_alloc_past _ _ _ (by first | omega | (simp; done) | (simp; omega))).trans ((World.cell?_alloc_past _ _ _ (by first | omega | (simp; done) | (simp; omega))).trans ((World.cell?_alloc_past _ _ _ (by first | omega | (simp; done) | (simp; omega))).trans ((World.cell?_alloc_past _ _ _ (by first | omega | (simp; done) | (simp; omega))).trans ((World.cell?_alloc_past _ _ _ (by first | omega | (simp; done) | (simp; omega))).trans ((row_facts (heap_new _ _ _ _ (by simp))).1 o)))))⟩
  have c9 : Hd (∀ o, W5.cell? ⟨w.heap.size + 1 + 1 + 1 + 1 + 1 + 1 + 1 + 1 + 1, o, none⟩ = (#[.int .i64 26, .int .i64 8, .int .i64 0, .int .i64 0, .int .i64 0, .int .i64 2, .slice none 0 0] : Array Value)[o]?) := ⟨fun o => by rw [hW5]; exact (World.cell?_alloc_past _ _ _ (by first | omega | (simp; done) | (simp; omega))).trans ((World.cell?_alloc_past _ _ _ (by first | omega | (simp; done) | (simp; omega))).trans ((World.cell?_alloc_past _ _ _ (by first | omega | (simp; done) | (simp; omega))).trans ((World.cell?_alloc_past _ _ _ (by first | omega | (simp; done) | (simp; omega))).trans ((row_facts (heap_new _ _ _ _ (by simp))).1 o))))⟩
  have c10 : Hd (∀ o, W5.cell? ⟨w.heap.size + 1 + 1 + 1 + 1 + 1 + 1 + 1 + 1 + 1 + 1, o, none⟩ = (#[.slice none 0 0, .slice (some ⟨w.heap.size + 1 + 1 + 1 + 1 + 1 + 1 + 1 + 1 + 1, 0, none⟩) 1 1, .int .i64 1, .int .i64 0, .int .i64 0, .int .i64 0] : Array Value)[o]?) := ⟨fun o => by rw [hW5]; exact (World.cell?_alloc_past _ _ _ (by first | omega | (simp; done) | (simp; omega))).trans ((World.cell?_alloc_past _ _ _ (by first | omega | (simp; done) | (simp; omega))).trans ((World.cell?_alloc_past _ _ _ (by first | omega | (simp; done) | (simp; omega))).trans ((row_facts (heap_new _ _ _ _ (by simp))).1 o)))⟩
  have c11 : Hd (∀ o, W5.cell? ⟨w.heap.size + 1 + 1 + 1 + 1 + 1 + 1 + 1 + 1 + 1 + 1 + 1, o, none⟩ = (#[.slice none 0 0, .int .i64 8, .slice (some ⟨w.heap.size + 1 + 1 + 1 + 1 + 1 + 1 + 1 + 1 + 1 + 1, 0, none⟩) 1 1] : Array Value)[o]?) := ⟨fun o => by rw [hW5]; exact (World.cell?_alloc_past _ _ _ (by first | omega | (simp; done) | (simp; omega))).trans ((World.cell?_alloc_past _ _ _ (by first | omega | (simp; done) | (simp; omega))).trans ((row_facts (heap_new _ _ _ _ (by simp))).1 o))⟩
  have c12 : Hd (∀ o, W5.cell? ⟨w.heap.size + 1 + 1 + 1 + 1 + 1 + 1 + 1 + 1 + 1 + 1 + 1 + 1, o, none⟩ = (#[.slice (some ⟨w.heap.size, 0, none⟩) 2 2, .int .i64 8, .slice (some ⟨w.heap.size + 1 + 1, 0, none⟩) 1 1, .slice (some ⟨w.heap.size + 1 + 1 + 1 + 1, 0, none⟩) 2 2, .int .i64 8, .slice (some ⟨w.heap.size + 1 + 1 + 1 + 1 + 1 + 1 + 1, 0, none⟩) 1 1, .slice none 0 0, .int .i64 8, .slice (some ⟨w.heap.size + 1 + 1 + 1 + 1 + 1 + 1 + 1 + 1 + 1 + 1, 0, none⟩) 1 1] : Array Value)[o]?) := ⟨fun o => by rw [hW5]; exact (World.cell?_alloc_past _ _ _ (by first | omega | (simp; done) | (simp; omega))).trans ((row_facts (heap_new _ _ _ _ (by simp))).1 o)⟩
  have c13 : Hd (∀ o, W5.cell? ⟨w.heap.size + 1 + 1 + 1 + 1 + 1 + 1 + 1 + 1 + 1 + 1 + 1 + 1 + 1, o, none⟩ = (#[.slice (some ⟨w.heap.size + 1 + 1 + 1 + 1 + 1 + 1 + 1 + 1 + 1 + 1 + 1 + 1, 0, none⟩) 3 3] : Array Value)[o]?) := ⟨fun o => by rw [hW5]; exact (row_facts (heap_new _ _ _ _ (by simp))).1 o⟩
  have hB5 : Hd (Below w.heap.size w W5) := ⟨by rw [hW5]; exact (((((((((((((((Below.refl w.heap.size w).al (Nat.le_refl _) _).al (by simp <;> omega) _).al (by simp <;> omega) _).al (by simp <;> omega) _).al (by simp <;> omega) _).al (by simp <;> omega) _).al (by simp <;> omega) _).al (by simp <;> omega) _).al (by simp <;> omega) _).al (by simp <;> omega) _).al (by simp <;> omega) _).al (by simp <;> omega) _).al (by simp <;> omega) _).al (by simp <;> omega) _)⟩
  have r0 : Rd lm 1 KInt W5 (.slice (some ⟨w.heap.size, 0, none⟩) 2 2) [8, 8] := rd_new _ rfl (by decide) (by rw [hz5]; omega) (fun i hi => match i, hi with
    | 0, _ => ⟨[.int .i64 8], rfl, rfl, fun j hj => (c0.out _).trans (at_mid [] [.int .i64 8] [.int .i64 8] j hj)⟩
    | 1, _ => ⟨[.int .i64 8], rfl, rfl, fun j hj => (c0.out _).trans (at_mid [.int .i64 8] [.int .i64 8] [] j hj)⟩)
  have r1 : Rd lm 7 (KInst lm) W5 (.slice (some ⟨w.heap.size + 1, 0, none⟩) 1 1) [⟨3, 8, 0, 1, 0, 0, []⟩] := rd_new _ rfl (by decide) (by rw [hz5]; omega) (fun i hi => match i, hi with
    | 0, _ => ⟨[.int .i64 3, .int .i64 8, .int .i64 0, .int .i64 1, .int .i64 0, .int .i64 0, .slice none 0 0], ⟨_, rfl, rd_nilK⟩, rfl, fun j hj => (c1.out _).trans (at_mid [] [.int .i64 3, .int .i64 8, .int .i64 0, .int .i64 1, .int .i64 0, .int .i64 0, .slice none 0 0] [] j hj)⟩)
  have r2 : Rd lm 6 (KBlock lm) W5 (.slice (some ⟨w.heap.size + 1 + 1, 0, none⟩) 1 1) [⟨[], [⟨3, 8, 0, 1, 0, 0, []⟩], ⟨1, 2, 0, 0⟩⟩] := rd_new _ rfl (by decide) (by rw [hz5]; omega) (fun i hi => match i, hi with
    | 0, _ => ⟨[.slice none 0 0, .slice (some ⟨w.heap.size + 1, 0, none⟩) 1 1, .int .i64 1, .int .i64 2, .int .i64 0, .int .i64 0], ⟨_, _, rfl, rd_nilK, r1⟩, rfl, fun j hj => (c2.out _).trans (at_mid [] [.slice none 0 0, .slice (some ⟨w.heap.size + 1, 0, none⟩) 1 1, .int .i64 1, .int .i64 2, .int .i64 0, .int .i64 0] [] j hj)⟩)
  have r4 : Rd lm 1 KInt W5 (.slice (some ⟨w.heap.size + 1 + 1 + 1 + 1, 0, none⟩) 2 2) [8, 8] := rd_new _ rfl (by decide) (by rw [hz5]; omega) (fun i hi => match i, hi with
    | 0, _ => ⟨[.int .i64 8], rfl, rfl, fun j hj => (c4.out _).trans (at_mid [] [.int .i64 8] [.int .i64 8] j hj)⟩
    | 1, _ => ⟨[.int .i64 8], rfl, rfl, fun j hj => (c4.out _).trans (at_mid [.int .i64 8] [.int .i64 8] [] j hj)⟩)
  have r5 : Rd lm 1 KInt W5 (.slice (some ⟨w.heap.size + 1 + 1 + 1 + 1 + 1, 0, none⟩) 2 2) [1, 0] := rd_new _ rfl (by decide) (by rw [hz5]; omega) (fun i hi => match i, hi with
    | 0, _ => ⟨[.int .i64 1], rfl, rfl, fun j hj => (c5.out _).trans (at_mid [] [.int .i64 1] [.int .i64 0] j hj)⟩
    | 1, _ => ⟨[.int .i64 0], rfl, rfl, fun j hj => (c5.out _).trans (at_mid [.int .i64 1] [.int .i64 0] [] j hj)⟩)
  have r6 : Rd lm 7 (KInst lm) W5 (.slice (some ⟨w.heap.size + 1 + 1 + 1 + 1 + 1 + 1, 0, none⟩) 1 1) [⟨26, 8, 0, 0, 0, 0, [1, 0]⟩] := rd_new _ rfl (by decide) (by rw [hz5]; omega) (fun i hi => match i, hi with
    | 0, _ => ⟨[.int .i64 26, .int .i64 8, .int .i64 0, .int .i64 0, .int .i64 0, .int .i64 0, .slice (some ⟨w.heap.size + 1 + 1 + 1 + 1 + 1, 0, none⟩) 2 2], ⟨_, rfl, r5⟩, rfl, fun j hj => (c6.out _).trans (at_mid [] [.int .i64 26, .int .i64 8, .int .i64 0, .int .i64 0, .int .i64 0, .int .i64 0, .slice (some ⟨w.heap.size + 1 + 1 + 1 + 1 + 1, 0, none⟩) 2 2] [] j hj)⟩)
  have r7 : Rd lm 6 (KBlock lm) W5 (.slice (some ⟨w.heap.size + 1 + 1 + 1 + 1 + 1 + 1 + 1, 0, none⟩) 1 1) [⟨[], [⟨26, 8, 0, 0, 0, 0, [1, 0]⟩], ⟨1, 2, 0, 0⟩⟩] := rd_new _ rfl (by decide) (by rw [hz5]; omega) (fun i hi => match i, hi with
    | 0, _ => ⟨[.slice none 0 0, .slice (some ⟨w.heap.size + 1 + 1 + 1 + 1 + 1 + 1, 0, none⟩) 1 1, .int .i64 1, .int .i64 2, .int .i64 0, .int .i64 0], ⟨_, _, rfl, rd_nilK, r6⟩, rfl, fun j hj => (c7.out _).trans (at_mid [] [.slice none 0 0, .slice (some ⟨w.heap.size + 1 + 1 + 1 + 1 + 1 + 1, 0, none⟩) 1 1, .int .i64 1, .int .i64 2, .int .i64 0, .int .i64 0] [] j hj)⟩)
  have r9 : Rd lm 7 (KInst lm) W5 (.slice (some ⟨w.heap.size + 1 + 1 + 1 + 1 + 1 + 1 + 1 + 1 + 1, 0, none⟩) 1 1) [⟨26, 8, 0, 0, 0, 2, []⟩] := rd_new _ rfl (by decide) (by rw [hz5]; omega) (fun i hi => match i, hi with
    | 0, _ => ⟨[.int .i64 26, .int .i64 8, .int .i64 0, .int .i64 0, .int .i64 0, .int .i64 2, .slice none 0 0], ⟨_, rfl, rd_nilK⟩, rfl, fun j hj => (c9.out _).trans (at_mid [] [.int .i64 26, .int .i64 8, .int .i64 0, .int .i64 0, .int .i64 0, .int .i64 2, .slice none 0 0] [] j hj)⟩)
  have r10 : Rd lm 6 (KBlock lm) W5 (.slice (some ⟨w.heap.size + 1 + 1 + 1 + 1 + 1 + 1 + 1 + 1 + 1 + 1, 0, none⟩) 1 1) [⟨[], [⟨26, 8, 0, 0, 0, 2, []⟩], ⟨1, 0, 0, 0⟩⟩] := rd_new _ rfl (by decide) (by rw [hz5]; omega) (fun i hi => match i, hi with
    | 0, _ => ⟨[.slice none 0 0, .slice (some ⟨w.heap.size + 1 + 1 + 1 + 1 + 1 + 1 + 1 + 1 + 1, 0, none⟩) 1 1, .int .i64 1, .int .i64 0, .int .i64 0, .int .i64 0], ⟨_, _, rfl, rd_nilK, r9⟩, rfl, fun j hj => (c10.out _).trans (at_mid [] [.slice none 0 0, .slice (some ⟨w.heap.size + 1 + 1 + 1 + 1 + 1 + 1 + 1 + 1 + 1, 0, none⟩) 1 1, .int .i64 1, .int .i64 0, .int .i64 0, .int .i64 0] [] j hj)⟩)
  have r12 : Rd lm 3 (KFunc lm) W5 (.slice (some ⟨w.heap.size + 1 + 1 + 1 + 1 + 1 + 1 + 1 + 1 + 1 + 1 + 1 + 1, 0, none⟩) 3 3) [calF, calG, calH] := rd_new _ rfl (by decide) (by rw [hz5]; omega) (fun i hi => match i, hi with
    | 0, _ => ⟨[.slice (some ⟨w.heap.size, 0, none⟩) 2 2, .int .i64 8, .slice (some ⟨w.heap.size + 1 + 1, 0, none⟩) 1 1], ⟨_, _, rfl, r0, r2⟩, rfl, fun j hj => (c12.out _).trans (at_mid [] [.slice (some ⟨w.heap.size, 0, none⟩) 2 2, .int .i64 8, .slice (some ⟨w.heap.size + 1 + 1, 0, none⟩) 1 1] [.slice (some ⟨w.heap.size + 1 + 1 + 1 + 1, 0, none⟩) 2 2, .int .i64 8, .slice (some ⟨w.heap.size + 1 + 1 + 1 + 1 + 1 + 1 + 1, 0, none⟩) 1 1, .slice none 0 0, .int .i64 8, .slice (some ⟨w.heap.size + 1 + 1 + 1 + 1 + 1 + 1 + 1 + 1 + 1 + 1, 0, none⟩) 1 1] j hj)⟩
    | 1, _ => ⟨[.slice (some ⟨w.heap.size + 1 + 1 + 1 + 1, 0, none⟩) 2 2, .int .i64 8, .slice (some ⟨w.heap.size + 1 + 1 + 1 + 1 + 1 + 1 + 1, 0, none⟩) 1 1], ⟨_, _, rfl, r4, r7⟩, rfl, fun j hj => (c12.out _).trans (at_mid [.slice (some ⟨w.heap.size, 0, none⟩) 2 2, .int .i64 8, .slice (some ⟨w.heap.size + 1 + 1, 0, none⟩) 1 1] [.slice (some ⟨w.heap.size + 1 + 1 + 1 + 1, 0, none⟩) 2 2, .int .i64 8, .slice (some ⟨w.heap.size + 1 + 1 + 1 + 1 + 1 + 1 + 1, 0, none⟩) 1 1] [.slice none 0 0, .int .i64 8, .slice (some ⟨w.heap.size + 1 + 1 + 1 + 1 + 1 + 1 + 1 + 1 + 1 + 1, 0, none⟩) 1 1] j hj)⟩
    | 2, _ => ⟨[.slice none 0 0, .int .i64 8, .slice (some ⟨w.heap.size + 1 + 1 + 1 + 1 + 1 + 1 + 1 + 1 + 1 + 1, 0, none⟩) 1 1], ⟨_, _, rfl, rd_nilK, r10⟩, rfl, fun j hj => (c12.out _).trans (at_mid [.slice (some ⟨w.heap.size, 0, none⟩) 2 2, .int .i64 8, .slice (some ⟨w.heap.size + 1 + 1, 0, none⟩) 1 1, .slice (some ⟨w.heap.size + 1 + 1 + 1 + 1, 0, none⟩) 2 2, .int .i64 8, .slice (some ⟨w.heap.size + 1 + 1 + 1 + 1 + 1 + 1 + 1, 0, none⟩) 1 1] [.slice none 0 0, .int .i64 8, .slice (some ⟨w.heap.size + 1 + 1 + 1 + 1 + 1 + 1 + 1 + 1 + 1 + 1, 0, none⟩) 1 1] [] j hj)⟩)
  have hk5 : Hd (KMod lm W5 calM [.slice (some ⟨w.heap.size + 1 + 1 + 1 + 1 + 1 + 1 + 1 + 1 + 1 + 1 + 1 + 1, 0, none⟩) 3 3]) := ⟨⟨_, rfl, r12⟩⟩
  have m0 := (c13.out 0).trans rfl
  have hW5' := Hd.mk hW5
  have hz5' : w.heap.size + 13 < W5.heap.size := by omega
  have gW0 := (bat hB5.out b hbl off).trans g0
  have gW := (bat hB5.out b hbl (off + 1)).trans g1
  have hbl5 : b < W5.heap.size := by omega
  have hmk := mk32 W5
  obtain ⟨W6, hW6⟩ : ∃ W6 : World, W6 = W5.alloc (.cells (madeCells #[.int .u8 0] 32) 5) := ⟨_, rfl⟩
  have hcv : (convert 22 9 (.slice (some ⟨W5.heap.size, 0, none⟩) 32 32)).run Tryz.prog W6 = .ok (.string zerB) W6 := by
    rw [hW6]; exact conv_zer _ _ _ (zer_cells W5)
  rw [← hW6] at hmk
  have hB6 : Hd (Below W5.heap.size W5 W6) := ⟨by rw [hW6]; exact (Below.refl W5.heap.size W5).al (Nat.le_refl _) _⟩
  have g60 := (bat hB6.out b hbl5 off).trans gW0
  have g6 := (bat hB6.out b hbl5 (off + 1)).trans gW
  have m6 := (bat hB6.out _ hz5' 0).trans m0
  have hz6 : w.heap.size + 13 < W6.heap.size := Nat.lt_of_lt_of_le hz5' hB6.out.size
  have hbl6 : b < W6.heap.size := Nat.lt_of_lt_of_le hbl5 hB6.out.size
  have hk6 := Hd.mk (KM.mv hk5.out hB6.out)
  have hBw6 := Hd.mk (hB5.out.then hB6.out)
  clear hW6 hW5 r0 r1 r2 r4 r5 r6 r7 r9 r10 r12 c0 c1 c2 c3 c4 c5 c6 c7 c8 c9 c10 c11 c12 c13 hz5 gW gW0 hB5 hB6 hk5 m0 hz5' g0 g1
  have hcA := fun W cs va hp ha => c_Invoked calM cs 0 va [x0, x1] zerB 2000 W hp ha (by decide)
  have hcB := fun W cs va hp ha => c_Invoked calM cs 1 va [x0, x1] zerB 2000 W hp ha (by decide)
  have hsB := fun W cs va hp ha => s_Invoked calM cs 1 va [x0, x1] zerB 2000 W hp ha (by decide)
  have hcC := fun W cs va hp ha => c_Invoked calM cs 2 va [] zerB 2000 W hp ha (by decide)
  have hoc := resR_out calM 2 [] zerB 2000
  obtain ⟨mc, oc, hrc⟩ := cal_res2
  rw [hrc] at hcC hoc
  rw [cal_res0 ⟨q1, q2⟩ ⟨p1, p2⟩] at hcA
  rw [cal_res1 ⟨q1, q2⟩ ⟨p1, p2⟩] at hcB hsB
  clear hrc
  generalize (binV 3 8 x0 x1).1 = V at *
  have hsr := fun W cs ds h1 h2 => l_sameResult ⟨0, V, [], zerB, 4⟩ ⟨0, V, [], zerB, 4⟩ cs ds W h1 h2
  rw [decide_eq_true rfl] at hsr
  have hal := fun W cs ds h1 h2 => l_alike ⟨0, V, [], zerB, 2⟩ ⟨0, V, [], zerB, 4⟩ cs ds W h1 h2
  rw [show alikeR ⟨0, V, [], zerB, 2⟩ ⟨0, V, [], zerB, 4⟩ = true from decide_eq_true rfl] at hal
  have hwx0 : IntKind.i64.wrap x0 = x0 := IntWalk.i64_in _ (by omega)
  have hwx1 : IntKind.i64.wrap x1 = x1 := IntWalk.i64_in _ (by omega)
  have h2j : (0 : Int) < (n : Int) := by omega
  have h2k : 0 < n := by omega
  have h2m : 1 < n := by omega
  go_enter Tryz.func4, Tryz.ntmps4
  go_wp2_with fail
  refine (hbig _).mono ?_; rintro e w0 ⟨rfl, rfl⟩
  go_wp2_with fail
  rw [← hW5'.out, hmk]
  clear hmk
  go_wp2
  go_still_tail 8, (by kernel_rfl)
  change wpList _ _ _ _ _ W6.drew
  go_wp2_with fail
  obtain ⟨W7, hW7⟩ : ∃ W7 : World, W7 = (W6.alloc (.cells #[.int .i64 x0, .int .i64 x1] 2)).drew := ⟨_, rfl⟩
  rw [← hW7]
  have hB7 : Below W6.heap.size W6 W7 := by rw [hW7]; exact ((Below.refl W6.heap.size W6).al (Nat.le_refl _) _).drew
  have ca : ∀ o, W7.cell? ⟨W6.heap.size, o, none⟩ = (#[.int .i64 x0, .int .i64 x1] : Array Value)[o]? := fun o => by rw [hW7]; exact (row_facts (heap_new W6 _ _ _ rfl)).1 o
  have hz7 : W6.heap.size < W7.heap.size := by rw [hW7]; show _ < (W6.alloc _).heap.size; simp
  have ha7 : Rd lm 1 KInt W7 (.slice (some ⟨W6.heap.size, 0, none⟩) 2 2) [x0, x1] := rd_new _ rfl (by decide) hz7 (fun i hi => match i, hi with
    | 0, _ => ⟨[.int .i64 x0], rfl, rfl, fun j hj => (ca _).trans (at_mid [] [.int .i64 x0] [.int .i64 x1] j hj)⟩
    | 1, _ => ⟨[.int .i64 x1], rfl, rfl, fun j hj => (ca _).trans (at_mid [.int .i64 x0] [.int .i64 x1] [] j hj)⟩)
  have hk7 := KM.mv hk6.out hB7
  have m7 := (bat hB7 _ hz6 0).trans m6
  have hBw7 := Hd.mk (hBw6.out.then hB7)
  clear hW7 ca m6 g6 g60 hB7 hcv hk6
  refine (hcA _ _ _ hk7 ha7).mono ?_; rintro e w8 ⟨V8, rfl, hV8, hb8⟩
  have h8 := hb8
  unfold resV
  have hv8 : KRes w8 ⟨0, V, [], zerB, 2⟩ [.int .i64 0, .int .i64 V, V8, .string zerB, .int .i64 2] := res_K (x := ⟨0, V, [], zerB, 2⟩) hV8 (Nat.zero_le _)
  obtain ⟨A8, c8, rfl, -, -⟩ := own_shape hV8
  clear hV8
  have z8 := h8.size
  have m8 := (bat h8 _ (by omega) 0).trans m7
  have hk8 := KM.mv hk7 h8
  have ha8 := ha7.mv h8
  have hB8 := Hd.mk (hBw7.out.then h8)
  have zw8 : w.heap.size + 1 + 1 + 1 + 1 + 1 + 1 + 1 + 1 + 1 + 1 + 1 + 1 + 1 < w8.heap.size := by omega
  clear hk7 ha7 m7 h8 hb8
  have hbx8 := fun o => (Below.refl w8.heap.size w8).al (Nat.le_refl _) o
  go_wp2_with fail
  refine (hcB _ _ _ (KM.mv hk8 (hbx8 _)) (ha8.mv (hbx8 _))).mono ?_; rintro e w9 ⟨V9, rfl, hV9, hb9⟩
  have h9 := (hbx8 _).then hb9
  unfold resV
  have hv9 : KRes w9 ⟨0, V, [], zerB, 4⟩ [.int .i64 0, .int .i64 V, V9, .string zerB, .int .i64 4] := res_K (x := ⟨0, V, [], zerB, 4⟩) hV9 (Nat.zero_le _)
  obtain ⟨A9, c9, rfl, -, -⟩ := own_shape hV9
  clear hV9
  have z9 := hb9.size
  simp at z9
  have y8 : w8.heap.size < w9.heap.size := by omega
  have b8_0 := bat hb9 w8.heap.size (by first | (simp; done) | (simp; omega)) 0
  have b8_1 := bat hb9 w8.heap.size (by first | (simp; done) | (simp; omega)) 1
  have b8_2 := bat hb9 w8.heap.size (by first | (simp; done) | (simp; omega)) 2
  have b8_3 := bat hb9 w8.heap.size (by first | (simp; done) | (simp; omega)) 3
  have b8_4 := bat hb9 w8.heap.size (by first | (simp; done) | (simp; omega)) 4
  simp at b8_0 b8_1 b8_2 b8_3 b8_4
  replace hv8 := hv8.mv8 h9
  have m9 := (bat h9 _ zw8 0).trans m8
  have hk9 := KM.mv hk8 h9
  have ha9 := ha8.mv h9
  have hB9 := Hd.mk (hB8.out.then h9)
  have zw9 : w.heap.size + 1 + 1 + 1 + 1 + 1 + 1 + 1 + 1 + 1 + 1 + 1 + 1 + 1 < w9.heap.size := by omega
  clear hk8 ha8 m8 h9 hb9
  have hbx9 := fun o => (Below.refl w9.heap.size w9).al (Nat.le_refl _) o
  go_wp2_with fail
  refine (hcC _ _ _ (KM.mv hk9 (hbx9 _)) rd_nilK).mono ?_; rintro e w10 ⟨V10, rfl, hV10, hb10⟩
  have h10 := (hbx9 _).then hb10
  unfold resV
  have hv10 : KRes w10 ⟨5, 0, oc, mc, 6⟩ [.int .i64 5, .int .i64 0, V10, .string mc, .int .i64 6] := res_K (x := ⟨5, 0, oc, mc, 6⟩) hV10 hoc
  obtain ⟨A10, c10, rfl, -, -⟩ := own_shape hV10
  clear hV10
  have z10 := hb10.size
  simp at z10
  have y9 : w9.heap.size < w10.heap.size := by omega
  have b9_0 := bat hb10 w9.heap.size (by first | (simp; done) | (simp; omega)) 0
  have b9_1 := bat hb10 w9.heap.size (by first | (simp; done) | (simp; omega)) 1
  have b9_2 := bat hb10 w9.heap.size (by first | (simp; done) | (simp; omega)) 2
  have b9_3 := bat hb10 w9.heap.size (by first | (simp; done) | (simp; omega)) 3
  have b9_4 := bat hb10 w9.heap.size (by first | (simp; done) | (simp; omega)) 4
  simp at b9_0 b9_1 b9_2 b9_3 b9_4
  replace b8_0 := (bat h10 w8.heap.size (by omega) 0).trans b8_0
  replace b8_1 := (bat h10 w8.heap.size (by omega) 1).trans b8_1
  replace b8_2 := (bat h10 w8.heap.size (by omega) 2).trans b8_2
  replace b8_3 := (bat h10 w8.heap.size (by omega) 3).trans b8_3
  replace b8_4 := (bat h10 w8.heap.size (by omega) 4).trans b8_4
  have yy8_10 : w8.heap.size < w10.heap.size := by omega
  replace hv8 := hv8.mv8 h10
  replace hv9 := hv9.mv8 h10
  have m10 := (bat h10 _ zw9 0).trans m9
  have hk10 := KM.mv hk9 h10
  have ha10 := ha9.mv h10
  have hB10 := Hd.mk (hB9.out.then h10)
  have zw10 : w.heap.size + 1 + 1 + 1 + 1 + 1 + 1 + 1 + 1 + 1 + 1 + 1 + 1 + 1 < w10.heap.size := by omega
  clear hk9 ha9 m9 h10 hb10
  have hbx10 := fun o => (Below.refl w10.heap.size w10).al (Nat.le_refl _) o
  go_wp2_with fail
  refine (hsB _ _ _ (KM.mv hk10 (hbx10 _)) (ha10.mv (hbx10 _))).mono ?_; rintro e w11 ⟨V11, rfl, hV11, hb11⟩
  have h11 := (hbx10 _).then hb11
  unfold resV
  have hv11 : KRes w11 ⟨0, V, [], zerB, 4⟩ [.int .i64 0, .int .i64 V, V11, .string zerB, .int .i64 4] := res_K (x := ⟨0, V, [], zerB, 4⟩) hV11 (Nat.zero_le _)
  obtain ⟨A11, c11, rfl, -, -⟩ := own_shape hV11
  clear hV11
  have z11 := hb11.size
  simp at z11
  have y10 : w10.heap.size < w11.heap.size := by omega
  have b10_0 := bat hb11 w10.heap.size (by first | (simp; done) | (simp; omega)) 0
  have b10_1 := bat hb11 w10.heap.size (by first | (simp; done) | (simp; omega)) 1
  have b10_2 := bat hb11 w10.heap.size (by first | (simp; done) | (simp; omega)) 2
  have b10_3 := bat hb11 w10.heap.size (by first | (simp; done) | (simp; omega)) 3
  have b10_4 := bat hb11 w10.heap.size (by first | (simp; done) | (simp; omega)) 4
  simp at b10_0 b10_1 b10_2 b10_3 b10_4
  replace b8_0 := (bat h11 w8.heap.size (by omega) 0).trans b8_0
  replace b8_1 := (bat h11 w8.heap.size (by omega) 1).trans b8_1
  replace b8_2 := (bat h11 w8.heap.size (by omega) 2).trans b8_2
  replace b8_3 := (bat h11 w8.heap.size (by omega) 3).trans b8_3
  replace b8_4 := (bat h11 w8.heap.size (by omega) 4).trans b8_4
  have yy8_11 : w8.heap.size < w11.heap.size := by omega
  replace b9_0 := (bat h11 w9.heap.size (by omega) 0).trans b9_0
  replace b9_1 := (bat h11 w9.heap.size (by omega) 1).trans b9_1
  replace b9_2 := (bat h11 w9.heap.size (by omega) 2).trans b9_2
  replace b9_3 := (bat h11 w9.heap.size (by omega) 3).trans b9_3
  replace b9_4 := (bat h11 w9.heap.size (by omega) 4).trans b9_4
  have yy9_11 : w9.heap.size < w11.heap.size := by omega
  replace hv8 := hv8.mv8 h11
  replace hv9 := hv9.mv8 h11
  replace hv10 := hv10.mv8 h11
  have m11 := (bat h11 _ zw10 0).trans m10
  have hk11 := KM.mv hk10 h11
  have ha11 := ha10.mv h11
  have hB11 := Hd.mk (hB10.out.then h11)
  have zw11 : w.heap.size + 1 + 1 + 1 + 1 + 1 + 1 + 1 + 1 + 1 + 1 + 1 + 1 + 1 < w11.heap.size := by omega
  clear hk10 ha10 m10 h11 hb11
  have hbx11 := fun o => (Below.refl w11.heap.size w11).al (Nat.le_refl _) o
  clear hk11 ha11 m11
  go_wp2_with fail
  refine (hsr _ _ _ (hv9.mv8 (hbx11 _)) (hv11.mv8 (hbx11 _))).mono ?_; rintro e w12 ⟨rfl, hb12⟩
  have h12 := (hbx11 _).then hb12
  replace b8_0 := (bat h12 w8.heap.size (by omega) 0).trans b8_0
  replace b8_1 := (bat h12 w8.heap.size (by omega) 1).trans b8_1
  replace b8_2 := (bat h12 w8.heap.size (by omega) 2).trans b8_2
  replace b8_3 := (bat h12 w8.heap.size (by omega) 3).trans b8_3
  replace b8_4 := (bat h12 w8.heap.size (by omega) 4).trans b8_4
  replace b9_0 := (bat h12 w9.heap.size (by omega) 0).trans b9_0
  replace b9_1 := (bat h12 w9.heap.size (by omega) 1).trans b9_1
  replace b9_2 := (bat h12 w9.heap.size (by omega) 2).trans b9_2
  replace b9_3 := (bat h12 w9.heap.size (by omega) 3).trans b9_3
  replace b9_4 := (bat h12 w9.heap.size (by omega) 4).trans b9_4
  replace b10_0 := (bat h12 w10.heap.size (by omega) 0).trans b10_0
  replace b10_1 := (bat h12 w10.heap.size (by omega) 1).trans b10_1
  replace b10_2 := (bat h12 w10.heap.size (by omega) 2).trans b10_2
  replace b10_3 := (bat h12 w10.heap.size (by omega) 3).trans b10_3
  replace b10_4 := (bat h12 w10.heap.size (by omega) 4).trans b10_4
  replace hv8 := hv8.mv8 h12
  replace hv9 := hv9.mv8 h12
  have hB12 := Hd.mk (hB11.out.then h12)
  have z12 := h12.size
  have x8 : w8.heap.size < w12.heap.size := by omega
  have x9 : w9.heap.size < w12.heap.size := by omega
  have x10 : w10.heap.size < w12.heap.size := by omega
  clear h12 hb12 hv10 hv11
  go_wp2_with fail
  refine (hal _ _ _ hv8 hv9).mono ?_; rintro e w13 ⟨rfl, hb13⟩
  replace b8_0 := (bat hb13 w8.heap.size (by omega) 0).trans b8_0
  replace b8_1 := (bat hb13 w8.heap.size (by omega) 1).trans b8_1
  replace b8_2 := (bat hb13 w8.heap.size (by omega) 2).trans b8_2
  replace b8_3 := (bat hb13 w8.heap.size (by omega) 3).trans b8_3
  replace b8_4 := (bat hb13 w8.heap.size (by omega) 4).trans b8_4
  replace b9_0 := (bat hb13 w9.heap.size (by omega) 0).trans b9_0
  replace b9_1 := (bat hb13 w9.heap.size (by omega) 1).trans b9_1
  replace b9_2 := (bat hb13 w9.heap.size (by omega) 2).trans b9_2
  replace b9_3 := (bat hb13 w9.heap.size (by omega) 3).trans b9_3
  replace b9_4 := (bat hb13 w9.heap.size (by omega) 4).trans b9_4
  replace b10_0 := (bat hb13 w10.heap.size (by omega) 0).trans b10_0
  replace b10_1 := (bat hb13 w10.heap.size (by omega) 1).trans b10_1
  replace b10_2 := (bat hb13 w10.heap.size (by omega) 2).trans b10_2
  replace b10_3 := (bat hb13 w10.heap.size (by omega) 3).trans b10_3
  replace b10_4 := (bat hb13 w10.heap.size (by omega) 4).trans b10_4
  go_wp2
  go_ret
  exact ⟨rfl, hB12.out.then hb13⟩

end Go.Proofs.YtkcgejbnhpccdaaGreat
set_option linter.unusedSimpArgs false
set_option linter.unusedVariables false
namespace Go.Proofs.YtkcgejbnhpccdaaGreat
open Go.ChangeShapes Go.WideShapes Go.ChangeAt Go.RowKit
open Go.ChangeMaps (open_string shut_string)
theorem ownR9 : ownKnob Tryz.prog.godebug = none := by kernel_rfl
theorem laidOutR9 : laidOutB Tryz.prog = true := by kernel_rfl
set_option maxRecDepth 100000 in
theorem lifted_FnCalls (os : Os) (started : os.Started) (H : Type) (enc : TypeId × Value → H) :
    ReturnsInHanded {} Tryz.checked os 4 .any (Rows.fnCallsSpec.pre6 enc Tryz.prog Tryz.f4 Rows.fnCallsRow.domain false) (Rows.fnCallsSpec.post enc Tryz.prog Tryz.f4 false true false false) := by
  refine returnsInHanded_of_change (C := Tryz.checked) ownR9 started (by kernel_rfl) Tryz.func4
    (ChangeSpec.witness6 (enc := enc) (C := Tryz.checked) false ⟨#[], #[.slice none 0 0], []⟩ 8 (by kernel_rfl) (by kernel_rfl) (by kernel_rfl) (by kernel_rfl)) ?_
  intro W base args ds gs before hval0 hW hcnd _
  have hval : ∀ (j : Nat) t v, Tryz.f4.params[j]? = some t → args[j]? = some v → Value.okWide Tryz.prog W .any base t v := hval0
  have hW' := hW
  obtain ⟨p, q, hA0, hV, rfl, hfz, hnd⟩ := hW
  have hA : DataW.TrodAll enc Tryz.prog W 0 (fun _ => true) true Tryz.f4.params.toList args.toList ds p := hA0
  rw [Tryz.params4] at hA hval
  obtain ⟨v0, vs0, d0, ds0, p0, q0, hargs0, rfl, rfl, h0, r0⟩ := trodAll_cons hA
  obtain ⟨rfl, rfl, rfl⟩ := trodAll_nil r0
  obtain rfl : args = #[v0] := by cases args; simp_all
  obtain ⟨rfl, rfl⟩ := trodVars_none hV
  obtain ⟨A0, n0, c0, rfl⟩ := okWide_slice Tryz.underlying22 (hval 0 22 v0 rfl rfl)
  have k0 := h0
  have lt0 : ∀ x ∈ p0, x.block < W.heap.size := by obtain ⟨m, hm⟩ := k0; exact DataW.trod_lt m _ _ _ hm
  obtain ⟨x0, w0⟩ : ∃ x, Rd lw 1 KB W (.slice A0 n0 c0) x := by
    obtain ⟨fuel, hf⟩ := h0
    obtain ⟨v, x, hv, hx⟩ := op_bytes hf
    obtain rfl : Value.slice A0 n0 c0 = v := by simpa [Value.cells] using hv
    exact ⟨x, hx⟩
  clear hA0 hval0
  have hwalk := f_Calls _ x0 W w0
  refine hwalk.mono fun e W' ⟨he, bel⟩ => ?_
  subst he
  exact ⟨_, rfl, _, _, _, [], _, [], hW', trodAll_mk1 (shut_bool Tryz.underlying4 _), (trodAll_cons_mk (Below.trod laidOutR9 (by kernel_rfl) (of_decide_eq_true (by kernel_rfl)) k0 bel lt0) trodAll_mk0), rfl, bel.frame _, fun h => by cases h⟩
theorem law_Calls : Rows.FnCallsSaid :=
  OpenClaim.holds_of_wide 4 Tryz.f4 rfl rfl rfl rfl rfl rfl rfl ⟨rfl, rfl, rfl, rfl, rfl⟩ rfl rfl rfl rfl rfl (by kernel_rfl) Tryz.func4 (by kernel_rfl)
    (of_decide_eq_true (by kernel_rfl)) (by unfold Func.isWrapper; first | (rw [if_pos (by decide +kernel)]; kernel_rfl) | (rw [if_neg (by decide +kernel)]; exact ⟨rfl, rfl⟩))
    (fun os started H enc _ => lifted_FnCalls os started H enc)
end Go.Proofs.YtkcgejbnhpccdaaGreat
