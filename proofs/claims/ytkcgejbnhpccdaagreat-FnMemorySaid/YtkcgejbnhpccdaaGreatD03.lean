import Derived.Test.YtkcgejbnhpccdaaGreatD01
import Derived.Test.YtkcgejbnhpccdaaGreatD02
import Derived.Test.YtkcgejbnhpccdaaGreatJ14
import Derived.Test.YtkcgejbnhpccdaaGreatJ10
import Derived.Test.YtkcgejbnhpccdaaGreatJ37
import Derived.Test.YtkcgejbnhpccdaaGreatJ42
import Derived.Test.YtkcgejbnhpccdaaGreatJ44
import Derived.Test.YtkcgejbnhpccdaaGreatRows
import Derived.WalkKit
import Derived.ProofKit
import Derived.OpenShut
import Derived.ShutString
import Derived.ChangeOld
import Derived.Below
set_option linter.unusedSimpArgs false
set_option linter.unusedVariables false
namespace Go.Proofs.YtkcgejbnhpccdaaGreat
open Go.RowKit
theorem rd_new {α : Type} {L sz : Nat} {K : World → α → List Value → Prop} {w : World} {b n : Nat} (xs : List α) (hn : n = xs.length) (hL : n ≤ L) (hb : b < w.heap.size) (h : ∀ i (hi : i < xs.length), ∃ cs, K w xs[i] cs ∧ cs.length = sz ∧ ∀ j (hj : j < cs.length), w.cell? ⟨b, i * sz + j, none⟩ = some cs[j]) : Rd L sz K w (.slice (some ⟨b, 0, none⟩) n n) xs := by
  subst hn
  exact ⟨_, _, rfl, Nat.le_refl _, hL, fun e => by simp at e, fun _ => ⟨b, 0, rfl, hb, fun i hi => by
    obtain ⟨cs, h1, h2, h3⟩ := h i hi
    exact ⟨cs, h1, h2, fun j hj => by rw [Nat.zero_add]; exact h3 j hj⟩⟩⟩
theorem rd_nilK {α : Type} {L sz : Nat} {K : World → α → List Value → Prop} {w : World} : Rd L sz K w (.slice none 0 0) ([] : List α) := ⟨none, 0, rfl, Nat.le_refl _, Nat.zero_le _, fun _ => rfl, fun h => absurd h (Nat.lt_irrefl _)⟩
theorem at_mid (A cs B : List Value) (j : Nat) (hj : j < cs.length) : (A ++ (cs ++ B)).toArray[A.length + j]? = some cs[j] := by
  rw [List.getElem?_toArray, List.getElem?_append_right (by omega), show A.length + j - A.length = j by omega, List.getElem?_append_left hj, List.getElem?_eq_getElem hj]
theorem info8 : (Tryz.prog.info? 5).map (fun i => (i.zero, i.size, i.bytes)) = some (some (.int .u8 0), 1, 1) := by kernel_rfl
theorem mk32 (W : World) : (Instr.makeSlice 22 (.int .i64 32) (.int .i64 32)).run Tryz.prog W = .ok (.slice (some ⟨W.heap.size, 0, none⟩) 32 32) (W.alloc (.cells (madeCells #[.int .u8 0] 32) 5)) :=
  mk_run 22 5 (.int .u8 0) 1 1 32 Tryz.underlying22 info8 (by omega) (by omega) W
theorem conv_zer (W : World) (g cap : Nat) (h : ∀ j, j < 32 → W.cell? ⟨g, j, none⟩ = some (.int .u8 0)) : (convert 22 9 (.slice (some ⟨g, 0, none⟩) 32 cap)).run Tryz.prog W = .ok (.string zerB) W := by
  have := run_convert_bytes_back (P := Tryz.prog) W 22 9 5 ⟨g, 0, none⟩ cap ((List.replicate 32 (0 : Int)).map fun n => UInt8.ofNat n.toNat) Tryz.underlying22 Tryz.underlying5 Tryz.underlying9 (fun j hj => by
    have hj' : j < 32 := by simpa using hj
    have hc := h j hj'
    have ea : (⟨g, 0, none⟩ : Addr).add j = ⟨g, j, none⟩ := by unfold Addr.add; by_cases h0 : j = 0 <;> simp [h0]
    rw [ea, hc]; simp only [List.getElem_map, List.getElem_replicate]; rfl)
  exact this
theorem zer_cells (W : World) (j : Nat) (hj : j < 32) : (W.alloc (.cells (madeCells #[.int .u8 0] 32) 5)).cell? ⟨W.heap.size, j, none⟩ = some (.int .u8 0) := by
  have h := (row_facts (heap_new W (madeCells #[.int .u8 0] 32) 5 _ rfl)).1 j
  rw [h]
  simp [madeCells, hj, Nat.mod_one]
theorem mem_at {a b : Int} (h : 0 ≤ a) (ha : a < 32) (hb : 0 ≤ b ∧ b < 256) : 0 ≤ a ∧ a < ((toBytes ((List.replicate 32 0).set a.toNat b)).size : Int) ∧ ∀ h : a.toNat < (toBytes ((List.replicate 32 0).set a.toNat b)).size, (((toBytes ((List.replicate 32 0).set a.toNat b))[a.toNat]'h).toNat : Int) = b := by
  have hs : (toBytes ((List.replicate 32 0).set a.toNat b)).size = 32 := by simp [toBytes, ByteArray.size]
  refine ⟨h, by rw [hs]; omega, fun hl => ?_⟩
  have e : (toBytes ((List.replicate 32 0).set a.toNat b))[a.toNat]'hl = UInt8.ofNat b.toNat := by
    show (((List.replicate 32 (0 : Int)).set a.toNat b).map fun n => UInt8.ofNat n.toNat).toArray[a.toNat]'(by simp; omega) = _
    simp only [List.getElem_toArray, List.getElem_map, List.getElem_set_self]
  rw [e, UInt8.toNat_ofNat_of_lt' (by show b.toNat < 256; omega)]
  omega
theorem sixty_four {x : Int} (h : 0 ≤ x) : 0 ≤ x % 64 ∧ x % 64 < 64 := ⟨Int.emod_nonneg _ (by decide), Int.emod_lt_of_pos _ (by decide)⟩
def RetT8 (w : World) (e : Ending) (w' : World) : Prop := e = .returned (.bool true) ∧ Below w.heap.size w w'
theorem KRes.mv8 {w w' : World} {x : XRes} {cs : List Value} (h : KRes w x cs) (hb : Below w.heap.size w w') : KRes w' x cs := by
  obtain ⟨v, rfl, r⟩ := h; exact ⟨v, rfl, r.mv hb⟩
end Go.Proofs.YtkcgejbnhpccdaaGreat
set_option linter.unusedSimpArgs false
set_option linter.unusedVariables false
namespace Go.Proofs.YtkcgejbnhpccdaaGreat
open Go.RowKit
set_option maxRecDepth 40000 in
set_option maxHeartbeats 8000000 in
theorem f_Memory (v : Value) (xs : List Int) (w : World) (hv : Rd lw 1 KB w v xs) : Calls Tryz.prog 3 #[v] w (RetT8 w) := by
  obtain ⟨A, c, rfl, -, -, hv1⟩ := hv.sh
  clear hv
  have hlw : (xs.length : Int) ≤ 9223372036854775807 := by have := hv1.out.len; unfold lw at this; omega
  have hbig := fun W => l_big A xs.length c W hlw
  by_cases hs : xs.length ≤ 1048576
  case neg =>
    have hgt : decide ((1048576 : Int) < xs.length) = true := by simp; omega
    rw [hgt] at hbig
    go_enter Tryz.func3, Tryz.ntmps3
    go_wp2_with fail
    refine (hbig _).mono ?_; rintro e w1 ⟨rfl, rfl⟩
    go_wp2
    go_ret
    exact ⟨rfl, Below.refl _ _⟩
  have hgt : decide ((1048576 : Int) < xs.length) = false := by simp; omega
  rw [hgt] at hbig
  by_cases h2 : xs.length < 2
  · have h2' : (xs.length : Int) < 2 := by omega
    go_enter Tryz.func3, Tryz.ntmps3
    go_wp2_with fail
    refine (hbig _).mono ?_; rintro e w1 ⟨rfl, rfl⟩
    go_wp2
    go_ret
    exact ⟨rfl, Below.refl _ _⟩
  have h2' : ¬ (xs.length : Int) < 2 := by omega
  have h2i : (1 : Int) < (xs.length : Int) := by omega
  obtain ⟨b, off, cs, hA, hbl, ⟨rfl, q1, q2⟩, hat⟩ := hv1.out.in0 (Below.refl _ _) 0 (by omega)
  cases hA
  have g0 := hat 0 _ rfl
  simp at g0
  clear hat
  obtain ⟨b', off', cs, hA, hbl', ⟨rfl, p1, p2⟩, hat⟩ := hv1.out.in0 (Below.refl _ _) 1 (by omega)
  cases hA
  have g1 := hat 0 _ rfl
  simp at g1
  clear hat hbl'
  generalize xs[0] = x0 at *
  generalize xs[1] = x1 at *
  generalize xs.length = n at *
  clear hv1 hlw hgt
  obtain ⟨W5, hW5⟩ : ∃ W5 : World, W5 = ((((((w.alloc (.cells #[.int .i64 32, .int .i64 8] 2)).alloc (.cells #[.int .i64 24, .int .i64 0, .int .i64 0, .int .i64 1, .int .i64 0, .int .i64 0, .slice none 0 0, .int .i64 23, .int .i64 8, .int .i64 0, .int .i64 0, .int .i64 0, .int .i64 0, .slice none 0 0] 26)).alloc (.cells #[.slice none 0 0, .slice (some ⟨w.heap.size + 1, 0, none⟩) 2 2, .int .i64 1, .int .i64 3, .int .i64 0, .int .i64 0] 32)).alloc (.cells #[.slice (some ⟨w.heap.size, 0, none⟩) 2 2, .int .i64 8, .slice (some ⟨w.heap.size + 1 + 1, 0, none⟩) 1 1] 35)).alloc (.cells #[.slice (some ⟨w.heap.size, 0, none⟩) 2 2, .int .i64 8, .slice (some ⟨w.heap.size + 1 + 1, 0, none⟩) 1 1] 35)).alloc (.cells #[.slice (some ⟨w.heap.size + 1 + 1 + 1 + 1, 0, none⟩) 1 1] 38)) := ⟨_, rfl⟩
  have hz5 : W5.heap.size = w.heap.size + 6 := by rw [hW5]; simp
  have c0 : Hd (∀ o, W5.cell? ⟨w.heap.size, o, none⟩ = (#[.int .i64 32, .int .i64 8] : Array Value)[o]?) := ⟨fun o => by rw [hW5]; exact (World.cell?_alloc_past _ _ _ (by first | omega | (simp; done) | (simp; omega))).trans ((World.cell?_alloc_past _ _ _ (by first | omega | (simp; done) | (simp; omega))).trans ((World.cell?_alloc_past _ _ _ (by first | omega | (simp; done) | (simp; omega))).trans ((World.cell?_alloc_past _ _ _ (by first | omega | (simp; done) | (simp; omega))).trans ((World.cell?_alloc_past _ _ _ (by first | omega | (simp; done) | (simp; omega))).trans ((row_facts (heap_new _ _ _ _ rfl)).1 o)))))⟩
  have c1 : Hd (∀ o, W5.cell? ⟨w.heap.size + 1, o, none⟩ = (#[.int .i64 24, .int .i64 0, .int .i64 0, .int .i64 1, .int .i64 0, .int .i64 0, .slice none 0 0, .int .i64 23, .int .i64 8, .int .i64 0, .int .i64 0, .int .i64 0, .int .i64 0, .slice none 0 0] : Array Value)[o]?) := ⟨fun o => by rw [hW5]; exact (World.cell?_alloc_past _ _ _ (by first | omega | (simp; done) | (simp; omega))).trans ((World.cell?_alloc_past _ _ _ (by first | omega | (simp; done) | (simp; omega))).trans ((World.cell?_alloc_past _ _ _ (by first | omega | (simp; done) | (simp; omega))).trans ((World.cell?_alloc_past _ _ _ (by first | omega | (simp; done) | (simp; omega))).trans ((row_facts (heap_new _ _ _ _ (by simp))).1 o))))⟩
  have c2 : Hd (∀ o, W5.cell? ⟨w.heap.size + 1 + 1, o, none⟩ = (#[.slice none 0 0, .slice (some ⟨w.heap.size + 1, 0, none⟩) 2 2, .int .i64 1, .int .i64 3, .int .i64 0, .int .i64 0] : Array Value)[o]?) := ⟨fun o => by rw [hW5]; exact (World.cell?_alloc_past _ _ _ (by first | omega | (simp; done) | (simp; omega))).trans ((World.cell?_alloc_past _ _ _ (by first | omega | (simp; done) | (simp; omega))).trans ((World.cell?_alloc_past _ _ _ (by first | omega | (simp; done) | (simp; omega))).trans ((row_facts (heap_new _ _ _ _ (by simp))).1 o)))⟩
  have c3 : Hd (∀ o, W5.cell? ⟨w.heap.size + 1 + 1 + 1, o, none⟩ = (#[.slice (some ⟨w.heap.size, 0, none⟩) 2 2, .int .i64 8, .slice (some ⟨w.heap.size + 1 + 1, 0, none⟩) 1 1] : Array Value)[o]?) := ⟨fun o => by rw [hW5]; exact (World.cell?_alloc_past _ _ _ (by first | omega | (simp; done) | (simp; omega))).trans ((World.cell?_alloc_past _ _ _ (by first | omega | (simp; done) | (simp; omega))).trans ((row_facts (heap_new _ _ _ _ (by simp))).1 o))⟩
  have c4 : Hd (∀ o, W5.cell? ⟨w.heap.size + 1 + 1 + 1 + 1, o, none⟩ = (#[.slice (some ⟨w.heap.size, 0, none⟩) 2 2, .int .i64 8, .slice (some ⟨w.heap.size + 1 + 1, 0, none⟩) 1 1] : Array Value)[o]?) := ⟨fun o => by rw [hW5]; exact (World.cell?_alloc_past _ _ _ (by first | omega | (simp; done) | (simp; omega))).trans ((row_facts (heap_new _ _ _ _ (by simp))).1 o)⟩
  have c5 : Hd (∀ o, W5.cell? ⟨w.heap.size + 1 + 1 + 1 + 1 + 1, o, none⟩ = (#[.slice (some ⟨w.heap.size + 1 + 1 + 1 + 1, 0, none⟩) 1 1] : Array Value)[o]?) := ⟨fun o => by rw [hW5]; exact (row_facts (heap_new _ _ _ _ (by simp))).1 o⟩
  have hB5 : Hd (Below w.heap.size w W5) := ⟨by rw [hW5]; exact (((((((Below.refl w.heap.size w).al (Nat.le_refl _) _).al (by simp <;> omega) _).al (by simp <;> omega) _).al (by simp <;> omega) _).al (by simp <;> omega) _).al (by simp <;> omega) _)⟩
  have r0 : Rd lm 1 KInt W5 (.slice (some ⟨w.heap.size, 0, none⟩) 2 2) [32, 8] := rd_new _ rfl (by decide) (by rw [hz5]; omega) (fun i hi => match i, hi with
    | 0, _ => ⟨[.int .i64 32], rfl, rfl, fun j hj => (c0.out _).trans (at_mid [] [.int .i64 32] [.int .i64 8] j hj)⟩
    | 1, _ => ⟨[.int .i64 8], rfl, rfl, fun j hj => (c0.out _).trans (at_mid [.int .i64 32] [.int .i64 8] [] j hj)⟩)
  have r1 : Rd lm 7 (KInst lm) W5 (.slice (some ⟨w.heap.size + 1, 0, none⟩) 2 2) [⟨24, 0, 0, 1, 0, 0, []⟩, ⟨23, 8, 0, 0, 0, 0, []⟩] := rd_new _ rfl (by decide) (by rw [hz5]; omega) (fun i hi => match i, hi with
    | 0, _ => ⟨[.int .i64 24, .int .i64 0, .int .i64 0, .int .i64 1, .int .i64 0, .int .i64 0, .slice none 0 0], ⟨_, rfl, rd_nilK⟩, rfl, fun j hj => (c1.out _).trans (at_mid [] [.int .i64 24, .int .i64 0, .int .i64 0, .int .i64 1, .int .i64 0, .int .i64 0, .slice none 0 0] [.int .i64 23, .int .i64 8, .int .i64 0, .int .i64 0, .int .i64 0, .int .i64 0, .slice none 0 0] j hj)⟩
    | 1, _ => ⟨[.int .i64 23, .int .i64 8, .int .i64 0, .int .i64 0, .int .i64 0, .int .i64 0, .slice none 0 0], ⟨_, rfl, rd_nilK⟩, rfl, fun j hj => (c1.out _).trans (at_mid [.int .i64 24, .int .i64 0, .int .i64 0, .int .i64 1, .int .i64 0, .int .i64 0, .slice none 0 0] [.int .i64 23, .int .i64 8, .int .i64 0, .int .i64 0, .int .i64 0, .int .i64 0, .slice none 0 0] [] j hj)⟩)
  have r2 : Rd lm 6 (KBlock lm) W5 (.slice (some ⟨w.heap.size + 1 + 1, 0, none⟩) 1 1) [⟨[], [⟨24, 0, 0, 1, 0, 0, []⟩, ⟨23, 8, 0, 0, 0, 0, []⟩], ⟨1, 3, 0, 0⟩⟩] := rd_new _ rfl (by decide) (by rw [hz5]; omega) (fun i hi => match i, hi with
    | 0, _ => ⟨[.slice none 0 0, .slice (some ⟨w.heap.size + 1, 0, none⟩) 2 2, .int .i64 1, .int .i64 3, .int .i64 0, .int .i64 0], ⟨_, _, rfl, rd_nilK, r1⟩, rfl, fun j hj => (c2.out _).trans (at_mid [] [.slice none 0 0, .slice (some ⟨w.heap.size + 1, 0, none⟩) 2 2, .int .i64 1, .int .i64 3, .int .i64 0, .int .i64 0] [] j hj)⟩)
  have r4 : Rd lm 3 (KFunc lm) W5 (.slice (some ⟨w.heap.size + 1 + 1 + 1 + 1, 0, none⟩) 1 1) [memF] := rd_new _ rfl (by decide) (by rw [hz5]; omega) (fun i hi => match i, hi with
    | 0, _ => ⟨[.slice (some ⟨w.heap.size, 0, none⟩) 2 2, .int .i64 8, .slice (some ⟨w.heap.size + 1 + 1, 0, none⟩) 1 1], ⟨_, _, rfl, r0, r2⟩, rfl, fun j hj => (c4.out _).trans (at_mid [] [.slice (some ⟨w.heap.size, 0, none⟩) 2 2, .int .i64 8, .slice (some ⟨w.heap.size + 1 + 1, 0, none⟩) 1 1] [] j hj)⟩)
  have hk5 : Hd (KMod lm W5 memM [.slice (some ⟨w.heap.size + 1 + 1 + 1 + 1, 0, none⟩) 1 1]) := ⟨⟨_, rfl, r4⟩⟩
  have m0 := (c5.out 0).trans rfl
  have hm64 := sixty_four q1
  have hW5' := Hd.mk hW5
  have hz5' : w.heap.size + 5 < W5.heap.size := by omega
  have gW := (bat hB5.out b hbl (off + 1)).trans g1
  have hbl5 : b < W5.heap.size := by omega
  have hmk := mk32 W5
  obtain ⟨W6, hW6⟩ : ∃ W6 : World, W6 = W5.alloc (.cells (madeCells #[.int .u8 0] 32) 5) := ⟨_, rfl⟩
  have hcv : (convert 22 9 (.slice (some ⟨W5.heap.size, 0, none⟩) 32 32)).run Tryz.prog W6 = .ok (.string zerB) W6 := by
    rw [hW6]; exact conv_zer _ _ _ (zer_cells W5)
  rw [← hW6] at hmk
  have hB6 : Hd (Below W5.heap.size W5 W6) := ⟨by rw [hW6]; exact (Below.refl W5.heap.size W5).al (Nat.le_refl _) _⟩
  have g6 := (bat hB6.out b hbl5 (off + 1)).trans gW
  have m6 := (bat hB6.out _ hz5' 0).trans m0
  have hz6 : w.heap.size + 5 < W6.heap.size := Nat.lt_of_lt_of_le hz5' hB6.out.size
  have hbl6 : b < W6.heap.size := Nat.lt_of_lt_of_le hbl5 hB6.out.size
  have hk6 := Hd.mk (KM.mv hk5.out hB6.out)
  have hBw6 := Hd.mk (hB5.out.then hB6.out)
  clear hW6 hW5 r0 r1 r2 r4 c0 c1 c2 c3 c4 c5 hz5 gW hB5 hB6 hk5 m0 hz5'
  generalize hat : x0 % 64 = at0 at *
  have hres := mem_res hm64 ⟨p1, p2⟩
  have hcM := fun W cs va hp ha => c_Invoked memM cs 0 va [at0, x1] zerB 2000 W hp ha (by decide)
  have hsM := fun W cs va hp ha => s_Invoked memM cs 0 va [at0, x1] zerB 2000 W hp ha (by decide)
  generalize resR memM 0 [at0, x1] zerB 2000 = R at *
  have hro : R.out.length ≤ lm := by rw [hres]; split <;> exact Nat.zero_le _
  have hres' := Hd.mk hres
  clear hres
  go_enter Tryz.func3, Tryz.ntmps3
  go_wp2_with fail
  refine (hbig _).mono ?_; rintro e w0 ⟨rfl, rfl⟩
  go_wp2_with fail
  rw [← hW5'.out, hmk]
  clear hmk
  go_wp2_with fail
  obtain ⟨W7, hW7⟩ : ∃ W7 : World, W7 = W6.alloc (.cells #[.int .i64 at0, .int .i64 x1] 2) := ⟨_, rfl⟩
  rw [← hW7]
  have hB7 : Below W6.heap.size W6 W7 := by rw [hW7]; exact (Below.refl W6.heap.size W6).al (Nat.le_refl _) _
  have ca : ∀ o, W7.cell? ⟨W6.heap.size, o, none⟩ = (#[.int .i64 at0, .int .i64 x1] : Array Value)[o]? := fun o => by rw [hW7]; exact (row_facts (heap_new _ _ _ _ rfl)).1 o
  have hz7 : W6.heap.size < W7.heap.size := by rw [hW7]; simp
  have ha7 : Rd lm 1 KInt W7 (.slice (some ⟨W6.heap.size, 0, none⟩) 2 2) [at0, x1] := rd_new _ rfl (by decide) hz7 (fun i hi => match i, hi with
    | 0, _ => ⟨[.int .i64 at0], rfl, rfl, fun j hj => (ca _).trans (at_mid [] [.int .i64 at0] [.int .i64 x1] j hj)⟩
    | 1, _ => ⟨[.int .i64 x1], rfl, rfl, fun j hj => (ca _).trans (at_mid [.int .i64 at0] [.int .i64 x1] [] j hj)⟩)
  have hk7 := KM.mv hk6.out hB7
  have m7 := (bat hB7 _ hz6 0).trans m6
  have g7 := (bat hB7 b hbl6 (off + 1)).trans g6
  have hBw7 := Hd.mk (hBw6.out.then hB7)
  clear hW7 ca m6 g6 hB7 hcv hk6
  refine (hcM _ _ _ hk7 ha7).mono ?_; rintro e w8 ⟨V8, rfl, hV8, hb8⟩
  unfold resV
  have hv8 : KRes w8 R [.int .i64 R.code, .int .i64 R.value, V8, .string R.mem, .int .i64 R.steps] := res_K hV8 hro
  obtain ⟨A8, c8, rfl, -, -⟩ := own_shape hV8
  clear hV8
  have z8 := hb8.size
  have hb8' := Hd.mk hb8
  have m8 := (bat hb8 _ (by omega) 0).trans m7
  have g8 := (bat hb8 b (by omega) (off + 1)).trans g7
  have hk8 := KM.mv hk7 hb8
  have ha8 := ha7.mv hb8
  have zw8 : w.heap.size + 1 + 1 + 1 + 1 + 1 < w8.heap.size := by omega
  have zb8 : b < w8.heap.size := by omega
  have hbx8 := fun o => (Below.refl w8.heap.size w8).al (Nat.le_refl _) o
  clear hb8 hk7 ha7 m7 g7
  go_wp2_with fail
  refine (hsM _ _ _ (KM.mv hk8 (hbx8 _)) (ha8.mv (hbx8 _))).mono ?_; rintro e w9 ⟨V9, rfl, hV9, hb9⟩
  unfold resV
  have hv9 : KRes w9 R [.int .i64 R.code, .int .i64 R.value, V9, .string R.mem, .int .i64 R.steps] := res_K hV9 hro
  obtain ⟨A9, c9, rfl, -, -⟩ := own_shape hV9
  clear hV9 hk8 ha8
  have h89 := (hbx8 _).then hb9
  have z9 := hb9.size
  have r0 := bat hb9 w8.heap.size (by first | (simp; done) | (simp; omega)) 0
  have r1 := bat hb9 w8.heap.size (by first | (simp; done) | (simp; omega)) 1
  have r2 := bat hb9 w8.heap.size (by first | (simp; done) | (simp; omega)) 2
  have r3 := bat hb9 w8.heap.size (by first | (simp; done) | (simp; omega)) 3
  have r4 := bat hb9 w8.heap.size (by first | (simp; done) | (simp; omega)) 4
  simp at r0 r1 r2 r3 r4 z9
  have g9 := (bat h89 b zb8 (off + 1)).trans g8
  have zb9 : b < w9.heap.size := by omega
  have z89 : w8.heap.size < w9.heap.size := by omega
  have hbx9 := fun o => (Below.refl w9.heap.size w9).al (Nat.le_refl _) o
  have hv8' := hv8.mv8 h89
  clear hb9 m8 hv8
  go_wp2_with fail
  refine (l_sameResult R R _ _ _ (hv8'.mv8 (hbx9 _)) (hv9.mv8 (hbx9 _))).mono ?_; rintro e w10 ⟨rfl, hb10⟩
  rw [decide_eq_true rfl]
  have hb10' := Hd.mk hb10
  have h9x := (hbx9 _).then hb10
  have s0 := (bat h9x w8.heap.size z89 0).trans r0
  have s1 := (bat h9x w8.heap.size z89 1).trans r1
  have s3 := (bat h9x w8.heap.size z89 3).trans r3
  have g10 := (bat h9x b zb9 (off + 1)).trans g9
  have hBf := ((hBw7.out.then hb8'.out).then h89).then h9x
  clear r0 r1 r2 r3 r4 hv8' hv9 hb10 h9x h89 g9
  have hres := hres'.out
  by_cases h32 : at0 < 32
  · rw [if_pos h32] at hres
    subst hres
    have h32' : decide (at0 ≥ 32) = false := by simp; omega
    simp only at s0 s1 s3
    have hix := mem_at hm64.1 h32 ⟨p1, p2⟩
    generalize toBytes ((List.replicate 32 0).set at0.toNat x1) = mb at *
    obtain ⟨hm1, hm2, hm3⟩ := hix
    have zz8 : w8.heap.size < w10.heap.size := by have := hb10'.out.size; simp at this; omega
    have zzb : b < w10.heap.size := by omega
    have hxx : (x1 == x1) = true := by simp
    have hwx : IntKind.i64.wrap x1 = x1 := IntWalk.i64_in _ (by omega)
    go_wp2
    refine wp_region_bel (by kernel_rfl) (by kernel_rfl) ?_
    simp only [List.toList_toArray]
    repeat' first
      | (refine seq_val (by rfl) (by intro W hS; have t0 := (bat hS w8.heap.size zz8 0).trans s0; have t1 := (bat hS w8.heap.size zz8 1).trans s1; have t3 := (bat hS w8.heap.size zz8 3).trans s3; have tg := (bat hS b zzb (off + 1)).trans g10; go_simp; first | done | rfl) ?_; simp only [Act.put, List.setIfInBounds_toArray, List.set_cons_zero, List.set_cons_succ])
      | (refine seq_skip (by rfl) ?_; simp only [Act.put, List.setIfInBounds_toArray, List.set_cons_zero, List.set_cons_succ])
      | fail
    refine seq_nil (fun W hS => ?_)
    have t0 := (bat hS w8.heap.size zz8 0).trans s0
    have t1 := (bat hS w8.heap.size zz8 1).trans s1
    have t3 := (bat hS w8.heap.size zz8 3).trans s3
    have tg := (bat hS b zzb (off + 1)).trans g10
    go_wp2
    go_ret
    exact ⟨rfl, hBf.then hS⟩
  · rw [if_neg h32] at hres
    subst hres
    have h32' : decide (at0 ≥ 32) = true := by simp; omega
    simp only at s0 s1 s3
    have hzz : (zerB.toList == zerB.toList) = true := by simp
    go_wp2
    go_ret
    exact ⟨rfl, hBf⟩

end Go.Proofs.YtkcgejbnhpccdaaGreat
set_option linter.unusedSimpArgs false
set_option linter.unusedVariables false
namespace Go.Proofs.YtkcgejbnhpccdaaGreat
open Go.ChangeShapes Go.WideShapes Go.ChangeAt Go.RowKit
open Go.ChangeMaps (open_string shut_string)
theorem ownR8 : ownKnob Tryz.prog.godebug = none := by kernel_rfl
theorem laidOutR8 : laidOutB Tryz.prog = true := by kernel_rfl
set_option maxRecDepth 100000 in
theorem lifted_FnMemory (os : Os) (started : os.Started) (H : Type) (enc : TypeId × Value → H) :
    ReturnsInHanded {} Tryz.checked os 3 .any (Rows.fnMemorySpec.pre6 enc Tryz.prog Tryz.f3 Rows.fnMemoryRow.domain false) (Rows.fnMemorySpec.post enc Tryz.prog Tryz.f3 false true false false) := by
  refine returnsInHanded_of_change (C := Tryz.checked) ownR8 started (by kernel_rfl) Tryz.func3
    (ChangeSpec.witness6 (enc := enc) (C := Tryz.checked) false ⟨#[], #[.slice none 0 0], []⟩ 8 (by kernel_rfl) (by kernel_rfl) (by kernel_rfl) (by kernel_rfl)) ?_
  intro W base args ds gs before hval0 hW hcnd _
  have hval : ∀ (j : Nat) t v, Tryz.f3.params[j]? = some t → args[j]? = some v → Value.okWide Tryz.prog W .any base t v := hval0
  have hW' := hW
  obtain ⟨p, q, hA0, hV, rfl, hfz, hnd⟩ := hW
  have hA : DataW.TrodAll enc Tryz.prog W 0 (fun _ => true) true Tryz.f3.params.toList args.toList ds p := hA0
  rw [Tryz.params3] at hA hval
  obtain ⟨v0, vs0, d0, ds0, p0, q0, hargs0, rfl, rfl, h0, r0⟩ := trodAll_cons hA
  obtain ⟨rfl, rfl, rfl⟩ := trodAll_nil r0
  obtain rfl : args = #[v0] := by cases args; simp_all
  obtain ⟨rfl, rfl⟩ := trodVars_none hV
  obtain ⟨A0, n0, c0, rfl⟩ := okWide_slice Tryz.underlying22 (hval 0 22 v0 rfl rfl)
  have k0 := h0
  have lt0 : ∀ x ∈ p0, x.block < W.heap.size := by obtain ⟨m, hm⟩ := k0; exact DataW.trod_lt m _ _ _ hm
  obtain ⟨x0, w0⟩ : ∃ x, Rd lw 1 KB W (.slice A0 n0 c0) x := by
    obtain ⟨fuel, hf⟩ := h0
    obtain ⟨v, x, hv, hx⟩ := op_bytes hf
    obtain rfl : Value.slice A0 n0 c0 = v := by simpa [Value.cells] using hv
    exact ⟨x, hx⟩
  clear hA0 hval0
  have hwalk := f_Memory _ x0 W w0
  refine hwalk.mono fun e W' ⟨he, bel⟩ => ?_
  subst he
  exact ⟨_, rfl, _, _, _, [], _, [], hW', trodAll_mk1 (shut_bool Tryz.underlying4 _), (trodAll_cons_mk (Below.trod laidOutR8 (by kernel_rfl) (of_decide_eq_true (by kernel_rfl)) k0 bel lt0) trodAll_mk0), rfl, bel.frame _, fun h => by cases h⟩
theorem law_Memory : Rows.FnMemorySaid :=
  OpenClaim.holds_of_wide 3 Tryz.f3 rfl rfl rfl rfl rfl rfl rfl ⟨rfl, rfl, rfl, rfl, rfl⟩ rfl rfl rfl rfl rfl (by kernel_rfl) Tryz.func3 (by kernel_rfl)
    (of_decide_eq_true (by kernel_rfl)) (by unfold Func.isWrapper; first | (rw [if_pos (by decide +kernel)]; kernel_rfl) | (rw [if_neg (by decide +kernel)]; exact ⟨rfl, rfl⟩))
    (fun os started H enc _ => lifted_FnMemory os started H enc)
end Go.Proofs.YtkcgejbnhpccdaaGreat
