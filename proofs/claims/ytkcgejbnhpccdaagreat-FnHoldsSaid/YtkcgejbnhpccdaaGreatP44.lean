import Derived.Test.YtkcgejbnhpccdaaGreatP40
import Derived.Test.YtkcgejbnhpccdaaGreatP07
import Derived.Test.YtkcgejbnhpccdaaGreatP02
import Derived.Deep.Slices
import Derived.ProofKit
import Derived.Test.YtkcgejbnhpccdaaGreatP31
set_option linter.unusedSimpArgs false
set_option linter.unusedVariables false
namespace Go.Proofs.YtkcgejbnhpccdaaGreat
open Go.RowKit
theorem conv_own (W : World) (g cap : Nat) (m : List Int) (h : ∀ j (hj : j < m.length), W.cell? ⟨g, j, none⟩ = some (.int .u8 m[j])) (hr : ∀ i (h : i < m.length), 0 ≤ m[i] ∧ m[i] < 256) (n : Nat) (hn : n = m.length) : (convert 22 9 (.slice (some ⟨g, 0, none⟩) n cap)).run Tryz.prog W = .ok (.string (toBytes m)) W := by
  subst hn
  have := run_convert_bytes_back (P := Tryz.prog) W 22 9 5 ⟨g, 0, none⟩ cap (m.map fun n => UInt8.ofNat n.toNat) Tryz.underlying22 Tryz.underlying5 Tryz.underlying9 (fun j hj => by
    have hj' : j < m.length := by simpa using hj
    have hx := hr j hj'
    have hc := h j hj'
    simp only [List.getElem_map]
    have e : ((UInt8.ofNat m[j].toNat).toNat : Int) = m[j] := by
      have : m[j].toNat < 256 := by omega
      rw [UInt8.toNat_ofNat_of_lt' (by simpa using this)]
      omega
    rw [e]
    have ea : (⟨g, 0, none⟩ : Addr).add j = ⟨g, j, none⟩ := by unfold Addr.add; by_cases h0 : j = 0 <;> simp [h0]
    rw [ea]; exact hc)
  have hl : (m.map fun n => UInt8.ofNat n.toNat).length = m.length := by simp
  rw [hl] at this
  exact this
theorem toBytes_size (m : List Int) : (toBytes m).size = m.length := by simp [toBytes, ByteArray.size]
set_option maxRecDepth 20000 in
set_option maxHeartbeats 4000000 in
theorem s_mem (lo g : Nat) (w : World) (h : RdS lo w g) : Calls Tryz.prog 54 #[.pointer (some ⟨g, 0, none⟩)] w (fun e w' => ∃ s : ByteArray, e = .returned (.string s) ∧ s.size = 32 ∧ RdS lo w' g ∧ w.grownBy w' (some g)) := by
  have hmk := mk32 w
  have hgl := h.lt
  have ho0 : Hd ((w.alloc (.cells (madeCells #[.int .u8 0] 32) 5)).ownsRow w.heap.size 5 1 (.slice (some ⟨w.heap.size, 0, none⟩) 32 32) 32 ((List.replicate 32 (0 : Int)).map (.int .u8))) := ⟨by
    have := mk_own w w.heap.size 5 1 32 #[.int .u8 0] (Nat.le_refl _) (by unfold maxLen; omega)
    rw [Nat.mul_one, toList_madeCells_one] at this
    rwa [List.map_replicate]⟩
  have hr0 := Hd.mk (h.al (.cells (madeCells #[.int .u8 0] 32) 5))
  have hG0 := Hd.mk (gb_al (World.grownBy.refl w (some g)) (.cells (madeCells #[.int .u8 0] 32) 5))
  clear h
  go_enter Tryz.func54, Tryz.ntmps54
  go_wp2
  clear hmk
  generalize hmc : madeCells #[.int .u8 0] 32 = mc at *
  clear hmc
  go_loopw [4] (fun s4 wr => ∃ (i : Nat) (bs : List Int), i ≤ 4 ∧ s4 = .int .i64 i ∧ bs.length = 32 ∧ Hd (∀ x ∈ bs, 0 ≤ x ∧ x < 256) ∧ Hd (wr.ownsRow w.heap.size 5 1 (.slice (some ⟨w.heap.size, 0, none⟩) 32 32) 32 (bs.map (.int .u8))) ∧ Hd (RdS lo wr g) ∧ Hd (w.grownBy wr (some g))) (fun s4 _ => 4 - (intOf s4).toNat)
  case atStart => exact ⟨0, List.replicate 32 0, by omega, rfl, rfl, ⟨fun x hx => by rw [(List.mem_replicate.1 hx).2]; omega⟩, ho0, hr0, hG0⟩
  case round =>
    clear ho0 hr0 hG0
    obtain ⟨i, bs, hi, rfl, hl, hb, ho, hr, hG⟩ := hrel
    by_cases hlt : i < 4
    · have hx := s_below lo g 256 wr hr.out (by omega)
      have i1 : (i : Int) < 4 := by omega
      have i2 : (i : Int) < 32 := by omega
      have i0 : (0 : Int) ≤ (i : Int) := by omega
      go_wp2_with fail
      refine hx.mono ?_; rintro e w2 ⟨v, rfl, ⟨q, rfl, q1, q2⟩, hr2, hg2⟩
      have ho2 := own_gb ho.out hg2 (.inr (by simp [Value.ownBlock]; omega))
      obtain ⟨u0, q0⟩ := own_cell ho2 i (by omega)
      have fz := World.ownsRow.frozenAt ho2 i
      have ho2' := Hd.mk ho2
      have hr2' := Hd.mk hr2
      have hG2 := Hd.mk (gb_trans hG.out hg2)
      have hl' := Hd.mk hl
      have hwq : IntKind.u8.wrap q = q := by rw [IntKind.wrap_u8]; omega
      clear hr2 hg2 ho2 hx ho hr hG hl
      go_wp2
      go_roundw
      case rel =>
        refine ⟨i + 1, bs.set i q, by omega, by go_num, by simpa using hl'.out, ⟨fun x hx => ?_⟩, ⟨?_⟩, ⟨hr2'.out.fr (fl := w.heap.size) (gg := w.heap.size) (Fr.set _ _ _ _) hgl (Nat.le_refl _)⟩, ⟨hG2.out.os, hG2.out.tape, hG2.out.output, by rw [setCell_size]; exact hG2.out.size, fun k hk hne => (Below.heap_setCell _ _ _ _ (by show k ≠ w.heap.size; omega)).trans (hG2.out.block k hk hne)⟩⟩
        · rcases List.mem_or_eq_of_mem_set hx with hx | rfl
          · exact hb.out x hx
          · exact ⟨q1, q2⟩
        · rw [List.map_set]
          exact (World.ownsRow.stored ho2'.out i (.int .u8 q)).1
      case measure => simp [intOf]; omega
    · have i1 : ¬ (i : Int) < 4 := by omega
      have hcv := conv_own wr w.heap.size 32 bs (fun j hj => by
        have := World.ownsRow.cellAt ho.out j (by omega)
        rw [this]; simp) (fun j hj => hb.out _ (List.getElem_mem hj)) 32 hl.symm
      have hsz : (toBytes bs).size = 32 := by rw [toBytes_size, hl]
      have hl' := Hd.mk hl
      have hsz' := Hd.mk hsz
      clear hl hsz
      go_wp2
      go_ret
      exact ⟨_, rfl, hsz'.out, hr.out, hG.out⟩
set_option maxHeartbeats 1000000 in
theorem s_near (lo g : Nat) (w : World) (h : RdS lo w g) : Calls Tryz.prog 120 #[.pointer (some ⟨g, 0, none⟩), .int .i64 0, .int .i64 3] w (RetRd lo g AnyI w) := by
  have hx := s_below lo g 8 w h (by omega)
  clear h
  go_enter Tryz.func120, Tryz.ntmps120
  go_wp2_with fail
  refine hx.mono ?_; rintro e w1 ⟨v, rfl, ⟨q, rfl, q1, q2⟩, hr, hg⟩
  have hw := s_word lo g w1 hr
  have hr' := Hd.mk hr
  have hg' := Hd.mk hg
  clear hr hg hx
  by_cases h0 : q = 0
  · subst h0
    go_wp2
    go_ret
    exact ⟨_, rfl, ⟨_, rfl⟩, hr'.out, hg'.out⟩
  have t0 := beqF h0
  by_cases h1 : q = 1
  · subst h1
    go_wp2
    go_ret
    exact ⟨_, rfl, ⟨_, rfl⟩, hr'.out, hg'.out⟩
  have t1 := beqF h1
  go_wp2_with fail
  refine hw.mono ?_; rintro e w2 ⟨v, rfl, ⟨x, rfl⟩, hr2, hg2⟩
  have hr2' := Hd.mk hr2
  have hg2' := Hd.mk (gb_trans hg'.out hg2)
  clear hr2 hg2 hr' hg'
  go_wp2
  go_ret
  exact ⟨_, rfl, ⟨_, rfl⟩, hr2'.out, hg2'.out⟩
set_option maxHeartbeats 1000000 in
theorem s_off (lo g : Nat) (w : World) (h : RdS lo w g) : Calls Tryz.prog 83 #[.pointer (some ⟨g, 0, none⟩), .int .i64 0, .int .i64 3] w (RetRd lo g AnyI w) := by
  have hx := s_once lo g 24 w h (by omega)
  clear h
  go_enter Tryz.func83, Tryz.ntmps83
  go_wp2_with fail
  refine hx.mono ?_; rintro e w1 ⟨v, rfl, ⟨b, rfl⟩, hr, hg⟩
  have hn := s_near lo g w1 hr
  have hr' := Hd.mk hr
  have hg' := Hd.mk hg
  clear hr hg hx
  cases b
  · go_wp2_with fail
    refine hn.mono ?_; rintro e w2 ⟨v, rfl, ⟨x, rfl⟩, hr2, hg2⟩
    have hr2' := Hd.mk hr2
    have hg2' := Hd.mk (gb_trans hg'.out hg2)
    clear hr2 hg2 hr' hg'
    go_wp2
    go_ret
    exact ⟨_, rfl, ⟨_, rfl⟩, hr2'.out, hg2'.out⟩
  · have hgl : g < w1.heap.size := hr'.out.lt
    go_wp2_with fail
    refine (s_below lo g 4 _ (hr'.out.al _) (by omega)).mono ?_; rintro e w2 ⟨v, rfl, ⟨q, rfl, q1, q2⟩, hr2, hg2⟩
    have hbk := hg2.block w1.heap.size (by simp) (fun e => by cases e; omega)
    have hh : w2.heap[w1.heap.size]? = some (.cells #[.int .i64 (-1), .int .i64 4, .int .i64 (-9223372036854775808), .int .i64 9223372036854775807] 2 (0, 0)) := by
      rw [hbk]; exact heap_new _ _ _ _ rfl
    obtain ⟨c1, -⟩ := row_facts hh
    have k0 := c1 0
    have k1 := c1 1
    have k2 := c1 2
    have k3 := c1 3
    simp at k0 k1 k2 k3
    have hr2' := Hd.mk hr2
    have hg2' := Hd.mk (gb_trans (gb_al hg'.out _) hg2)
    clear hr2 hg2 hr' hg' hbk hh c1
    have h4 : q = 0 ∨ q = 1 ∨ q = 2 ∨ q = 3 := by omega
    rcases h4 with rfl | rfl | rfl | rfl
    all_goals
      go_wp2
      go_ret
      exact ⟨_, rfl, ⟨_, rfl⟩, hr2'.out, hg2'.out⟩
open Go.RowKit Go.Deep Go.ChangeShapes Go.WideShapes
section
variable {H : Type} {enc : TypeId × Value → H}
def Op {α : Type} (enc : TypeId × Value → H) (W : World) (t sz : Nat) (K : World → α → List Value → Prop) : Prop := ∀ (n : Nat) (cs : List Value) (y : DataW H × List MemPlace), DataW.trod enc Tryz.prog W 0 (fun _ => true) true n t cs = some y → ∃ x, K W x cs ∧ cs.length = sz
theorem op_slice {α : Type} [Inhabited α] {W : World} {t e sz : Nat} {K : World → α → List Value → Prop} (ht : Tryz.prog.underlying t = some (.slice e)) (hc : Tryz.prog.cellsOf e = sz) (hz : 0 < sz) (hK : Op enc W e sz K) {n : Nat} {cs : List Value} {y : DataW H × List MemPlace} (h : DataW.trod enc Tryz.prog W 0 (fun _ => true) true n t cs = some y) : ∃ v xs, cs = [v] ∧ Rd lw sz K W v xs := by
  rcases open_slice ht h with ⟨rfl, _⟩ | ⟨a, len, cap, m, n', D, Pl, rfl, _, hl, hm, hmm, _, hx⟩
  · exact ⟨_, [], rfl, none, 0, rfl, Nat.le_refl _, Nat.zero_le _, fun _ => rfl, fun h => absurd h (Nat.lt_irrefl _)⟩
  have hlm : len ≤ m := by rw [hmm]; simpa using hl
  clear hmm
  have each : ∀ i, i < m → ∃ x cs', K W x cs' ∧ cs'.length = sz ∧ ∀ j, j < sz → W.cell? ((a.add (i * sz)).add j) = cs'[j]? := fun i hi => by
    obtain ⟨cs', h1, h2⟩ := hx i hi
    rw [hc] at h1
    obtain ⟨_, hlen, hcell⟩ := World.cells?_some h1
    obtain ⟨x, h3, _⟩ := hK _ _ _ h2
    exact ⟨x, cs', h3, hlen, hcell⟩
  obtain ⟨f, hf⟩ := choose_lt each
  refine ⟨_, (List.range len).map f, rfl, some a, cap, by simp, by simpa using hl, by simp; unfold maxLen at hm; show len ≤ 9223372036854775807; omega, (by simp), fun h0 => ?_⟩
  have h0' : 0 < len := by simpa using h0
  obtain ⟨cs0, _, hl0, hc0⟩ := hf 0 (by omega)
  have h00 := hc0 0 hz
  rw [List.getElem?_eq_getElem (by omega)] at h00
  have hsp : a.spot = none := by simpa [Addr.add] using World.cell?_spot h00
  obtain ⟨b, off, sp⟩ := a
  cases hsp
  have hb : b < W.heap.size := by
    unfold World.cell? at h00
    split at h00
    · rename_i hh; rw [add_plain, add_plain] at hh; exact (Array.getElem?_eq_some_iff.1 hh).1
    · cases h00
  refine ⟨b, off, rfl, hb, fun i hi => ?_⟩
  have hi' : i < len := by simpa using hi
  obtain ⟨cs', h1, h2, h3⟩ := hf i (by omega)
  refine ⟨cs', by simpa using h1, h2, fun j hj => ?_⟩
  have := h3 j (by omega)
  rw [List.getElem?_eq_getElem hj] at this
  rw [add_plain, add_plain] at this
  exact this
end
open Go.RowKit Go.ChangeShapes Go.WideShapes
theorem u8_wf {q : Int} (h : (Lit.int .u8 q).wf = true) : 0 ≤ q ∧ q < 256 := by
  have e1 : IntKind.u8.min = 0 := by decide
  have e2 : IntKind.u8.max = 255 := by decide
  have h' : (decide (IntKind.u8.min ≤ q) && decide (q ≤ IntKind.u8.max)) = true := h
  rw [e1, e2, Bool.and_eq_true, decide_eq_true_eq, decide_eq_true_eq] at h'
  omega
theorem op_byte {H : Type} {enc : TypeId × Value → H} {W : World} : Op enc W 5 1 KB := fun n cs y h => by
  obtain ⟨q, rfl, _, hw⟩ := DataW.trod_int Tryz.underlying5 h
  obtain ⟨q1, q2⟩ := u8_wf hw
  exact ⟨q, ⟨rfl, q1, q2⟩, rfl⟩
theorem cells_byte : Tryz.prog.cellsOf 5 = 1 := by kernel_rfl
theorem op_bytes {H : Type} {enc : TypeId × Value → H} {W : World} {n : Nat} {cs : List Value} {y : DataW H × List MemPlace} (h : DataW.trod enc Tryz.prog W 0 (fun _ => true) true n 22 cs = some y) : ∃ v xs, cs = [v] ∧ Rd lw 1 KB W v xs := op_slice Tryz.underlying22 cells_byte (by omega) op_byte h
end Go.Proofs.YtkcgejbnhpccdaaGreat
