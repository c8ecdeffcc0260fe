/- Contracts of the laws' functions that mark and look again at a row of numbers. No conditions. -/
import Derived.Test.YtdnbiohohbnhgaaDoorB3
set_option linter.unusedSimpArgs false
set_option linter.unusedVariables false
namespace Go.Proofs.YtdnbiohohbnhgaaDoor
open Go.RowKit
/-! ### a row of numbers is marked -/
def marks (k : Int) (n : Nat) : List Value := (List.range n).map fun (i : Nat) => .int .i64 (k + (i : Int))
theorem marks_len (k : Int) (n : Nat) : (marks k n).length = n := by simp [marks]
theorem marks_snoc (k : Int) (n : Nat) : marks k (n + 1) = marks k n ++ [.int .i64 (k + n)] := by simp [marks, List.range_succ]
theorem setAll_snoc {G : Nat} (us : List Value) (u : Value) : ∀ (w : World) (o : Nat), setAll w G o (us ++ [u]) = (setAll w G o us).setCell ⟨G, o + us.length, none⟩ u := by
  induction us with
  | nil => intro w o; rfl
  | cons x r ih => intro w o; simp only [List.cons_append, setAll, ih, List.length_cons]; rw [show o + 1 + r.length = o + (r.length + 1) by omega]
/-- A row of numbers that may be written. -/
def Wr (w : World) (A : Option Addr) (n : Nat) : Prop := 0 < n → ∃ (b : Nat) (arr : Array Value) (e : TypeId), A = some ⟨b, 0, none⟩ ∧ w.heap[b]? = some (.cells arr e (0, 0)) ∧ ∀ i, i < n → ∃ a : Int, arr[i]? = some (.int .i64 a)
def blk : Option Addr → Nat
  | some a => a.block
  | none => 0
theorem setAll_heap {G e : Nat} (us : List Value) : ∀ (w : World) (o : Nat) (arr : Array Value), w.heap[G]? = some (.cells arr e (0, 0)) → ∃ arr' : Array Value, (setAll w G o us).heap[G]? = some (.cells arr' e (0, 0)) ∧ ∀ i : Nat, arr'.toList[i]? = (setL arr.toList o us)[i]? := by
  induction us with
  | nil => intro w o arr h; exact ⟨arr, h, fun _ => rfl⟩
  | cons u r ih =>
    intro w o arr h
    obtain ⟨arr', h1, h2⟩ := ih (w.setCell ⟨G, o, none⟩ u) (o + 1) _ (heap_set h)
    exact ⟨arr', h1, fun i => by rw [h2]; simp [setL]⟩
theorem chg_setAll {lo hi G : Nat} (hG : lo ≤ G ∧ G < hi) (is : List Int) : ∀ (w : World) (o : Nat) (arr : Array Value) (e : TypeId), w.heap[G]? = some (.cells arr e (0, 0)) → (∀ i, i < is.length → ∃ a : Int, arr[o + i]? = some (.int .i64 a)) → Chg lo hi w (setAll w G o (is.map (Value.int .i64))) := by
  induction is with
  | nil => intro w o arr e _ _; exact Chg.refl _ _ _
  | cons u r ih =>
    intro w o arr e h ha
    obtain ⟨a, ha0⟩ := ha 0 (by simp)
    refine (Chg.setCell (i' := u) h hG ha0).trans (ih _ (o + 1) _ e (heap_set h) fun i hi => ?_)
    obtain ⟨a', ha'⟩ := ha (i + 1) (by simp; omega)
    exact ⟨a', by rw [Array.getElem?_setIfInBounds, if_neg (by omega), show o + 1 + i = o + (i + 1) by omega]; exact ha'⟩
set_option maxHeartbeats 1000000 in
theorem m_I (A : Option Addr) (n c : Nat) (k : Int) (w : World) (hl : n ≤ 1048576) (h : Wr w A n) (h0 : 0 ≤ k) (h1 : k ≤ 1099511627776) :
    Calls Tryd.prog 9 #[.slice A n c, .int .i64 k] w (fun e w' => e = .returned (.int .i64 (k + n)) ∧ w' = setAll w (blk A) 0 (marks k n)) := by
  have h' := Hd.mk h
  clear h
  go_enter Tryd.func9, Tryd.ntmps9
  go_wp2
  go_loopw [1, 5] (fun s1 s3 wr => ∃ j : Nat, j ≤ n ∧ s3 = .int .i64 j ∧ s1 = .int .i64 (k + j) ∧ Hd (wr = setAll w (blk A) 0 (marks k j))) (fun _ s3 _ => n - (intOf s3).toNat)
  case atStart => exact ⟨0, Nat.zero_le _, rfl, by simp, ⟨rfl⟩⟩
  case round =>
    obtain ⟨j, hj, rfl, rfl, hr⟩ := hrel
    by_cases hlt : j < n
    · obtain ⟨b, arr, e, rfl, hh, ha⟩ := h'.out (by omega)
      obtain ⟨arr', h2, h3⟩ := setAll_heap (marks k j) w 0 arr hh
      obtain ⟨a, ha0⟩ := ha j hlt
      have h4 := h3 j
      rw [setL_out _ _ _ _ (by rw [marks_len]; omega), Array.getElem?_toList, Array.getElem?_toList, ha0] at h4
      have hq := Hd.mk (setAll_snoc (G := b) (marks k j) (.int .i64 (k + j)) w 0)
      obtain ⟨he, hf⟩ := row_facts h2
      have hr1 : wr = setAll w b 0 (marks k j) := hr.out
      rw [← hr1] at he hf
      replace he := (he j).trans h4
      replace hf := hf j
      clear h2 h3 h4 hr1 ha ha0 hh
      have hw : IntKind.i64.wrap (k + j) = k + j := IntWalk.i64_in _ (by omega)
      go_wp2
      go_roundw
      case rel =>
        refine ⟨j + 1, by omega, by go_num, by go_num, ⟨?_⟩⟩
        have := hq.out
        rw [marks_snoc]
        show _ = setAll w b 0 _
        rw [this, marks_len, Nat.zero_add, hr.out]
        rfl
      case measure => simp [intOf]; omega
    · have e : j = n := by omega
      subst e
      go_wp2
      go_ret
      exact ⟨rfl, hr.out⟩
/-- What is marked: numbers for numbers. -/
def RetC (lo hi : Nat) (k : Int) (w : World) (e : Ending) (w' : World) : Prop := e = .returned (.int .i64 k) ∧ Chg lo hi w w'
theorem m_S (lo hi : Nat) (v : Value) (xs : List Int) (k : Int) (w : World) (h : SlI lo hi w v xs) (h0 : 0 ≤ k) (h1 : k ≤ 1099511627776) :
    Calls Tryd.prog 9 #[v, .int .i64 k] w (RetC lo hi (k + xs.length) w) := by
  obtain ⟨A, c, rfl, -, hl, hh⟩ := h.sh
  refine (m_I A xs.length c k w hl (fun h0 => ?_) h0 h1).mono ?_
  · obtain ⟨b, arr, e, cs, rfl, _, _, h2, _⟩ := hh.out.at_ 0 h0
    refine ⟨b, arr, e, rfl, h2, fun i hi => ?_⟩
    obtain ⟨b', arr', e', cs, hb, _, _, h2', ⟨a, rfl⟩, _, h3⟩ := hh.out.at_ i hi
    cases hb
    obtain ⟨rfl, rfl⟩ : arr' = arr ∧ e' = e := by rw [h2] at h2'; cases h2'; exact ⟨rfl, rfl⟩
    exact ⟨a, by simpa using h3 0 _ rfl⟩
  · rintro e w1 ⟨rfl, rfl⟩
    refine ⟨rfl, ?_⟩
    by_cases hz : xs.length = 0
    · rw [hz]; exact Chg.refl _ _ _
    · obtain ⟨b, arr, e, cs, rfl, hb1, hb2, h2, _⟩ := hh.out.at_ 0 (by omega)
      have := chg_setAll ⟨hb1, hb2⟩ ((List.range xs.length).map fun (i : Nat) => k + (i : Int)) w 0 arr e h2 (fun i hi => by
        have hi' : i < xs.length := by simpa using hi
        obtain ⟨b', arr', e', cs, hb, _, _, h2', ⟨a, rfl⟩, _, h3⟩ := hh.out.at_ i hi'
        cases hb
        obtain ⟨rfl, rfl⟩ : arr' = arr ∧ e' = e := by rw [h2] at h2'; cases h2'; exact ⟨rfl, rfl⟩
        exact ⟨a, by simpa using h3 0 _ rfl⟩)
      rw [List.map_map] at this
      exact this
/-- A row that holds the marks. -/
def Hld (w : World) (A : Option Addr) (n : Nat) (k : Int) : Prop := 0 < n → ∃ (b : Nat) (arr : Array Value) (e : TypeId), A = some ⟨b, 0, none⟩ ∧ w.heap[b]? = some (.cells arr e (0, 0)) ∧ ∀ i, i < n → arr[i]? = some (.int .i64 (k + i))
theorem Wr.held {w : World} {A : Option Addr} {n : Nat} (h : Wr w A n) (k : Int) : Hld (setAll w (blk A) 0 (marks k n)) A n k := fun h0 => by
  obtain ⟨b, arr, e, rfl, h1, h2⟩ := h h0
  obtain ⟨arr', h3, h4⟩ := setAll_heap (marks k n) w 0 arr h1
  refine ⟨b, arr', e, rfl, h3, fun i hi => ?_⟩
  obtain ⟨a, ha⟩ := h2 (n - 1) (by omega)
  have hs := (Array.getElem?_eq_some_iff.1 ha).1
  have h5 := h4 i
  rw [← Nat.zero_add i, setL_in _ _ _ _ (by rw [marks_len]; exact hi) (by rw [marks_len]; simp; omega)] at h5
  rw [← Array.getElem?_toList, ← Nat.zero_add i, h5]
  simp [marks, hi]
theorem Hld.mv {w w' : World} {A : Option Addr} {n : Nat} {k : Int} (h : Hld w A n k) (hb : Below w.heap.size w w') : Hld w' A n k := fun h0 => by
  obtain ⟨b, arr, e, rfl, h1, h2⟩ := h h0
  exact ⟨b, arr, e, rfl, (hb.block b (Array.getElem?_eq_some_iff.1 h1).1).trans h1, h2⟩
set_option maxHeartbeats 1000000 in
theorem h_I (A : Option Addr) (n c : Nat) (k : Int) (w : World) (hl : n ≤ 1048576) (h : Hld w A n k) (h0 : 0 ≤ k) (h1 : k ≤ 1099511627776) :
    Calls Tryd.prog 10 #[.slice A n c, .int .i64 k] w (Ret (.int .i64 (k + n)) w) := by
  have h' := Hd.mk h
  clear h
  go_enter Tryd.func10, Tryd.ntmps10
  go_wp2
  go_loopw [1, 5] (fun s1 s3 wr => ∃ j : Nat, j ≤ n ∧ s3 = .int .i64 j ∧ s1 = .int .i64 (k + j) ∧ Hd (Below w.heap.size w wr)) (fun _ s3 _ => n - (intOf s3).toNat)
  case atStart => exact ⟨0, Nat.zero_le _, rfl, by simp, ⟨Below.refl _ _⟩⟩
  case round =>
    obtain ⟨j, hj, rfl, rfl, hr⟩ := hrel
    by_cases hlt : j < n
    · obtain ⟨b, arr, e, rfl, hh, ha⟩ := h'.out (by omega)
      obtain ⟨he, hf⟩ := row_facts ((hr.out.block b (Array.getElem?_eq_some_iff.1 hh).1).trans hh)
      replace he := (he j).trans (ha j hlt)
      clear ha hf hh
      have hw : IntKind.i64.wrap (k + j) = k + j := IntWalk.i64_in _ (by omega)
      have ht : ((k + (j : Int)) != (k + (j : Int))) = false := by simp
      go_wp2
      go_roundw
      case rel => exact ⟨j + 1, by omega, by go_num, by go_num, hr⟩
      case measure => simp [intOf]; omega
    · have e : j = n := by omega
      subst e
      go_wp2
      go_ret
      exact ⟨rfl, hr.out⟩
end Go.Proofs.YtdnbiohohbnhgaaDoor
