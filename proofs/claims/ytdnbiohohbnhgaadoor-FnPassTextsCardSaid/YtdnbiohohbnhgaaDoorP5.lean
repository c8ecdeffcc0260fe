/- Passes that are written as a text are read again, and what was read is written as it was: plain laws on bytes. No conditions. -/
import Derived.Test.YtdnbiohohbnhgaaDoorW5
set_option linter.unusedSimpArgs false
set_option linter.unusedVariables false
namespace Go.Proofs.YtdnbiohohbnhgaaDoor
open Go.RowKit
/-- Parts with commas between. -/
def joinB (ws : List ByteArray) : ByteArray := ⟨(Lib.join (ws.map (·.data.toList)) comma.data.toList).toArray⟩
theorem textOf_join (l : List Int) : textOf l = joinB (l.map wordOf) := rfl
theorem joinB_one (x : ByteArray) : joinB [x] = x := by apply bytes_ext; simp [joinB, Lib.join_one]
theorem joinB_cons (x y : ByteArray) (r : List ByteArray) : joinB (x :: y :: r) = x ++ comma ++ joinB (y :: r) := by
  apply bytes_ext
  simp [joinB, Lib.join_cons, Lib.joinTail]
theorem parts_ne (s : ByteArray) : ∃ y r, parts s = y :: r := by
  rw [parts_cut]; exact ⟨_, _, rfl⟩
theorem join_parts (s : ByteArray) : joinB (parts s) = s := by
  suffices h : ∀ n (s : ByteArray), s.size ≤ n → joinB (parts s) = s from h _ s (Nat.le_refl _)
  intro n
  induction n with
  | zero =>
    intro s hs
    rcases index_comma s with ⟨h, _⟩ | ⟨i, h, hi, _⟩
    · rw [parts_miss s h, joinB_one]
    · omega
  | succ n ih =>
    intro s hs
    rcases index_comma s with ⟨h, _⟩ | ⟨i, h, hi, h44, _⟩
    · rw [parts_miss s h, joinB_one]
    · have hr := ih (s.extract (i + 1) s.size) (by simp; omega)
      rw [parts_hit s i h]
      obtain ⟨y, r, e⟩ := parts_ne (s.extract (i + 1) s.size)
      rw [e] at hr ⊢
      rw [joinB_cons, hr]
      apply bytes_ext
      have hl : i < s.data.toList.length := by simpa using hi
      have e1 : (s.extract 0 i).data.toList = s.data.toList.take i := by simp [ByteArray.data_extract]
      have e2 : (s.extract (i + 1) s.size).data.toList = s.data.toList.drop (i + 1) := by
        rw [ByteArray.data_extract, Array.toList_extract]
        simp [List.extract]
        rw [List.take_of_length_le]; simp
      have e3 : comma.data.toList = [s.data.toList[i]] := by
        show [44] = [s[i]]
        rw [h44]
      rw [ByteArray.data_append, ByteArray.data_append, Array.toList_append, Array.toList_append, e1, e2, e3]
      rw [List.append_assoc, List.singleton_append, ← List.drop_eq_getElem_cons hl, List.take_append_drop]
def NoComma (x : ByteArray) : Prop := ∀ j (h : j < x.size), x[j] ≠ 44
theorem parts_join : ∀ (r : List ByteArray) (x : ByteArray), NoComma x → (∀ y ∈ r, NoComma y) → parts (joinB (x :: r)) = x :: r
  | [], x, hx, _ => by
    rw [joinB_one]
    rcases index_comma x with ⟨h, _⟩ | ⟨i, h, hi, h44, _⟩
    · exact parts_miss x h
    · exact absurd h44 (hx i hi)
  | y :: r, x, hx, hr => by
    have ih := parts_join r y (hr y (List.mem_cons_self ..)) fun z hz => hr z (List.mem_cons_of_mem _ hz)
    rw [joinB_cons]
    generalize joinB (y :: r) = t at *
    have hsz : (x ++ comma ++ t).size = x.size + 1 + t.size := by rw [ByteArray.size_append, ByteArray.size_append]; rfl
    have hat : ∀ j (h : j < (x ++ comma ++ t).size), j < x.size + 1 → (x ++ comma ++ t)[j] = if h : j < x.size then x[j] else 44 := fun j h hj => by
      rw [ByteArray.getElem_append_left (by rw [ByteArray.size_append]; exact hj)]
      split
      · rename_i h'; rw [ByteArray.getElem_append_left h']
      · rename_i h'
        rw [ByteArray.getElem_append_right (by omega)]
        have : j - x.size = 0 := by omega
        simp only [this]; rfl
    have hix : ∃ h : x.size < (x ++ comma ++ t).size, (x ++ comma ++ t)[x.size] = 44 := ⟨by omega, by rw [hat x.size (by omega) (by omega), dif_neg (by omega)]⟩
    have hidx : Lib.indexB (x ++ comma ++ t) comma = (x.size : Nat) := by
      rcases index_comma (x ++ comma ++ t) with ⟨h, hno⟩ | ⟨i, h, hi, h44, hno⟩
      · exact absurd hix.2 (hno _ hix.1)
      · rcases Nat.lt_trichotomy i x.size with hlt | rfl | hgt
        · rw [hat i hi (by omega), dif_pos hlt] at h44
          exact absurd h44 (hx i hlt)
        · exact h
        · exact absurd hix.2 (hno _ hgt)
    rw [parts_hit _ _ hidx]
    congr 1
    · apply bytes_ext
      simp [ByteArray.data_extract]
      exact List.take_of_length_le (by simp)
    · have : (x ++ comma ++ t).extract (x.size + 1) (x ++ comma ++ t).size = t := by
        apply bytes_ext
        have hc : (x ++ comma).data.size = x.size + 1 := by rw [ByteArray.data_append, Array.size_append]; rfl
        rw [ByteArray.data_extract, ByteArray.data_append, ← hc, hsz]
        rw [Array.toList_extract, Array.toList_append, List.extract_eq_take_drop]
        rw [List.drop_left' (by simp)]
        rw [List.take_of_length_le]
        simp only [Array.length_toList]
        have h1 : (x ++ comma).data.size = x.size + 1 := hc
        have h2 : t.data.size = t.size := rfl
        omega
      rw [this]; exact ih
theorem idxW_word (p : Int) (h1 : 1 ≤ p) (h9 : p ≤ 9) : idxW (wordOf p) = p - 1 := by
  obtain ⟨j, rfl⟩ : ∃ j : Nat, p = (j : Int) + 1 := ⟨(p - 1).toNat, by omega⟩
  have hj : j < 9 := by omega
  have hl : j < words9.length := hj
  have := (idxW_iff words9[j] j hj).1 (List.getElem?_eq_getElem hl)
  have e : wordOf ((j : Int) + 1) = words9[j] := by
    unfold wordOf
    rw [show ((j : Int) + 1 - 1).toNat = j by omega, List.getD_eq_getElem?_getD, List.getElem?_eq_getElem hl]; rfl
  rw [e, this]; omega
theorem word_idxW (x : ByteArray) (h : 0 ≤ idxW x) : wordOf (idxW x + 1) = x := by
  rcases idxW_rng x with h' | ⟨_, h9⟩
  · omega
  · obtain ⟨j, hj⟩ : ∃ j : Nat, idxW x = j := ⟨(idxW x).toNat, by omega⟩
    have := (idxW_iff x j (by omega)).2 hj
    unfold wordOf
    rw [hj, show ((j : Int) + 1 - 1).toNat = j by omega, List.getD_eq_getElem?_getD, this]; rfl
theorem pOf_words : ∀ (l out : List Int), (∀ p ∈ l, 1 ≤ p ∧ p ≤ 9) → out.length + l.length ≤ 12 → pOf (l.map wordOf) out = some (out ++ l)
  | [], out, _, _ => by simp [pOf]
  | p :: l, out, h, hl => by
    have hp := h p (List.mem_cons_self ..)
    simp only [List.length_cons] at hl
    rw [List.map_cons, pOf_cons, idxW_word p hp.1 hp.2, if_neg (by omega), pOf_words l _ (fun q hq => h q (List.mem_cons_of_mem _ hq)) (by simp; omega)]
    simp
theorem pOf_inv : ∀ (ws : List ByteArray) (out r : List Int), out.length ≤ 12 → pOf ws out = some r → ∃ l, r = out ++ l ∧ ws = l.map wordOf ∧ (∀ p ∈ l, 1 ≤ p ∧ p ≤ 9) ∧ r.length ≤ 12
  | [], out, r, h, e => by
    cases e
    exact ⟨[], by simp, rfl, by simp, h⟩
  | x :: ws, out, r, h, e => by
    rw [pOf_cons] at e
    split at e
    · cases e
    · rename_i hn
      obtain ⟨l, rfl, rfl, h1, h2⟩ := pOf_inv ws _ r (by simp; omega) e
      have hx := idxW_rng x
      refine ⟨(idxW x + 1) :: l, by simp, ?_, ?_, h2⟩
      · rw [List.map_cons, word_idxW x (by omega)]
      · intro p hp
        rcases List.mem_cons.1 hp with rfl | hp
        · omega
        · exact h1 p hp
theorem word_nc (p : Int) : NoComma (wordOf p) := by
  unfold wordOf
  generalize (p - 1).toNat = i
  have key : ∀ x : ByteArray, x.data.toList.all (· != 44) = true → NoComma x := fun x hx j hj e => by
    have := List.all_eq_true.1 hx x[j] (by
      show x.data.toList[j] ∈ _
      exact List.getElem_mem _)
    simp [e] at this
  match i with
  | 0 | 1 | 2 | 3 | 4 | 5 | 6 | 7 | 8 => exact key _ (by decide)
  | n + 9 => rw [List.getD_eq_getElem?_getD, List.getElem?_eq_none (by show 9 ≤ n + 9; omega)]; exact key _ (by decide)
theorem okP_iff (l : List Int) : okP l = true ↔ l.length ≤ 12 ∧ ∀ p ∈ l, 1 ≤ p ∧ p ≤ 9 := by
  unfold okP inR
  simp
/-- A text that is not empty is read as what it was written of. -/
theorem text_read (l : List Int) (h : ¬ (passText l).size = 0) : passesOf (passText l) = some l := by
  unfold passText at *
  split at h
  · rename_i hok
    rw [if_pos hok]
    obtain ⟨h12, hin⟩ := (okP_iff l).1 hok
    unfold passesOf
    rw [if_neg h]
    cases l with
    | nil => exact absurd rfl h
    | cons p r =>
      rw [textOf_join, List.map_cons, parts_join _ _ (word_nc p) (fun y hy => by obtain ⟨q, _, rfl⟩ := List.mem_map.1 hy; exact word_nc q), ← List.map_cons]
      rw [pOf_words _ _ hin (by simpa using h12)]
      rfl
  · exact absurd rfl h
/-- What was read, written again, is the text. -/
theorem read_text (t : ByteArray) (x : List Int) (h : passesOf t = some x) : passText x = t := by
  unfold passesOf at h
  split at h
  · rename_i h0
    cases h
    show (⟨#[]⟩ : ByteArray) = t
    apply bytes_ext
    have : t.data.toList.length = 0 := by simpa using h0
    rw [List.eq_nil_of_length_eq_zero this]
  · obtain ⟨l, rfl, hw, hin, h12⟩ := pOf_inv _ _ _ (by simp) h
    try rw [List.nil_append] at h12
    try rw [List.nil_append]
    unfold passText
    rw [if_pos ((okP_iff _).2 ⟨h12, hin⟩), textOf_join, ← hw, join_parts]
end Go.Proofs.YtdnbiohohbnhgaaDoor
