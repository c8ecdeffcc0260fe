import Derived.Test.YtkcgejbnhpccdaaGreatP01
set_option linter.unusedSimpArgs false
set_option linter.unusedVariables false
namespace Go.Proofs.YtkcgejbnhpccdaaGreat
open Go.RowKit
def setL (cells : List Value) : Nat → List Value → List Value
  | _, [] => cells
  | o, u :: r => setL (cells.set o u) (o + 1) r
theorem setL_out (us : List Value) : ∀ (cells : List Value) (o i : Nat), i < o ∨ o + us.length ≤ i → (setL cells o us)[i]? = cells[i]? := by
  induction us with
  | nil => intro cells o i _; rfl
  | cons u r ih =>
    intro cells o i h
    simp only [List.length_cons] at h
    rw [setL, ih _ _ _ (by omega), List.getElem?_set_ne (by omega)]
theorem setL_in (us : List Value) : ∀ (cells : List Value) (o j : Nat), j < us.length → o + us.length ≤ cells.length → (setL cells o us)[o + j]? = us[j]? := by
  induction us with
  | nil => intro cells o j h; simp at h
  | cons u r ih =>
    intro cells o j h hl
    simp only [List.length_cons] at h hl
    rw [setL]
    cases j with
    | zero =>
      rw [setL_out _ _ _ _ (by omega), Nat.add_zero, List.getElem?_set_self (by omega)]
      rfl
    | succ j =>
      rw [show o + (j + 1) = (o + 1) + j by omega, ih _ _ _ (by omega) (by simp; omega)]
      simp
def Els {α : Type} (sz : Nat) (K : α → List Value → Prop) (cells : List Value) (xs : List α) (k : Nat) : Prop :=
  ∀ i (h : i < xs.length), i < k → ∃ cs, K xs[i] cs ∧ cs.length = sz ∧ ∀ j, j < sz → cells[i * sz + j]? = cs[j]?
def Own {α : Type} (lo e sz : Nat) (K : World → α → List Value → Prop) (w : World) (v : Value) (xs : List α) : Prop :=
  ∃ cells, w.ownsRow lo e sz v xs.length cells ∧ Els sz (K w) cells xs xs.length
theorem Els.imp {α : Type} {sz : Nat} {K K' : α → List Value → Prop} {cells : List Value} {xs : List α} {k : Nat} (h : Els sz K cells xs k) (hk : ∀ x cs, K x cs → K' x cs) : Els sz K' cells xs k :=
  fun i hi hik => by obtain ⟨cs, h1, h2⟩ := h i hi hik; exact ⟨cs, hk _ _ h1, h2⟩
theorem Els.set {α : Type} {sz : Nat} {K : α → List Value → Prop} {cells : List Value} {xs : List α} {k : Nat} (h : Els sz K cells xs k) (hk : k < xs.length) (us : List Value) (hu : us.length = sz) (hK : K xs[k] us) (hl : cells.length = xs.length * sz) : Els sz K (setL cells (k * sz) us) xs (k + 1) := by
  intro i hi hik
  by_cases e : i = k
  · subst e
    refine ⟨us, hK, hu, fun j hj => setL_in us cells _ j (by omega) ?_⟩
    have : (i + 1) * sz ≤ xs.length * sz := Nat.mul_le_mul_right _ (by omega)
    rw [Nat.add_mul] at this
    omega
  · obtain ⟨cs, h1, h2, h3⟩ := h i hi (by omega)
    refine ⟨cs, h1, h2, fun j hj => ?_⟩
    have : (i + 1) * sz ≤ k * sz := Nat.mul_le_mul_right _ (by omega)
    rw [Nat.add_mul] at this
    rw [setL_out us cells _ _ (by omega)]
    exact h3 j hj
theorem Own.mv {α : Type} {lo e sz : Nat} {K : World → α → List Value → Prop} [KM K] {w w' : World} {v : Value} {xs : List α} (h : Own lo e sz K w v xs) (hb : Below w.heap.size w w') : Own lo e sz K w' v xs := by
  obtain ⟨cells, h1, h2⟩ := h
  exact ⟨cells, own_mv h1 hb, h2.imp fun _ _ hk => KM.mv hk hb⟩
theorem Own.rd {α : Type} {L lo e sz : Nat} {K K' : World → α → List Value → Prop} {w : World} {v : Value} {xs : List α} (h : Own lo e sz K w v xs) (hk : ∀ x cs, K w x cs → K' w x cs) (hL : xs.length ≤ L) : Rd L sz K' w v xs := by
  obtain ⟨cells, h1, h2⟩ := h
  obtain ⟨A, c, rfl, hc, hl, hz, hat⟩ := own_shape h1
  refine ⟨A, c, rfl, hc, hL, hz, fun h0 => ?_⟩
  obtain ⟨b, rfl, hb, hat⟩ := hat h0
  refine ⟨b, 0, rfl, hb, fun i hi => ?_⟩
  obtain ⟨cs, k1, k2, k3⟩ := h2 i hi hi
  refine ⟨cs, hk _ _ k1, k2, fun j hj => ?_⟩
  rw [show 0 + i * sz + j = i * sz + j by omega]
  refine hat _ _ ?_
  rw [k3 j (by omega)]
  exact List.getElem?_eq_getElem hj
theorem Own.ints {lo : Nat} {w : World} {v : Value} {xs : List Int} (h : w.ownsRow lo 2 1 v xs.length (xs.map (Value.int .i64))) : Own lo 2 1 KInt w v xs :=
  ⟨_, h, fun i hi _ => ⟨_, rfl, rfl, fun j hj => by
    obtain rfl : j = 0 := by omega
    simp [hi]⟩⟩
theorem Els.nil {α : Type} (sz : Nat) (K : α → List Value → Prop) (cells : List Value) (xs : List α) : Els sz K cells xs 0 := fun i _ h => absurd h (Nat.not_lt_zero i)
theorem row_facts {w : World} {b e : Nat} {arr : Array Value} (h : w.heap[b]? = some (.cells arr e (0, 0))) : (∀ o, w.cell? ⟨b, o, none⟩ = arr[o]?) ∧ ∀ o, w.frozen? ⟨b, o, none⟩ = false :=
  ⟨fun o => by simp [World.cell?, h], fun o => by simp [World.frozen?, h]⟩
theorem heap_new (w : World) (arr : Array Value) (e b : Nat) (hb : b = w.heap.size) : (w.alloc (.cells arr e)).heap[b]? = some (.cells arr e (0, 0)) := by
  subst hb
  show (w.heap.push _)[w.heap.size]? = _
  simp
theorem heap_old {w : World} {o : Obj} {b : Nat} {x : Option Obj} (h : w.heap[b]? = x) (hb : b < w.heap.size) : (w.alloc o).heap[b]? = x := (Below.heap_alloc w o b hb).trans h
theorem heap_set {w : World} {b e j : Nat} {arr : Array Value} {u : Value} (h : w.heap[b]? = some (.cells arr e (0, 0))) : (w.setCell ⟨b, j, none⟩ u).heap[b]? = some (.cells (arr.setIfInBounds j u) e (0, 0)) := heap_setCell_same w b j arr e u h
theorem heap_off {w : World} {b g j : Nat} {u : Value} {x : Option Obj} (h : w.heap[b]? = x) (hne : b ≠ g) : (w.setCell ⟨g, j, none⟩ u).heap[b]? = x := (Below.heap_setCell w ⟨g, j, none⟩ u b hne).trans h
structure Abv (lo : Nat) (w w' : World) : Prop where
  size : w.heap.size ≤ w'.heap.size
  block : ∀ b, lo ≤ b → b < w.heap.size → w'.heap[b]? = w.heap[b]?
theorem Abv.refl (lo : Nat) (w : World) : Abv lo w w := ⟨Nat.le_refl _, fun _ _ _ => rfl⟩
theorem Abv.trans {lo : Nat} {a b c : World} (h : Abv lo a b) (k : Abv lo b c) : Abv lo a c := ⟨Nat.le_trans h.size k.size, fun i h1 h2 => (k.block i h1 (Nat.lt_of_lt_of_le h2 h.size)).trans (h.block i h1 h2)⟩
theorem Abv.setCell {lo : Nat} {a w : World} (h : Abv lo a w) {p : Addr} (hp : p.block < lo) (u : Value) : Abv lo a (w.setCell p u) :=
  h.trans ⟨by simp [World.setCell], fun b h1 _ => Below.heap_setCell w p u b (by omega)⟩
theorem Abv.below {lo : Nat} {a w w' : World} (h : Abv lo a w) (hb : Below w.heap.size w w') : Abv lo a w' := h.trans ⟨hb.size, fun b _ h2 => hb.block b h2⟩
theorem Abv.alloc {lo : Nat} {a w : World} (h : Abv lo a w) (o : Obj) : Abv lo a (w.alloc o) := h.below ((Below.refl _ _).al (Nat.le_refl _) o)
theorem own_abv {lo base e sz n : Nat} {w w' : World} {v : Value} {cs : List Value} (h : w.ownsRow base e sz v n cs) (hl : lo ≤ base) (hb : Abv lo w w') : w'.ownsRow base e sz v n cs := by
  refine ⟨h.1, ?_⟩
  rcases h.2 with h' | ⟨g, cap, cur, hv, h1, h2, h3⟩
  · exact .inl h'
  · exact .inr ⟨g, cap, cur, hv, h1, (hb.block g (by omega) (Array.getElem?_eq_some_iff.1 h2).1).trans h2, h3⟩
def OInt (_ : Nat) (_ : World) (x : Int) (cs : List Value) : Prop := cs = [.int .i64 x]
abbrev OwI (lo : Nat) (w : World) (v : Value) (xs : List Int) : Prop := Own lo 2 1 (OInt lo) w v xs
theorem OwI.of {lo : Nat} {w : World} {v : Value} {xs : List Int} (h : w.ownsRow lo 2 1 v xs.length (xs.map (Value.int .i64))) : OwI lo w v xs := Own.ints h
def sub (left : Int) (n : Nat) : Int := if left < n then -1 else left - n
abbrev lw : Nat := 9223372036854775807
theorem Rd.nar {α : Type} {L L' sz : Nat} {K K' : World → α → List Value → Prop} {w : World} {v : Value} {xs : List α} (h : Rd L sz K w v xs) (hl : xs.length ≤ L') (hk : ∀ x, x ∈ xs → ∀ cs, K w x cs → K' w x cs) : Rd L' sz K' w v xs := by
  obtain ⟨A, c, rfl, h1, h2, hz, h3⟩ := h
  refine ⟨A, c, rfl, h1, hl, hz, fun h0 => ?_⟩
  obtain ⟨b, off, rfl, hlt, hat⟩ := h3 h0
  refine ⟨b, off, rfl, hlt, fun i hi => ?_⟩
  obtain ⟨cs, hk1, hl, hc⟩ := hat i hi
  exact ⟨cs, hk _ (List.getElem_mem hi) _ hk1, hl, hc⟩
theorem OwI.rd {lo : Nat} {w : World} {v : Value} {xs : List Int} (h : OwI lo w v xs) (hl : xs.length ≤ lm) : RI lm w v xs := Own.rd h (fun _ _ hk => hk) hl
def placeIn : List XBlock → Int → Int → Int → Int × Int
  | [], _, _, _ => (-2, 0)
  | x :: r, b, n, id => if id < n + sizeB x then (b, id - n) else placeIn r (b + 1) (n + sizeB x) id
def placeOf (f : XFunc) (id : Int) : Int × Int :=
  if isIdB (countOf f) id then (if id < f.params.length then (-1, id) else placeIn f.blocks 0 f.params.length id) else (-2, 0)
theorem placeOf_eq (f : XFunc) (id : Int) : placeOf f id = if isIdB (countOf f) id then (if id < f.params.length then (-1, id) else placeIn f.blocks 0 f.params.length id) else (-2, 0) := rfl
theorem placeIn_drop (l : List XBlock) (k : Nat) (h : k < l.length) (n id : Int) : placeIn (l.drop k) k n id = if id < n + sizeB l[k] then ((k : Int), id - n) else placeIn (l.drop (k + 1)) ((k + 1 : Nat) : Int) (n + sizeB l[k]) id := by
  rw [List.drop_eq_getElem_cons h]; simp [placeIn]
theorem placeIn_spec (l : List XBlock) : ∀ (b0 n id : Int), 0 ≤ b0 → n ≤ id → (placeIn l b0 n id = (-2, 0) ∧ countIn n l ≤ id) ∨
    ∃ k, ∃ h : k < l.length, placeIn l b0 n id = (b0 + k, id - countIn n (l.take k)) ∧ countIn n (l.take k) ≤ id ∧ id < countIn n (l.take k) + sizeB l[k] := by
  induction l with
  | nil => intro b0 n id _ h; left; exact ⟨rfl, by simpa [countIn] using h⟩
  | cons x r ih =>
    intro b0 n id hb hn
    unfold placeIn
    by_cases h : id < n + sizeB x
    · right; refine ⟨0, by simp, ?_, ?_, ?_⟩
      · rw [if_pos h]; simp [countIn]
      · simpa [countIn] using hn
      · simpa [countIn] using h
    · rw [if_neg h]
      rcases ih (b0 + 1) (n + sizeB x) id (by omega) (by omega) with ⟨h1, h2⟩ | ⟨k, hk, h1, h2, h3⟩
      · left; exact ⟨h1, by simpa [countIn, Int.add_assoc] using h2⟩
      · right
        refine ⟨k + 1, by simpa using hk, ?_, ?_, ?_⟩
        · rw [h1]; simp [countIn]; omega
        · simpa [countIn, Int.add_assoc] using h2
        · simpa [countIn, Int.add_assoc] using h3
theorem placeOf_cases (f : XFunc) (id : Int) : (placeOf f id = (-2, 0) ∧ isIdB (countOf f) id = false) ∨ (placeOf f id = (-1, id) ∧ 0 ≤ id ∧ id < f.params.length) ∨
    ∃ k, ∃ h : k < f.blocks.length, placeOf f id = ((k : Int), id - countIn f.params.length (f.blocks.take k)) ∧ countIn f.params.length (f.blocks.take k) ≤ id ∧ id < countIn f.params.length (f.blocks.take k) + sizeB f.blocks[k] := by
  unfold placeOf
  cases h : isIdB (countOf f) id with
  | false => left; simp
  | true =>
    right
    have h' : 0 ≤ id ∧ id ≤ countOf f - 1 := by simpa [isIdB, inR] using h
    by_cases h2 : id < f.params.length
    · left; simp [h2]; omega
    · right
      rcases placeIn_spec f.blocks 0 f.params.length id (by omega) (by omega) with ⟨h1, h3⟩ | ⟨k, hk, h1, h3, h4⟩
      · unfold countOf at h'; omega
      · exact ⟨k, hk, by simp [h2, h1], h3, h4⟩
def inst0 : XInst := ⟨0, 0, 0, 0, 0, 0, []⟩
def block0 : XBlock := ⟨[], [], ⟨0, 0, 0, 0⟩⟩
def instAt (f : XFunc) (id : Int) : XInst × Bool :=
  if (placeOf f id).1 < 0 then (inst0, false)
  else if (placeOf f id).2 < ((f.blocks.getD (placeOf f id).1.toNat block0).phis.length : Int) then (inst0, false)
  else ((f.blocks.getD (placeOf f id).1.toNat block0).insts.getD ((placeOf f id).2 - (f.blocks.getD (placeOf f id).1.toNat block0).phis.length).toNat inst0, true)
def upTo (n : Nat) : List Int := (List.range n).map fun (i : Nat) => (i : Int)
theorem upTo_succ (n : Nat) : upTo (n + 1) = upTo n ++ [(n : Int)] := by simp [upTo, List.range_succ]
theorem countIn_append (n : Int) (l1 l2 : List XBlock) : countIn n (l1 ++ l2) = countIn (countIn n l1) l2 := by
  simp [countIn, List.sum_append]; omega
theorem countIn_take_le (n : Int) (l : List XBlock) (k : Nat) : countIn n (l.take k) ≤ countIn n l := by
  have h : countIn n l = countIn n (l.take k ++ l.drop k) := by rw [List.take_append_drop]
  rw [h, countIn_append]
  exact countIn_le _ _
theorem placeIn_at (l : List XBlock) : ∀ (k : Nat) (hk : k < l.length) (b0 n id : Int), countIn n (l.take k) ≤ id → id < countIn n (l.take k) + sizeB l[k] → placeIn l b0 n id = (b0 + k, id - countIn n (l.take k)) := by
  induction l with
  | nil => intro k hk; simp at hk
  | cons x r ih =>
    intro k hk b0 n id h1 h2
    unfold placeIn
    cases k with
    | zero =>
      simp [countIn] at h1 h2 ⊢
      intro h; omega
    | succ k =>
      have hc : countIn n ((x :: r).take (k + 1)) = countIn (n + sizeB x) (r.take k) := by simp [countIn]; omega
      rw [hc] at h1 h2 ⊢
      have := countIn_le (n + sizeB x) (r.take k)
      rw [if_neg (by omega), ih k (by simpa using hk) (b0 + 1) (n + sizeB x) id h1 (by simpa using h2)]
      congr 1
      push_cast; omega
theorem placeOf_at (f : XFunc) (k : Nat) (hk : k < f.blocks.length) (id : Int) (h1 : countIn f.params.length (f.blocks.take k) ≤ id) (h2 : id < countIn f.params.length (f.blocks.take k) + sizeB f.blocks[k]) :
    placeOf f id = ((k : Int), id - countIn f.params.length (f.blocks.take k)) := by
  have h3 := countIn_take_le f.params.length f.blocks (k + 1)
  rw [countIn_snoc _ _ _ hk] at h3
  have h4 := countIn_le f.params.length (f.blocks.take k)
  have h5 : isIdB (countOf f) id = true := by
    have : countIn f.params.length f.blocks = countOf f := rfl
    simp [isIdB, inR]; omega
  unfold placeOf
  rw [if_pos h5, if_neg (by omega), placeIn_at f.blocks k hk 0 _ id h1 h2]
  simp
theorem instAt_inst (f : XFunc) (k : Nat) (hk : k < f.blocks.length) (j : Nat) (hj : j < f.blocks[k].insts.length) : instAt f (countIn f.params.length (f.blocks.take k) + f.blocks[k].phis.length + j) = (f.blocks[k].insts[j], true) := by
  have hp := placeOf_at f k hk (countIn f.params.length (f.blocks.take k) + f.blocks[k].phis.length + j) (by omega) (by unfold sizeB; omega)
  simp only [instAt, hp]
  rw [if_neg (by omega), Int.toNat_natCast, show f.blocks.getD k block0 = f.blocks[k] by simp [hk], if_neg (by omega)]
  rw [show (countIn f.params.length (f.blocks.take k) + f.blocks[k].phis.length + j - countIn f.params.length (f.blocks.take k) - f.blocks[k].phis.length).toNat = j by omega]
  simp [hj]
end Go.Proofs.YtkcgejbnhpccdaaGreat
