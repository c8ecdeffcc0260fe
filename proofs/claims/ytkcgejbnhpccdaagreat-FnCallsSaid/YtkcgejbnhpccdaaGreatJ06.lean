/- Runs of cells written, and rows of the call's own with elements of any kind. No conditions. Rows of the call's own that nothing turns, sizes of values, and what is owned is read. No conditions. -/
import Derived.Test.YtkcgejbnhpccdaaGreatJ03
set_option linter.unusedSimpArgs false
set_option linter.unusedVariables false
namespace Go.Proofs.YtkcgejbnhpccdaaGreat
open Go.RowKit
/-! ### a run of cells written -/
def setAll (w : World) (G : Nat) : Nat → List Value → World
  | _, [] => w
  | o, u :: r => setAll (w.setCell ⟨G, o, none⟩ u) G (o + 1) r
def setL (cells : List Value) : Nat → List Value → List Value
  | _, [] => cells
  | o, u :: r => setL (cells.set o u) (o + 1) r
theorem setL_len (us : List Value) : ∀ (cells : List Value) (o : Nat), (setL cells o us).length = cells.length := by
  induction us with
  | nil => intro cells o; rfl
  | cons u r ih => intro cells o; rw [setL, ih]; simp
theorem setL_out (us : List Value) : ∀ (cells : List Value) (o i : Nat), i < o ∨ o + us.length ≤ i → (setL cells o us)[i]? = cells[i]? := by
  induction us with
  | nil => intro cells o i _; rfl
  | cons u r ih =>
    intro cells o i h
    simp only [List.length_cons] at h
    rw [setL, ih _ _ _ (by omega), List.getElem?_set_ne (by omega)]
theorem setL_in (us : List Value) : ∀ (cells : List Value) (o j : Nat), j < us.length → o + us.length ≤ cells.length → (setL cells o us)[o + j]? = us[j]? := by
  induction us with
  | nil => intro cells o j h; simp at h
  | cons u r ih =>
    intro cells o j h hl
    simp only [List.length_cons] at h hl
    rw [setL]
    cases j with
    | zero =>
      rw [setL_out _ _ _ _ (by omega), Nat.add_zero, List.getElem?_set_self (by omega)]
      rfl
    | succ j =>
      rw [show o + (j + 1) = (o + 1) + j by omega, ih _ _ _ (by omega) (by simp; omega)]
      simp
theorem own_setAll {e sz G n cap : Nat} (us : List Value) : ∀ {base : Nat} {w : World} {cells : List Value} (o : Nat), w.ownsRow base e sz (.slice (some ⟨G, 0, none⟩) n cap) n cells → (setAll w G o us).ownsRow base e sz (.slice (some ⟨G, 0, none⟩) n cap) n (setL cells o us) := by
  induction us with
  | nil => intro base w cells o h; exact h
  | cons u r ih => intro base w cells o h; exact ih (o + 1) (World.ownsRow.stored h o u).1
theorem below_setAll {B G : Nat} (us : List Value) (hG : B ≤ G) : ∀ {a w : World} (o : Nat), Below B a w → Below B a (setAll w G o us) := by
  induction us with
  | nil => intro a w o h; exact h
  | cons u r ih => intro a w o h; exact ih (o + 1) (h.setCell (p := ⟨G, o, none⟩) hG u)
theorem setAll_other {G b : Nat} (us : List Value) (hne : b ≠ G) : ∀ (w : World) (o : Nat), (setAll w G o us).heap[b]? = w.heap[b]? := by
  induction us with
  | nil => intro w o; rfl
  | cons u r ih => intro w o; rw [setAll, ih, Below.heap_setCell _ _ _ _ hne]
theorem setAll_size {G : Nat} (us : List Value) : ∀ (w : World) (o : Nat), (setAll w G o us).heap.size = w.heap.size := by
  induction us with
  | nil => intro w o; rfl
  | cons u r ih => intro w o; rw [setAll, ih]; simp [World.setCell]

/-! ### rows of one's own with their elements -/
def Els {α : Type} (sz : Nat) (K : α → List Value → Prop) (cells : List Value) (xs : List α) (k : Nat) : Prop :=
  ∀ i (h : i < xs.length), i < k → ∃ cs, K xs[i] cs ∧ cs.length = sz ∧ ∀ j, j < sz → cells[i * sz + j]? = cs[j]?
def Own {α : Type} (lo e sz : Nat) (K : World → α → List Value → Prop) (w : World) (v : Value) (xs : List α) : Prop :=
  ∃ cells, w.ownsRow lo e sz v xs.length cells ∧ Els sz (K w) cells xs xs.length
theorem Els.imp {α : Type} {sz : Nat} {K K' : α → List Value → Prop} {cells : List Value} {xs : List α} {k : Nat} (h : Els sz K cells xs k) (hk : ∀ x cs, K x cs → K' x cs) : Els sz K' cells xs k :=
  fun i hi hik => by obtain ⟨cs, h1, h2⟩ := h i hi hik; exact ⟨cs, hk _ _ h1, h2⟩
theorem Els.set {α : Type} {sz : Nat} {K : α → List Value → Prop} {cells : List Value} {xs : List α} {k : Nat} (h : Els sz K cells xs k) (hk : k < xs.length) (us : List Value) (hu : us.length = sz) (hK : K xs[k] us) (hl : cells.length = xs.length * sz) : Els sz K (setL cells (k * sz) us) xs (k + 1) := by
  intro i hi hik
  by_cases e : i = k
  · subst e
    refine ⟨us, hK, hu, fun j hj => setL_in us cells _ j (by omega) ?_⟩
    have : (i + 1) * sz ≤ xs.length * sz := Nat.mul_le_mul_right _ (by omega)
    rw [Nat.add_mul] at this
    omega
  · obtain ⟨cs, h1, h2, h3⟩ := h i hi (by omega)
    refine ⟨cs, h1, h2, fun j hj => ?_⟩
    have : (i + 1) * sz ≤ k * sz := Nat.mul_le_mul_right _ (by omega)
    rw [Nat.add_mul] at this
    rw [setL_out us cells _ _ (by omega)]
    exact h3 j hj
theorem Own.mv {α : Type} {lo e sz : Nat} {K : World → α → List Value → Prop} [KM K] {w w' : World} {v : Value} {xs : List α} (h : Own lo e sz K w v xs) (hb : Below w.heap.size w w') : Own lo e sz K w' v xs := by
  obtain ⟨cells, h1, h2⟩ := h
  exact ⟨cells, own_mv h1 hb, h2.imp fun _ _ hk => KM.mv hk hb⟩
theorem Own.rd {α : Type} {L lo e sz : Nat} {K K' : World → α → List Value → Prop} {w : World} {v : Value} {xs : List α} (h : Own lo e sz K w v xs) (hk : ∀ x cs, K w x cs → K' w x cs) (hL : xs.length ≤ L) : Rd L sz K' w v xs := by
  obtain ⟨cells, h1, h2⟩ := h
  obtain ⟨A, c, rfl, hc, hl, hz, hat⟩ := own_shape h1
  refine ⟨A, c, rfl, hc, hL, hz, fun h0 => ?_⟩
  obtain ⟨b, rfl, hb, hat⟩ := hat h0
  refine ⟨b, 0, rfl, hb, fun i hi => ?_⟩
  obtain ⟨cs, k1, k2, k3⟩ := h2 i hi hi
  refine ⟨cs, hk _ _ k1, k2, fun j hj => ?_⟩
  rw [show 0 + i * sz + j = i * sz + j by omega]
  refine hat _ _ ?_
  rw [k3 j (by omega)]
  exact List.getElem?_eq_getElem hj
theorem Own.ints {lo : Nat} {w : World} {v : Value} {xs : List Int} (h : w.ownsRow lo 2 1 v xs.length (xs.map (Value.int .i64))) : Own lo 2 1 KInt w v xs :=
  ⟨_, h, fun i hi _ => ⟨_, rfl, rfl, fun j hj => by
    obtain rfl : j = 0 := by omega
    simp [hi]⟩⟩
theorem Own.lower {α : Type} {lo lo' e sz : Nat} {K K' : World → α → List Value → Prop} {w : World} {v : Value} {xs : List α} (h : Own lo e sz K w v xs) (hl : lo' ≤ lo) (hk : ∀ x cs, K w x cs → K' w x cs) : Own lo' e sz K' w v xs := by
  obtain ⟨cells, h1, h2⟩ := h
  exact ⟨cells, own_lower h1 hl, h2.imp hk⟩
theorem Els.nil {α : Type} (sz : Nat) (K : α → List Value → Prop) (cells : List Value) (xs : List α) : Els sz K cells xs 0 := fun i _ h => absurd h (Nat.not_lt_zero i)
end Go.Proofs.YtkcgejbnhpccdaaGreat
set_option linter.unusedSimpArgs false
set_option linter.unusedVariables false
namespace Go.Proofs.YtkcgejbnhpccdaaGreat
open Go.RowKit
theorem row_facts {w : World} {b e : Nat} {arr : Array Value} (h : w.heap[b]? = some (.cells arr e (0, 0))) : (∀ o, w.cell? ⟨b, o, none⟩ = arr[o]?) ∧ ∀ o, w.frozen? ⟨b, o, none⟩ = false :=
  ⟨fun o => by simp [World.cell?, h], fun o => by simp [World.frozen?, h]⟩
theorem heap_new (w : World) (arr : Array Value) (e b : Nat) (hb : b = w.heap.size) : (w.alloc (.cells arr e)).heap[b]? = some (.cells arr e (0, 0)) := by
  subst hb
  show (w.heap.push _)[w.heap.size]? = _
  simp
theorem heap_old {w : World} {o : Obj} {b : Nat} {x : Option Obj} (h : w.heap[b]? = x) (hb : b < w.heap.size) : (w.alloc o).heap[b]? = x := (Below.heap_alloc w o b hb).trans h
theorem heap_set {w : World} {b e j : Nat} {arr : Array Value} {u : Value} (h : w.heap[b]? = some (.cells arr e (0, 0))) : (w.setCell ⟨b, j, none⟩ u).heap[b]? = some (.cells (arr.setIfInBounds j u) e (0, 0)) := heap_setCell_same w b j arr e u h
theorem heap_off {w : World} {b g j : Nat} {u : Value} {x : Option Obj} (h : w.heap[b]? = x) (hne : b ≠ g) : (w.setCell ⟨g, j, none⟩ u).heap[b]? = x := (Below.heap_setCell w ⟨g, j, none⟩ u b hne).trans h
/-- From block lo on nothing turns. -/
structure Abv (lo : Nat) (w w' : World) : Prop where
  size : w.heap.size ≤ w'.heap.size
  block : ∀ b, lo ≤ b → b < w.heap.size → w'.heap[b]? = w.heap[b]?
theorem Abv.refl (lo : Nat) (w : World) : Abv lo w w := ⟨Nat.le_refl _, fun _ _ _ => rfl⟩
theorem Abv.trans {lo : Nat} {a b c : World} (h : Abv lo a b) (k : Abv lo b c) : Abv lo a c := ⟨Nat.le_trans h.size k.size, fun i h1 h2 => (k.block i h1 (Nat.lt_of_lt_of_le h2 h.size)).trans (h.block i h1 h2)⟩
theorem Abv.setCell {lo : Nat} {a w : World} (h : Abv lo a w) {p : Addr} (hp : p.block < lo) (u : Value) : Abv lo a (w.setCell p u) :=
  h.trans ⟨by simp [World.setCell], fun b h1 _ => Below.heap_setCell w p u b (by omega)⟩
theorem Abv.below {lo : Nat} {a w w' : World} (h : Abv lo a w) (hb : Below w.heap.size w w') : Abv lo a w' := h.trans ⟨hb.size, fun b _ h2 => hb.block b h2⟩
theorem Abv.alloc {lo : Nat} {a w : World} (h : Abv lo a w) (o : Obj) : Abv lo a (w.alloc o) := h.below ((Below.refl _ _).al (Nat.le_refl _) o)
theorem own_abv {lo base e sz n : Nat} {w w' : World} {v : Value} {cs : List Value} (h : w.ownsRow base e sz v n cs) (hl : lo ≤ base) (hb : Abv lo w w') : w'.ownsRow base e sz v n cs := by
  refine ⟨h.1, ?_⟩
  rcases h.2 with h' | ⟨g, cap, cur, hv, h1, h2, h3⟩
  · exact .inl h'
  · exact .inr ⟨g, cap, cur, hv, h1, (hb.block g (by omega) (Array.getElem?_eq_some_iff.1 h2).1).trans h2, h3⟩
/-- What a kind K lo says moves along Abv, and to a lower lo. -/
class KA {α : Type} (K : Nat → World → α → List Value → Prop) : Prop where
  mv : ∀ {lo : Nat} {w w' : World} {x : α} {cs : List Value}, K lo w x cs → Abv lo w w' → K lo w' x cs
  low : ∀ {lo lo' : Nat} {w : World} {x : α} {cs : List Value}, K lo w x cs → lo' ≤ lo → K lo' w x cs
theorem Own.abv {α : Type} {lo e sz : Nat} {K : Nat → World → α → List Value → Prop} [KA K] {w w' : World} {v : Value} {xs : List α} (h : Own lo e sz (K lo) w v xs) (hb : Abv lo w w') : Own lo e sz (K lo) w' v xs := by
  obtain ⟨cells, h1, h2⟩ := h
  exact ⟨cells, own_abv h1 (Nat.le_refl _) hb, h2.imp fun _ _ hk => KA.mv hk hb⟩
theorem Own.low {α : Type} {lo lo' e sz : Nat} {K : Nat → World → α → List Value → Prop} [KA K] {w : World} {v : Value} {xs : List α} (h : Own lo e sz (K lo) w v xs) (hl : lo' ≤ lo) : Own lo' e sz (K lo') w v xs :=
  h.lower hl fun _ _ hk => KA.low hk hl
def OInt (_ : Nat) (_ : World) (x : Int) (cs : List Value) : Prop := cs = [.int .i64 x]
instance : KA OInt := ⟨fun h _ => h, fun h _ => h⟩
abbrev OwI (lo : Nat) (w : World) (v : Value) (xs : List Int) : Prop := Own lo 2 1 (OInt lo) w v xs
def OPhi (lo : Nat) (w : World) (x : XPhi) (cs : List Value) : Prop := ∃ v, cs = [.int .i64 x.w, v] ∧ OwI lo w v x.ins
instance : KA OPhi := ⟨fun ⟨v, h, r⟩ hb => ⟨v, h, r.abv hb⟩, fun ⟨v, h, r⟩ hl => ⟨v, h, r.low hl⟩⟩
abbrev OwPhi (lo : Nat) (w : World) (v : Value) (xs : List XPhi) : Prop := Own lo 165 2 (OPhi lo) w v xs
def OInst (lo : Nat) (w : World) (x : XInst) (cs : List Value) : Prop := ∃ v, cs = [.int .i64 x.op, .int .i64 x.w, .int .i64 x.a, .int .i64 x.b, .int .i64 x.c, .int .i64 x.imm, v] ∧ OwI lo w v x.args
instance : KA OInst := ⟨fun ⟨v, h, r⟩ hb => ⟨v, h, r.abv hb⟩, fun ⟨v, h, r⟩ hl => ⟨v, h, r.low hl⟩⟩
abbrev OwInst (lo : Nat) (w : World) (v : Value) (xs : List XInst) : Prop := Own lo 26 7 (OInst lo) w v xs
def OBlock (lo : Nat) (w : World) (x : XBlock) (cs : List Value) : Prop := ∃ v1 v2, cs = [v1, v2, .int .i64 x.term.kind, .int .i64 x.term.a, .int .i64 x.term.x, .int .i64 x.term.y] ∧ OwPhi lo w v1 x.phis ∧ OwInst lo w v2 x.insts
instance : KA OBlock := ⟨fun ⟨v, v', h, r, s⟩ hb => ⟨v, v', h, r.abv hb, s.abv hb⟩, fun ⟨v, v', h, r, s⟩ hl => ⟨v, v', h, r.low hl, s.low hl⟩⟩
abbrev OwBlock (lo : Nat) (w : World) (v : Value) (xs : List XBlock) : Prop := Own lo 32 6 (OBlock lo) w v xs
def OFunc (lo : Nat) (w : World) (x : XFunc) (cs : List Value) : Prop := ∃ v1 v2, cs = [v1, .int .i64 x.ret, v2] ∧ OwI lo w v1 x.params ∧ OwBlock lo w v2 x.blocks
instance : KA OFunc := ⟨fun ⟨v, v', h, r, s⟩ hb => ⟨v, v', h, r.abv hb, s.abv hb⟩, fun ⟨v, v', h, r, s⟩ hl => ⟨v, v', h, r.low hl, s.low hl⟩⟩
theorem OwI.of {lo : Nat} {w : World} {v : Value} {xs : List Int} (h : w.ownsRow lo 2 1 v xs.length (xs.map (Value.int .i64))) : OwI lo w v xs := Own.ints h
/-! ### sizes -/
def sub (left : Int) (n : Nat) : Int := if left < n then -1 else left - n
theorem sub_cases (left : Int) (n : Nat) (h : 0 ≤ left) : (sub left n = -1 ∧ left < n) ∨ (sub left n = left - n ∧ 0 ≤ left - n ∧ (n : Int) ≤ left) := by unfold sub; split <;> omega
theorem sub_add (left : Int) (a b : Nat) (h : (a : Int) ≤ left) : sub (left - a) b = sub left (a + b) := by unfold sub; split <;> split <;> omega
theorem sub_lt (left : Int) (n : Nat) (h : left < n) : sub left n = -1 := by unfold sub; rw [if_pos h]
def wL {α : Type} (f : α → Nat) (l : List α) : Nat := l.length + (l.map f).sum
def wI (l : List Int) : Nat := l.length
def wPhi (p : XPhi) : Nat := p.ins.length
def wInst (i : XInst) : Nat := i.args.length
def wBlock (b : XBlock) : Nat := wL wPhi b.phis + wL wInst b.insts
def wFunc (f : XFunc) : Nat := f.params.length + wL wBlock f.blocks
theorem wL_snoc {α : Type} (f : α → Nat) (l : List α) (k : Nat) (h : k < l.length) : ((l.take (k + 1)).map f).sum = ((l.take k).map f).sum + f l[k] := by
  rw [List.take_succ_eq_append_getElem h, List.map_append, List.sum_append]; simp
theorem wL_le {α : Type} (f : α → Nat) (l : List α) (k : Nat) : ((l.take k).map f).sum ≤ (l.map f).sum := by
  have h : (l.map f).sum = ((l.take k ++ l.drop k).map f).sum := by rw [List.take_append_drop]
  rw [h, List.map_append, List.sum_append]; omega
theorem wL_mem {α : Type} (f : α → Nat) (l : List α) (x : α) (h : x ∈ l) : f x ≤ wL f l := by
  have : f x ≤ (l.map f).sum := by
    induction l with
    | nil => cases h
    | cons y r ih =>
      simp only [List.map_cons, List.sum_cons]
      rcases List.mem_cons.1 h with rfl | h
      · omega
      · have := ih h; omega
  unfold wL; omega
/-- Lengths as wide as memory lets them be. -/
abbrev lw : Nat := 9223372036854775807
theorem Rd.sw {α : Type} {sz : Nat} {K : World → α → List Value → Prop} {w : World} {v : Value} {xs : List α} (h : Rd lw sz K w v xs) : ∃ A c, v = .slice A xs.length c ∧ xs.length ≤ c ∧ xs.length ≤ 9223372036854775807 ∧ Hd (Rd lw sz K w v xs) := h.sh
theorem Rd.nar {α : Type} {L L' sz : Nat} {K K' : World → α → List Value → Prop} {w : World} {v : Value} {xs : List α} (h : Rd L sz K w v xs) (hl : xs.length ≤ L') (hk : ∀ x, x ∈ xs → ∀ cs, K w x cs → K' w x cs) : Rd L' sz K' w v xs := by
  obtain ⟨A, c, rfl, h1, h2, hz, h3⟩ := h
  refine ⟨A, c, rfl, h1, hl, hz, fun h0 => ?_⟩
  obtain ⟨b, off, rfl, hlt, hat⟩ := h3 h0
  refine ⟨b, off, rfl, hlt, fun i hi => ?_⟩
  obtain ⟨cs, hk1, hl, hc⟩ := hat i hi
  exact ⟨cs, hk _ (List.getElem_mem hi) _ hk1, hl, hc⟩
theorem nar_phi {w : World} {p : XPhi} {cs : List Value} (h : KPhi lw w p cs) (hw : wPhi p ≤ lm) : KPhi lm w p cs := by
  obtain ⟨v, rfl, hr⟩ := h; exact ⟨v, rfl, hr.nar hw fun _ _ _ hk => hk⟩
theorem nar_inst {w : World} {p : XInst} {cs : List Value} (h : KInst lw w p cs) (hw : wInst p ≤ lm) : KInst lm w p cs := by
  obtain ⟨v, rfl, hr⟩ := h; exact ⟨v, rfl, hr.nar hw fun _ _ _ hk => hk⟩
theorem nar_block {w : World} {p : XBlock} {cs : List Value} (h : KBlock lw w p cs) (hw : wBlock p ≤ lm) : KBlock lm w p cs := by
  obtain ⟨v, v', rfl, hr, hs⟩ := h
  unfold wBlock at hw
  have h1 : wL wPhi p.phis ≤ lm := by omega
  have h2 : wL wInst p.insts ≤ lm := by omega
  exact ⟨v, v', rfl, hr.nar (by unfold wL at h1; omega) fun x hx _ hk => nar_phi hk (Nat.le_trans (wL_mem _ _ _ hx) h1), hs.nar (by unfold wL at h2; omega) fun x hx _ hk => nar_inst hk (Nat.le_trans (wL_mem _ _ _ hx) h2)⟩
theorem nar_func {w : World} {p : XFunc} {cs : List Value} (h : KFunc lw w p cs) (hw : wFunc p ≤ lm) : KFunc lm w p cs := by
  obtain ⟨v, v', rfl, hr, hs⟩ := h
  unfold wFunc at hw
  have h2 : wL wBlock p.blocks ≤ lm := by omega
  exact ⟨v, v', rfl, hr.nar (by omega) fun _ _ _ hk => hk, hs.nar (by unfold wL at h2; omega) fun x hx _ hk => nar_block hk (Nat.le_trans (wL_mem _ _ _ hx) h2)⟩
/-! ### a row of one's own is read -/
theorem OwI.rd {lo : Nat} {w : World} {v : Value} {xs : List Int} (h : OwI lo w v xs) (hl : xs.length ≤ lm) : RI lm w v xs := Own.rd h (fun _ _ hk => hk) hl
theorem o_phi {lo : Nat} {w : World} {p : XPhi} {cs : List Value} (h : OPhi lo w p cs) (hw : wPhi p ≤ lm) : KPhi lm w p cs := by
  obtain ⟨v, rfl, hr⟩ := h; exact ⟨v, rfl, hr.rd hw⟩
theorem o_inst {lo : Nat} {w : World} {p : XInst} {cs : List Value} (h : OInst lo w p cs) (hw : wInst p ≤ lm) : KInst lm w p cs := by
  obtain ⟨v, rfl, hr⟩ := h; exact ⟨v, rfl, hr.rd hw⟩
theorem Own.rdm {α : Type} {L lo e sz : Nat} {K : World → α → List Value → Prop} {K' : World → α → List Value → Prop} {w : World} {v : Value} {xs : List α} (h : Own lo e sz K w v xs) (hk : ∀ x, x ∈ xs → ∀ cs, K w x cs → K' w x cs) (hL : xs.length ≤ L) : Rd L sz K' w v xs :=
  (Own.rd (K' := K) h (fun _ _ hk => hk) hL).nar hL hk
theorem o_block {lo : Nat} {w : World} {p : XBlock} {cs : List Value} (h : OBlock lo w p cs) (hw : wBlock p ≤ lm) : KBlock lm w p cs := by
  obtain ⟨v, v', rfl, hr, hs⟩ := h
  unfold wBlock at hw
  have h1 : wL wPhi p.phis ≤ lm := by omega
  have h2 : wL wInst p.insts ≤ lm := by omega
  exact ⟨v, v', rfl, hr.rdm (fun x hx _ hk => o_phi hk (Nat.le_trans (wL_mem _ _ _ hx) h1)) (by unfold wL at h1; omega), hs.rdm (fun x hx _ hk => o_inst hk (Nat.le_trans (wL_mem _ _ _ hx) h2)) (by unfold wL at h2; omega)⟩
theorem o_func {lo : Nat} {w : World} {p : XFunc} {cs : List Value} (h : OFunc lo w p cs) (hw : wFunc p ≤ lm) : KFunc lm w p cs := by
  obtain ⟨v, v', rfl, hr, hs⟩ := h
  unfold wFunc at hw
  have h2 : wL wBlock p.blocks ≤ lm := by omega
  exact ⟨v, v', rfl, hr.rd (by omega), hs.rdm (fun x hx _ hk => o_block hk (Nat.le_trans (wL_mem _ _ _ hx) h2)) (by unfold wL at h2; omega)⟩
end Go.Proofs.YtkcgejbnhpccdaaGreat
