/- What is read of memory as lists of values of my own plain types: the readings, how they move along a world that grows, and rows of the call's own. No conditions. -/
import Derived.WalkKit
import Derived.WalkSpells
import Derived.WalkLawsBesides
import Derived.Lib.Hide
import Derived.Shelf.Abstract
set_option linter.unusedSimpArgs false
set_option linter.unusedVariables false
namespace Go.Proofs.YtkcgejbnhpccdaaGreat
open Go.RowKit
/-- A fact that the walk's simp does not look into. -/
structure Hd (p : Prop) : Prop where mk :: (out : p)
/-! ### the data -/
structure XInst where
  op : Int
  w : Int
  a : Int
  b : Int
  c : Int
  imm : Int
  args : List Int
  deriving DecidableEq, Inhabited
structure XPhi where
  w : Int
  ins : List Int
  deriving DecidableEq, Inhabited
structure XTerm where
  kind : Int
  a : Int
  x : Int
  y : Int
  deriving DecidableEq, Inhabited
structure XBlock where
  phis : List XPhi
  insts : List XInst
  term : XTerm
  deriving DecidableEq, Inhabited
structure XFunc where
  params : List Int
  ret : Int
  blocks : List XBlock
  deriving DecidableEq, Inhabited
structure XMod where
  funcs : List XFunc
  deriving DecidableEq, Inhabited
structure XMIns where
  op : Int
  w : Int
  d : Int
  a : Int
  b : Int
  c : Int
  imm : Int
  deriving DecidableEq, Inhabited
structure XProg where
  regs : Int
  params : List Int
  widths : List Int
  code : List XMIns
  deriving DecidableEq, Inhabited

/-! ### reading: L bounds every length -/
/-- v is a slice whose elements, of sz cells each, are read by K as xs. -/
def Rd {α : Type} (L sz : Nat) (K : World → α → List Value → Prop) (w : World) (v : Value) (xs : List α) : Prop :=
  ∃ A c, v = .slice A xs.length c ∧ xs.length ≤ c ∧ xs.length ≤ L ∧ (A = none → c = 0) ∧
    (0 < xs.length → ∃ b off, A = some ⟨b, off, none⟩ ∧ b < w.heap.size ∧ ∀ i (hi : i < xs.length), ∃ cs, K w xs[i] cs ∧ cs.length = sz ∧ ∀ j (hj : j < cs.length), w.cell? ⟨b, off + i * sz + j, none⟩ = some cs[j])
class KM {α : Type} (K : World → α → List Value → Prop) : Prop where
  mv : ∀ {w w' : World} {x : α} {cs : List Value}, K w x cs → Below w.heap.size w w' → K w' x cs
theorem Rd.mv {α : Type} {L sz : Nat} {K : World → α → List Value → Prop} [KM K] {w w' : World} {v : Value} {xs : List α} (h : Rd L sz K w v xs) (hb : Below w.heap.size w w') : Rd L sz K w' v xs := by
  obtain ⟨A, c, rfl, h1, h2, hz, h3⟩ := h
  refine ⟨A, c, rfl, h1, h2, hz, fun h0 => ?_⟩
  obtain ⟨b, off, rfl, hlt, hat⟩ := h3 h0
  refine ⟨b, off, rfl, Nat.lt_of_lt_of_le hlt hb.size, fun i hi => ?_⟩
  obtain ⟨cs, hk, hl, hc⟩ := hat i hi
  exact ⟨cs, KM.mv hk hb, hl, fun j hj => (hb.cell (p := ⟨b, _, none⟩) hlt).trans (hc j hj)⟩
theorem Rd.len {α : Type} {L sz : Nat} {K : World → α → List Value → Prop} {w : World} {v : Value} {xs : List α} (h : Rd L sz K w v xs) : xs.length ≤ L := by
  obtain ⟨A, c, rfl, h1, h2, _, h3⟩ := h; exact h2
/-- The shape. -/
theorem Rd.sh {α : Type} {L sz : Nat} {K : World → α → List Value → Prop} {w : World} {v : Value} {xs : List α} (h : Rd L sz K w v xs) : ∃ A c, v = .slice A xs.length c ∧ xs.length ≤ c ∧ xs.length ≤ L ∧ Hd (Rd L sz K w v xs) := by
  have h' := h
  obtain ⟨A, c, rfl, h1, h2, _, h3⟩ := h; exact ⟨A, c, rfl, h1, h2, ⟨h'⟩⟩
/-- Element i: its cells. -/
theorem Rd.at_ {α : Type} {L sz : Nat} {K : World → α → List Value → Prop} {w : World} {v : Value} {xs : List α} (h : Rd L sz K w v xs) (i : Nat) (hi : i < xs.length) :
    ∃ b off c cs, v = .slice (some ⟨b, off, none⟩) xs.length c ∧ b < w.heap.size ∧ K w xs[i] cs ∧ cs.length = sz ∧ ∀ j (hj : j < cs.length), w.cell? ⟨b, off + i * sz + j, none⟩ = some cs[j] := by
  obtain ⟨A, c, rfl, h1, h2, _, h3⟩ := h
  obtain ⟨b, off, rfl, hlt, hat⟩ := h3 (by omega)
  obtain ⟨cs, hk, hl, hc⟩ := hat i hi
  exact ⟨b, off, c, cs, rfl, hlt, hk, hl, hc⟩
/-- Element i in a later world. -/
theorem Rd.in_ {α : Type} {L sz : Nat} {K : World → α → List Value → Prop} [KM K] {w wr : World} {A : Option Addr} {n c : Nat} {xs : List α} (h : Rd L sz K w (.slice A n c) xs) (hb : Below w.heap.size w wr) (i : Nat) (hi : i < xs.length) :
    ∃ b off cs, A = some ⟨b, off, none⟩ ∧ b < w.heap.size ∧ K wr xs[i] cs ∧ ∀ j v, cs[j]? = some v → wr.cell? ⟨b, off + i * sz + j, none⟩ = some v := by
  obtain ⟨b, off, c', cs, hv, hlt, hk, _, hc⟩ := h.at_ i hi
  cases hv
  refine ⟨b, off, cs, rfl, hlt, KM.mv hk hb, fun j v hv => ?_⟩
  obtain ⟨hj, rfl⟩ := List.getElem?_eq_some_iff.1 hv
  exact (hb.cell (p := ⟨b, _, none⟩) hlt).trans (hc j hj)
/-- The same; what it leads to as it was at first. -/
theorem Rd.in0 {α : Type} {L sz : Nat} {K : World → α → List Value → Prop} {w wr : World} {A : Option Addr} {n c : Nat} {xs : List α} (h : Rd L sz K w (.slice A n c) xs) (hb : Below w.heap.size w wr) (i : Nat) (hi : i < xs.length) :
    ∃ b off cs, A = some ⟨b, off, none⟩ ∧ b < w.heap.size ∧ K w xs[i] cs ∧ ∀ j v, cs[j]? = some v → wr.cell? ⟨b, off + i * sz + j, none⟩ = some v := by
  obtain ⟨b, off, c', cs, hv, hlt, hk, _, hc⟩ := h.at_ i hi
  cases hv
  refine ⟨b, off, cs, rfl, hlt, hk, fun j v hv => ?_⟩
  obtain ⟨hj, rfl⟩ := List.getElem?_eq_some_iff.1 hv
  exact (hb.cell (p := ⟨b, _, none⟩) hlt).trans (hc j hj)
theorem bcell {w w' : World} (hb : Below w.heap.size w w') : (∀ b o, b < w.heap.size → w'.cell? ⟨b, o, none⟩ = w.cell? ⟨b, o, none⟩) ∧ (∀ b o, b < w.heap.size → w'.frozen? ⟨b, o, none⟩ = w.frozen? ⟨b, o, none⟩) :=
  ⟨fun b o h => hb.cell (p := ⟨b, o, none⟩) h, fun b o h => hb.frozen (p := ⟨b, o, none⟩) h⟩
theorem bat {B : Nat} {w w' : World} (hb : Below B w w') (b : Nat) (h : b < B) (o : Nat) : w'.cell? ⟨b, o, none⟩ = w.cell? ⟨b, o, none⟩ := hb.cell (p := ⟨b, o, none⟩) h
theorem fat {B : Nat} {w w' : World} (hb : Below B w w') (b : Nat) (h : b < B) (o : Nat) : w'.frozen? ⟨b, o, none⟩ = w.frozen? ⟨b, o, none⟩ := hb.frozen (p := ⟨b, o, none⟩) h
theorem _root_.Go.RowKit.Below.then {w w1 w2 : World} (h : Below w.heap.size w w1) (k : Below w1.heap.size w1 w2) : Below w.heap.size w w2 := h.trans (k.mono h.size)
theorem _root_.Go.RowKit.Below.al {B : Nat} {w W : World} (h : Below B w W) (hB : B ≤ W.heap.size) (o : Obj) : Below B w (W.alloc o) := h.alloc hB o

/-! ### the kinds -/
section
variable (L : Nat)
def KInt (_ : World) (x : Int) (cs : List Value) : Prop := cs = [.int .i64 x]
instance : KM KInt := ⟨fun h _ => h⟩
abbrev RI := Rd L 1 KInt
def KPhi (w : World) (x : XPhi) (cs : List Value) : Prop := ∃ v, cs = [.int .i64 x.w, v] ∧ RI L w v x.ins
instance : KM (KPhi L) := ⟨fun ⟨v, h, r⟩ hb => ⟨v, h, r.mv hb⟩⟩
abbrev RPhi := Rd L 2 (KPhi L)
def KInst (w : World) (x : XInst) (cs : List Value) : Prop := ∃ v, cs = [.int .i64 x.op, .int .i64 x.w, .int .i64 x.a, .int .i64 x.b, .int .i64 x.c, .int .i64 x.imm, v] ∧ RI L w v x.args
instance : KM (KInst L) := ⟨fun ⟨v, h, r⟩ hb => ⟨v, h, r.mv hb⟩⟩
abbrev RInst := Rd L 7 (KInst L)
def KTerm (_ : World) (x : XTerm) (cs : List Value) : Prop := cs = [.int .i64 x.kind, .int .i64 x.a, .int .i64 x.x, .int .i64 x.y]
instance : KM KTerm := ⟨fun h _ => h⟩
def KBlock (w : World) (x : XBlock) (cs : List Value) : Prop := ∃ v1 v2, cs = [v1, v2, .int .i64 x.term.kind, .int .i64 x.term.a, .int .i64 x.term.x, .int .i64 x.term.y] ∧ RPhi L w v1 x.phis ∧ RInst L w v2 x.insts
instance : KM (KBlock L) := ⟨fun ⟨v, v', h, r, s⟩ hb => ⟨v, v', h, r.mv hb, s.mv hb⟩⟩
abbrev RBlock := Rd L 6 (KBlock L)
def KFunc (w : World) (x : XFunc) (cs : List Value) : Prop := ∃ v1 v2, cs = [v1, .int .i64 x.ret, v2] ∧ RI L w v1 x.params ∧ RBlock L w v2 x.blocks
instance : KM (KFunc L) := ⟨fun ⟨v, v', h, r, s⟩ hb => ⟨v, v', h, r.mv hb, s.mv hb⟩⟩
abbrev RFunc := Rd L 3 (KFunc L)
/-- A number that an int64 holds. -/
def InI (n : Int) : Prop := -9223372036854775808 ≤ n ∧ n ≤ 9223372036854775807
def KMIns (_ : World) (x : XMIns) (cs : List Value) : Prop := cs = [.int .i64 x.op, .int .i64 x.w, .int .i64 x.d, .int .i64 x.a, .int .i64 x.b, .int .i64 x.c, .int .i64 x.imm] ∧ InI x.op
instance : KM KMIns := ⟨fun h _ => h⟩
abbrev RMIns := Rd L 7 KMIns
def KProg (w : World) (x : XProg) (cs : List Value) : Prop := ∃ v1 v2 v3, cs = [.int .i64 x.regs, v1, v2, v3] ∧ RI L w v1 x.params ∧ RI L w v2 x.widths ∧ RMIns L w v3 x.code
instance : KM (KProg L) := ⟨fun ⟨v, v', v3, h, r, s, t⟩ hb => ⟨v, v', v3, h, r.mv hb, s.mv hb, t.mv hb⟩⟩
end
/-- The bound on lengths behind the laws' guards. -/
abbrev lm : Nat := 1048576
theorem Rd.sm {α : Type} {sz : Nat} {K : World → α → List Value → Prop} {w : World} {v : Value} {xs : List α} (h : Rd lm sz K w v xs) : ∃ A c, v = .slice A xs.length c ∧ xs.length ≤ c ∧ xs.length ≤ 1048576 ∧ Hd (Rd lm sz K w v xs) := h.sh

/-! ### rows of the call's own -/
theorem own_shape {w : World} {base e sz n : Nat} {v : Value} {cells : List Value} (h : w.ownsRow base e sz v n cells) : ∃ A c, v = .slice A n c ∧ n ≤ c ∧ cells.length = n * sz ∧ (A = none → c = 0) ∧ (0 < n → ∃ b, A = some ⟨b, 0, none⟩ ∧ b < w.heap.size ∧ ∀ j u, cells[j]? = some u → w.cell? ⟨b, j, none⟩ = some u) := by
  obtain ⟨hl, ⟨rfl, rfl⟩ | ⟨g, cap, cur, rfl, hb, hg, hn, hm, hs, ht⟩⟩ := h
  · exact ⟨none, 0, rfl, Nat.le_refl _, hl, fun _ => rfl, fun h => absurd h (Nat.lt_irrefl _)⟩
  · refine ⟨_, cap, rfl, hn, hl, fun h => (by cases h), fun _ => ⟨g, rfl, (Array.getElem?_eq_some_iff.1 hg).1, fun j u hj => ?_⟩⟩
    have hjl : j < n * sz := by have := (List.getElem?_eq_some_iff.1 hj).1; omega
    simp only [World.cell?, hg, Option.isSome_none, Bool.false_eq_true, if_false]
    rw [← ht, List.getElem?_take, if_pos hjl] at hj
    simpa using hj
theorem own_ints {L : Nat} {w : World} {base e n : Nat} {v : Value} {xs : List Int} (h : w.ownsRow base e 1 v n (xs.map (Value.int .i64))) (hL : xs.length ≤ L) : n = xs.length ∧ Rd L 1 KInt w v xs := by
  obtain ⟨A, c, rfl, hc, hl, hz, hat⟩ := own_shape h
  have e : n = xs.length := by simpa using hl.symm
  subst e
  refine ⟨rfl, A, c, rfl, hc, hL, hz, fun h0 => ?_⟩
  obtain ⟨b, rfl, hb, hat⟩ := hat h0
  refine ⟨b, 0, rfl, hb, fun i hi => ⟨_, rfl, rfl, fun j hj => ?_⟩⟩
  obtain rfl : j = 0 := by simpa using hj
  simpa using hat i (.int .i64 xs[i]) (by simp [hi])
/-- What is asked of a predicate that is handed over as a function value. -/
def PB {α : Type} (P : Program) (g : Nat) (lb : Array Value) (K : World → α → List Value → Prop) (arg : List Value → Value) (p : α → Bool) (w : World) : Prop :=
  ∀ (W : World) (x : α) (cs : List Value), Below w.heap.size w W → K W x cs → Calls P g (#[arg cs] ++ lb) W fun e w' => e = .returned (.bool (p x)) ∧ Below W.heap.size W w'
def arg1 (cs : List Value) : Value := cs.getD 0 undef
def argN (cs : List Value) : Value := .agg cs.toArray
/-- The place of the first that fits, -1 where none does. -/
def idx {α : Type} (p : α → Bool) : List α → Int
  | [] => -1
  | x :: xs => if p x then 0 else if idx p xs < 0 then -1 else idx p xs + 1
theorem idx_hit {α : Type} (p : α → Bool) : ∀ (xs : List α) (k : Nat) (hk : k < xs.length), p xs[k] = true → (∀ j (h : j < xs.length), j < k → p xs[j] = false) → idx p xs = k
  | x :: xs, 0, _, h, _ => by simp at h; simp [idx, h]
  | x :: xs, k + 1, hk, h, hn => by
    have h0 := hn 0 (by simp) (by omega)
    simp only [List.getElem_cons_zero] at h0
    have := idx_hit p xs k (by simpa using hk) (by simpa using h) (fun j hj hjk => (hn (j + 1) (by simp; omega) (by omega) : _))
    simp only [idx, h0, Bool.false_eq_true, if_false, this]
    rw [if_neg (by omega)]; omega
theorem idx_miss {α : Type} (p : α → Bool) : ∀ (xs : List α), (∀ j (h : j < xs.length), p xs[j] = false) → idx p xs = -1
  | [], _ => rfl
  | x :: xs, hn => by
    have h0 := hn 0 (by simp)
    simp only [List.getElem_cons_zero] at h0
    have := idx_miss p xs (fun j hj => (hn (j + 1) (by simp; omega) : _))
    simp [idx, h0, this]
theorem idx_any {α : Type} (p : α → Bool) : ∀ (xs : List α), decide (0 ≤ idx p xs) = xs.any p
  | [] => rfl
  | x :: xs => by
    have := idx_any p xs
    cases h : p x with
    | true => simp [idx, h]
    | false =>
      simp only [List.any_cons, h, Bool.false_or, ← this, idx, Bool.false_eq_true, if_false]
      split
      · rename_i hl; simp; omega
      · rename_i hl; simp; omega
end Go.Proofs.YtkcgejbnhpccdaaGreat
