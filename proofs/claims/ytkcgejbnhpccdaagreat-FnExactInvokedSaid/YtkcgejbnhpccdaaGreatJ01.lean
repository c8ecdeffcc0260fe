/- What is read of memory as lists of values of my own plain types: the readings, how they move along a world that grows, and rows of the call's own. No conditions. The ends that contracts speak of, and an append to a row of numbers of the call own. No conditions. Runs of cells written, and rows of the call's own with elements of any kind. No conditions. Rows of the call's own that nothing turns, sizes of values, and what is owned is read. No conditions. Contracts of the laws' functions that measure. No conditions. Contracts of the laws' functions that copy. No conditions. What holds of memory in which numbers are changed for numbers. No conditions. Contracts of the laws' functions that mark and look again at a row of numbers. No conditions. Contracts of the laws' functions that compare. No conditions. The plain functions behind the checks of the program (widths, operators, forms), in Lean's own words. No conditions. The first contracts: small functions of numbers alone. No conditions. -/
import Derived.WalkKit
import Derived.WalkSpells
import Derived.WalkLawsBesides
import Derived.Lib.Hide
import Derived.Shelf.Abstract
import Derived.Test.YtkcgejbnhpccdaaGreatProg
import Derived.Laws.AppendOwnNone
import Derived.StillTailTactics
import Derived.Deep.QuietTactic
import Derived.BigQuiet
set_option linter.unusedSimpArgs false
set_option linter.unusedVariables false
namespace Go.Proofs.YtkcgejbnhpccdaaGreat
open Go.RowKit
/-- A fact that the walk's simp does not look into. -/
structure Hd (p : Prop) : Prop where mk :: (out : p)
/-! ### the data -/
structure XInst where
  op : Int
  w : Int
  a : Int
  b : Int
  c : Int
  imm : Int
  args : List Int
  deriving DecidableEq, Inhabited
structure XPhi where
  w : Int
  ins : List Int
  deriving DecidableEq, Inhabited
structure XTerm where
  kind : Int
  a : Int
  x : Int
  y : Int
  deriving DecidableEq, Inhabited
structure XBlock where
  phis : List XPhi
  insts : List XInst
  term : XTerm
  deriving DecidableEq, Inhabited
structure XFunc where
  params : List Int
  ret : Int
  blocks : List XBlock
  deriving DecidableEq, Inhabited
structure XMod where
  funcs : List XFunc
  deriving DecidableEq, Inhabited
structure XMIns where
  op : Int
  w : Int
  d : Int
  a : Int
  b : Int
  c : Int
  imm : Int
  deriving DecidableEq, Inhabited
structure XProg where
  regs : Int
  params : List Int
  widths : List Int
  code : List XMIns
  deriving DecidableEq, Inhabited

/-! ### reading: L bounds every length -/
/-- v is a slice whose elements, of sz cells each, are read by K as xs. -/
def Rd {α : Type} (L sz : Nat) (K : World → α → List Value → Prop) (w : World) (v : Value) (xs : List α) : Prop :=
  ∃ A c, v = .slice A xs.length c ∧ xs.length ≤ c ∧ xs.length ≤ L ∧ (A = none → c = 0) ∧
    (0 < xs.length → ∃ b off, A = some ⟨b, off, none⟩ ∧ b < w.heap.size ∧ ∀ i (hi : i < xs.length), ∃ cs, K w xs[i] cs ∧ cs.length = sz ∧ ∀ j (hj : j < cs.length), w.cell? ⟨b, off + i * sz + j, none⟩ = some cs[j])
class KM {α : Type} (K : World → α → List Value → Prop) : Prop where
  mv : ∀ {w w' : World} {x : α} {cs : List Value}, K w x cs → Below w.heap.size w w' → K w' x cs
theorem Rd.mv {α : Type} {L sz : Nat} {K : World → α → List Value → Prop} [KM K] {w w' : World} {v : Value} {xs : List α} (h : Rd L sz K w v xs) (hb : Below w.heap.size w w') : Rd L sz K w' v xs := by
  obtain ⟨A, c, rfl, h1, h2, hz, h3⟩ := h
  refine ⟨A, c, rfl, h1, h2, hz, fun h0 => ?_⟩
  obtain ⟨b, off, rfl, hlt, hat⟩ := h3 h0
  refine ⟨b, off, rfl, Nat.lt_of_lt_of_le hlt hb.size, fun i hi => ?_⟩
  obtain ⟨cs, hk, hl, hc⟩ := hat i hi
  exact ⟨cs, KM.mv hk hb, hl, fun j hj => (hb.cell (p := ⟨b, _, none⟩) hlt).trans (hc j hj)⟩
theorem Rd.len {α : Type} {L sz : Nat} {K : World → α → List Value → Prop} {w : World} {v : Value} {xs : List α} (h : Rd L sz K w v xs) : xs.length ≤ L := by
  obtain ⟨A, c, rfl, h1, h2, _, h3⟩ := h; exact h2
/-- The shape. -/
theorem Rd.sh {α : Type} {L sz : Nat} {K : World → α → List Value → Prop} {w : World} {v : Value} {xs : List α} (h : Rd L sz K w v xs) : ∃ A c, v = .slice A xs.length c ∧ xs.length ≤ c ∧ xs.length ≤ L ∧ Hd (Rd L sz K w v xs) := by
  have h' := h
  obtain ⟨A, c, rfl, h1, h2, _, h3⟩ := h; exact ⟨A, c, rfl, h1, h2, ⟨h'⟩⟩
/-- Element i: its cells. -/
theorem Rd.at_ {α : Type} {L sz : Nat} {K : World → α → List Value → Prop} {w : World} {v : Value} {xs : List α} (h : Rd L sz K w v xs) (i : Nat) (hi : i < xs.length) :
    ∃ b off c cs, v = .slice (some ⟨b, off, none⟩) xs.length c ∧ b < w.heap.size ∧ K w xs[i] cs ∧ cs.length = sz ∧ ∀ j (hj : j < cs.length), w.cell? ⟨b, off + i * sz + j, none⟩ = some cs[j] := by
  obtain ⟨A, c, rfl, h1, h2, _, h3⟩ := h
  obtain ⟨b, off, rfl, hlt, hat⟩ := h3 (by omega)
  obtain ⟨cs, hk, hl, hc⟩ := hat i hi
  exact ⟨b, off, c, cs, rfl, hlt, hk, hl, hc⟩
/-- Element i in a later world. -/
theorem Rd.in_ {α : Type} {L sz : Nat} {K : World → α → List Value → Prop} [KM K] {w wr : World} {A : Option Addr} {n c : Nat} {xs : List α} (h : Rd L sz K w (.slice A n c) xs) (hb : Below w.heap.size w wr) (i : Nat) (hi : i < xs.length) :
    ∃ b off cs, A = some ⟨b, off, none⟩ ∧ b < w.heap.size ∧ K wr xs[i] cs ∧ ∀ j v, cs[j]? = some v → wr.cell? ⟨b, off + i * sz + j, none⟩ = some v := by
  obtain ⟨b, off, c', cs, hv, hlt, hk, _, hc⟩ := h.at_ i hi
  cases hv
  refine ⟨b, off, cs, rfl, hlt, KM.mv hk hb, fun j v hv => ?_⟩
  obtain ⟨hj, rfl⟩ := List.getElem?_eq_some_iff.1 hv
  exact (hb.cell (p := ⟨b, _, none⟩) hlt).trans (hc j hj)
/-- The same; what it leads to as it was at first. -/
theorem Rd.in0 {α : Type} {L sz : Nat} {K : World → α → List Value → Prop} {w wr : World} {A : Option Addr} {n c : Nat} {xs : List α} (h : Rd L sz K w (.slice A n c) xs) (hb : Below w.heap.size w wr) (i : Nat) (hi : i < xs.length) :
    ∃ b off cs, A = some ⟨b, off, none⟩ ∧ b < w.heap.size ∧ K w xs[i] cs ∧ ∀ j v, cs[j]? = some v → wr.cell? ⟨b, off + i * sz + j, none⟩ = some v := by
  obtain ⟨b, off, c', cs, hv, hlt, hk, _, hc⟩ := h.at_ i hi
  cases hv
  refine ⟨b, off, cs, rfl, hlt, hk, fun j v hv => ?_⟩
  obtain ⟨hj, rfl⟩ := List.getElem?_eq_some_iff.1 hv
  exact (hb.cell (p := ⟨b, _, none⟩) hlt).trans (hc j hj)
theorem bcell {w w' : World} (hb : Below w.heap.size w w') : (∀ b o, b < w.heap.size → w'.cell? ⟨b, o, none⟩ = w.cell? ⟨b, o, none⟩) ∧ (∀ b o, b < w.heap.size → w'.frozen? ⟨b, o, none⟩ = w.frozen? ⟨b, o, none⟩) :=
  ⟨fun b o h => hb.cell (p := ⟨b, o, none⟩) h, fun b o h => hb.frozen (p := ⟨b, o, none⟩) h⟩
theorem bat {B : Nat} {w w' : World} (hb : Below B w w') (b : Nat) (h : b < B) (o : Nat) : w'.cell? ⟨b, o, none⟩ = w.cell? ⟨b, o, none⟩ := hb.cell (p := ⟨b, o, none⟩) h
theorem fat {B : Nat} {w w' : World} (hb : Below B w w') (b : Nat) (h : b < B) (o : Nat) : w'.frozen? ⟨b, o, none⟩ = w.frozen? ⟨b, o, none⟩ := hb.frozen (p := ⟨b, o, none⟩) h
theorem _root_.Go.RowKit.Below.then {w w1 w2 : World} (h : Below w.heap.size w w1) (k : Below w1.heap.size w1 w2) : Below w.heap.size w w2 := h.trans (k.mono h.size)
theorem _root_.Go.RowKit.Below.al {B : Nat} {w W : World} (h : Below B w W) (hB : B ≤ W.heap.size) (o : Obj) : Below B w (W.alloc o) := h.alloc hB o

/-! ### the kinds -/
section
variable (L : Nat)
def KInt (_ : World) (x : Int) (cs : List Value) : Prop := cs = [.int .i64 x]
instance : KM KInt := ⟨fun h _ => h⟩
abbrev RI := Rd L 1 KInt
def KPhi (w : World) (x : XPhi) (cs : List Value) : Prop := ∃ v, cs = [.int .i64 x.w, v] ∧ RI L w v x.ins
instance : KM (KPhi L) := ⟨fun ⟨v, h, r⟩ hb => ⟨v, h, r.mv hb⟩⟩
abbrev RPhi := Rd L 2 (KPhi L)
def KInst (w : World) (x : XInst) (cs : List Value) : Prop := ∃ v, cs = [.int .i64 x.op, .int .i64 x.w, .int .i64 x.a, .int .i64 x.b, .int .i64 x.c, .int .i64 x.imm, v] ∧ RI L w v x.args
instance : KM (KInst L) := ⟨fun ⟨v, h, r⟩ hb => ⟨v, h, r.mv hb⟩⟩
abbrev RInst := Rd L 7 (KInst L)
def KTerm (_ : World) (x : XTerm) (cs : List Value) : Prop := cs = [.int .i64 x.kind, .int .i64 x.a, .int .i64 x.x, .int .i64 x.y]
instance : KM KTerm := ⟨fun h _ => h⟩
def KBlock (w : World) (x : XBlock) (cs : List Value) : Prop := ∃ v1 v2, cs = [v1, v2, .int .i64 x.term.kind, .int .i64 x.term.a, .int .i64 x.term.x, .int .i64 x.term.y] ∧ RPhi L w v1 x.phis ∧ RInst L w v2 x.insts
instance : KM (KBlock L) := ⟨fun ⟨v, v', h, r, s⟩ hb => ⟨v, v', h, r.mv hb, s.mv hb⟩⟩
abbrev RBlock := Rd L 6 (KBlock L)
def KFunc (w : World) (x : XFunc) (cs : List Value) : Prop := ∃ v1 v2, cs = [v1, .int .i64 x.ret, v2] ∧ RI L w v1 x.params ∧ RBlock L w v2 x.blocks
instance : KM (KFunc L) := ⟨fun ⟨v, v', h, r, s⟩ hb => ⟨v, v', h, r.mv hb, s.mv hb⟩⟩
abbrev RFunc := Rd L 3 (KFunc L)
/-- A number that an int64 holds. -/
def InI (n : Int) : Prop := -9223372036854775808 ≤ n ∧ n ≤ 9223372036854775807
def KMIns (_ : World) (x : XMIns) (cs : List Value) : Prop := cs = [.int .i64 x.op, .int .i64 x.w, .int .i64 x.d, .int .i64 x.a, .int .i64 x.b, .int .i64 x.c, .int .i64 x.imm] ∧ InI x.op
instance : KM KMIns := ⟨fun h _ => h⟩
abbrev RMIns := Rd L 7 KMIns
def KProg (w : World) (x : XProg) (cs : List Value) : Prop := ∃ v1 v2 v3, cs = [.int .i64 x.regs, v1, v2, v3] ∧ RI L w v1 x.params ∧ RI L w v2 x.widths ∧ RMIns L w v3 x.code
instance : KM (KProg L) := ⟨fun ⟨v, v', v3, h, r, s, t⟩ hb => ⟨v, v', v3, h, r.mv hb, s.mv hb, t.mv hb⟩⟩
end
/-- The bound on lengths behind the laws' guards. -/
abbrev lm : Nat := 1048576
theorem Rd.sm {α : Type} {sz : Nat} {K : World → α → List Value → Prop} {w : World} {v : Value} {xs : List α} (h : Rd lm sz K w v xs) : ∃ A c, v = .slice A xs.length c ∧ xs.length ≤ c ∧ xs.length ≤ 1048576 ∧ Hd (Rd lm sz K w v xs) := h.sh

/-! ### rows of the call's own -/
theorem own_shape {w : World} {base e sz n : Nat} {v : Value} {cells : List Value} (h : w.ownsRow base e sz v n cells) : ∃ A c, v = .slice A n c ∧ n ≤ c ∧ cells.length = n * sz ∧ (A = none → c = 0) ∧ (0 < n → ∃ b, A = some ⟨b, 0, none⟩ ∧ b < w.heap.size ∧ ∀ j u, cells[j]? = some u → w.cell? ⟨b, j, none⟩ = some u) := by
  obtain ⟨hl, ⟨rfl, rfl⟩ | ⟨g, cap, cur, rfl, hb, hg, hn, hm, hs, ht⟩⟩ := h
  · exact ⟨none, 0, rfl, Nat.le_refl _, hl, fun _ => rfl, fun h => absurd h (Nat.lt_irrefl _)⟩
  · refine ⟨_, cap, rfl, hn, hl, fun h => (by cases h), fun _ => ⟨g, rfl, (Array.getElem?_eq_some_iff.1 hg).1, fun j u hj => ?_⟩⟩
    have hjl : j < n * sz := by have := (List.getElem?_eq_some_iff.1 hj).1; omega
    simp only [World.cell?, hg, Option.isSome_none, Bool.false_eq_true, if_false]
    rw [← ht, List.getElem?_take, if_pos hjl] at hj
    simpa using hj
theorem own_ints {L : Nat} {w : World} {base e n : Nat} {v : Value} {xs : List Int} (h : w.ownsRow base e 1 v n (xs.map (Value.int .i64))) (hL : xs.length ≤ L) : n = xs.length ∧ Rd L 1 KInt w v xs := by
  obtain ⟨A, c, rfl, hc, hl, hz, hat⟩ := own_shape h
  have e : n = xs.length := by simpa using hl.symm
  subst e
  refine ⟨rfl, A, c, rfl, hc, hL, hz, fun h0 => ?_⟩
  obtain ⟨b, rfl, hb, hat⟩ := hat h0
  refine ⟨b, 0, rfl, hb, fun i hi => ⟨_, rfl, rfl, fun j hj => ?_⟩⟩
  obtain rfl : j = 0 := by simpa using hj
  simpa using hat i (.int .i64 xs[i]) (by simp [hi])
/-- What is asked of a predicate that is handed over as a function value. -/
def PB {α : Type} (P : Program) (g : Nat) (lb : Array Value) (K : World → α → List Value → Prop) (arg : List Value → Value) (p : α → Bool) (w : World) : Prop :=
  ∀ (W : World) (x : α) (cs : List Value), Below w.heap.size w W → K W x cs → Calls P g (#[arg cs] ++ lb) W fun e w' => e = .returned (.bool (p x)) ∧ Below W.heap.size W w'
def arg1 (cs : List Value) : Value := cs.getD 0 undef
def argN (cs : List Value) : Value := .agg cs.toArray
/-- The place of the first that fits, -1 where none does. -/
def idx {α : Type} (p : α → Bool) : List α → Int
  | [] => -1
  | x :: xs => if p x then 0 else if idx p xs < 0 then -1 else idx p xs + 1
theorem idx_hit {α : Type} (p : α → Bool) : ∀ (xs : List α) (k : Nat) (hk : k < xs.length), p xs[k] = true → (∀ j (h : j < xs.length), j < k → p xs[j] = false) → idx p xs = k
  | x :: xs, 0, _, h, _ => by simp at h; simp [idx, h]
  | x :: xs, k + 1, hk, h, hn => by
    have h0 := hn 0 (by simp) (by omega)
    simp only [List.getElem_cons_zero] at h0
    have := idx_hit p xs k (by simpa using hk) (by simpa using h) (fun j hj hjk => (hn (j + 1) (by simp; omega) (by omega) : _))
    simp only [idx, h0, Bool.false_eq_true, if_false, this]
    rw [if_neg (by omega)]; omega
theorem idx_miss {α : Type} (p : α → Bool) : ∀ (xs : List α), (∀ j (h : j < xs.length), p xs[j] = false) → idx p xs = -1
  | [], _ => rfl
  | x :: xs, hn => by
    have h0 := hn 0 (by simp)
    simp only [List.getElem_cons_zero] at h0
    have := idx_miss p xs (fun j hj => (hn (j + 1) (by simp; omega) : _))
    simp [idx, h0, this]
theorem idx_any {α : Type} (p : α → Bool) : ∀ (xs : List α), decide (0 ≤ idx p xs) = xs.any p
  | [] => rfl
  | x :: xs => by
    have := idx_any p xs
    cases h : p x with
    | true => simp [idx, h]
    | false =>
      simp only [List.any_cons, h, Bool.false_or, ← this, idx, Bool.false_eq_true, if_false]
      split
      · rename_i hl; simp; omega
      · rename_i hl; simp; omega
end Go.Proofs.YtkcgejbnhpccdaaGreat
set_option linter.unusedSimpArgs false
set_option linter.unusedVariables false
namespace Go.Proofs.YtkcgejbnhpccdaaGreat
open Go.RowKit
/-- The call returns v and leaves the world. -/
def Same (v : Value) (w : World) (e : Ending) (w' : World) : Prop := e = .returned v ∧ w = w'
/-- The call returns v; what was there is as it was. -/
def Ret (v : Value) (w : World) (e : Ending) (w' : World) : Prop := e = .returned v ∧ Below w.heap.size w w'
theorem infoI : (Tryz.prog.info? 2).map (fun i => (i.zero, i.size, i.bytes)) = some (some (.int .i64 0), 1, 8) := by kernel_rfl
/-- A fresh list of numbers. -/
def RetI (xs : List Int) (w : World) (e : Ending) (w' : World) : Prop := ∃ v, e = .returned v ∧ w'.ownsRow w.heap.size 2 1 v xs.length (xs.map (Value.int .i64)) ∧ Below w.heap.size w w'
theorem Rd.src {w : World} {A : Option Addr} {n c : Nat} {xs : List Int} (h : Rd lm 1 KInt w (.slice A n c) xs) : n = xs.length ∧ xs.length ≤ 1048576 ∧ (A = none → xs = []) ∧ ∀ ad, A = some ad → ∀ j u, (xs.map (Value.int .i64))[j]? = some u → w.cell? (ad.add j) = some u := by
  obtain ⟨A', c', hv, h1, h2, _, h3⟩ := h
  cases hv
  refine ⟨rfl, h2, fun hA => ?_, fun ad hA j u hj => ?_⟩
  · rcases Nat.eq_zero_or_pos xs.length with h0 | h0
    · exact List.eq_nil_of_length_eq_zero h0
    · obtain ⟨b, off, e, _⟩ := h3 h0
      rw [hA] at e; cases e
  · have hjl := (List.getElem?_eq_some_iff.1 hj).1
    simp at hjl
    obtain ⟨b, off, e, hb, hat⟩ := h3 (by omega)
    rw [hA] at e; cases e
    obtain ⟨cs, rfl, _, hc⟩ := hat j hjl
    have := hc 0 (by simp)
    simp only [List.getElem?_map, List.getElem?_eq_getElem hjl, Option.map_some, Option.some.injEq] at hj
    subst hj
    simpa [Addr.add_lit] using this
theorem ownI_nil (w : World) (base : Nat) : w.ownsRow base 2 1 (.slice none 0 0) ([] : List Int).length (([] : List Int).map (Value.int .i64)) := World.ownsRow_nil w base _ _
/-- One number, in a new block. -/
theorem rd_one (W : World) (x : Int) : Rd lm 1 KInt (W.alloc (.cells #[.int .i64 x] 2)) (.slice (some ⟨W.heap.size, 0, none⟩) 1 1) [x] := by
  refine ⟨_, 1, rfl, by simp, by simp [lm], fun h => (by cases h), fun _ => ⟨W.heap.size, 0, rfl, by simp, fun i hi => ⟨_, rfl, rfl, fun j hj => ?_⟩⟩⟩
  obtain rfl : j = 0 := by simpa using hj
  obtain rfl : i = 0 := by simpa using hi
  simp
/-- append(v, ys...): v the call's own, ys whatever is read. -/
theorem app_I {ops : Array Oper} {rest : List Oper} {o : Oper} {a : Act} {Q : Exit → Act → World → Prop} {W : World} (hgd : o.guard = none) (s x : Operand)
    (ho : o.op = .call { callee := .builtin .append, args := #[s, x], argTypes := #[24, 24] }) (base : Nat) (v : Value) (xs ys : List Int) (hs : a.eval s = v)
    (hown : W.ownsRow base 2 1 v xs.length (xs.map (Value.int .i64))) (A : Option Addr) (n c : Nat) (hx : a.eval x = .slice A n c) (hr : RI lm W (.slice A n c) ys) (hl : xs.length ≤ 1099511627776) (hb : base ≤ W.heap.size)
    (h : ∀ v' w', w'.ownsRow base 2 1 v' (xs ++ ys).length ((xs ++ ys).map (Value.int .i64)) → W.grownBy w' v.ownBlock → wpList Tryz.prog ops Q rest (a.put o.dst v') w') : wpList Tryz.prog ops Q (o :: rest) a W := by
  obtain ⟨i0, hi, hz0, hz1, hz2⟩ := info_parts infoI
  obtain ⟨rfl, hle, hn, hsrc⟩ := hr.src
  cases A with
  | none =>
    obtain rfl := hn rfl
    obtain ⟨A', c', hv, _, _, hc0, _⟩ := hr
    cases hv
    obtain rfl := hc0 rfl
    refine wpList_append_own_none hgd s x 24 ho base 2 i0 1 Tryz.underlying24 hi v xs.length _ hs hown hx (h v W (by simpa using hown) ⟨rfl, rfl, rfl, Nat.le_refl _, fun _ _ _ => rfl⟩)
  | some ad =>
    refine wpList_append_own W hgd s x 24 ho base 2 i0 (.int .i64 0) 1 8 Tryz.underlying24 hi hz0 hz1 hz2 rfl (by decide) v xs.length _ hs hown ad ys.length c (ys.map (Value.int .i64)) hx (by simp) (hsrc ad rfl) (by simp [Value.oneCell']) (by unfold maxLen; omega) (by omega) hb fun v' w' h1 h2 _ => h v' w' (by simpa using h1) h2
theorem below_app {w W w' : World} {v : Value} {base n : Nat} {cs : List Value} (hb : Below w.heap.size w W) (hg : W.grownBy w' v.ownBlock) (hw : w.heap.size ≤ W.heap.size) (hown : W.ownsRow base 2 1 v n cs) (hbase : w.heap.size ≤ base) : Below w.heap.size w w' :=
  hb.grown hg hw fun k hk => Nat.le_trans hbase (by
    rcases hown.2 with ⟨rfl, _⟩ | ⟨g, cap, cur, rfl, h, _⟩
    · simp [Value.ownBlock] at hk
    · simp only [Value.ownBlock, Option.some.injEq] at hk; omega)
theorem own_block_ge {w : World} {base e sz n : Nat} {v : Value} {cs : List Value} (h : w.ownsRow base e sz v n cs) : ∀ k, v.ownBlock = some k → base ≤ k := by
  intro k hk
  rcases h.2 with ⟨rfl, _⟩ | ⟨g, cap, cur, rfl, h, _⟩
  · simp [Value.ownBlock] at hk
  · simp only [Value.ownBlock, Option.some.injEq] at hk; omega
theorem own_lower {w : World} {base base' e sz n : Nat} {v : Value} {cs : List Value} (h : w.ownsRow base e sz v n cs) (hb : base' ≤ base) : w.ownsRow base' e sz v n cs := by
  refine ⟨h.1, ?_⟩
  rcases h.2 with h' | ⟨g, cap, cur, hv, h1, h2⟩
  · exact .inl h'
  · exact .inr ⟨g, cap, cur, hv, Nat.le_trans hb h1, h2⟩
/-- A cell of a block that an append did not write. -/
theorem grown_cell {W w' : World} {row : Option Nat} (hg : W.grownBy w' row) {b : Nat} (hb : b < W.heap.size) (hne : row ≠ some b) (o : Nat) : w'.cell? ⟨b, o, none⟩ = W.cell? ⟨b, o, none⟩ :=
  World.cell?_of_block (w := W) (w' := w') (a := ⟨b, o, none⟩) (hg.block b hb fun e => hne (by first | exact e | exact e.symm))
theorem own_empty (W : World) (base g e sz : Nat) (hg : g = W.heap.size) (hb : base ≤ W.heap.size) : (W.alloc (.cells #[] e)).ownsRow base e sz (.slice (some ⟨g, 0, none⟩) 0 0) 0 [] := by
  subst hg
  exact World.ownsRow_made _ _ _ hb (by unfold maxLen; omega) (by simp)
/-- A row of one's own over whatever leaves old memory as it was: made since. -/
theorem own_mv {W w' : World} {base e sz n : Nat} {v : Value} {cs : List Value} (h : W.ownsRow base e sz v n cs) (hb : Below W.heap.size W w') : w'.ownsRow base e sz v n cs := by
  refine ⟨h.1, ?_⟩
  rcases h.2 with h' | ⟨g, cap, cur, hv, h1, h2, h3⟩
  · exact .inl h'
  · exact .inr ⟨g, cap, cur, hv, h1, (hb.block g (Array.getElem?_eq_some_iff.1 h2).1).trans h2, h3⟩
theorem bneT {a b : Int} (h : ¬ a = b) : (a != b) = true := by simpa using h
theorem beqF {a b : Int} (h : ¬ a = b) : (a == b) = false := by simpa using h
end Go.Proofs.YtkcgejbnhpccdaaGreat
set_option linter.unusedSimpArgs false
set_option linter.unusedVariables false
namespace Go.Proofs.YtkcgejbnhpccdaaGreat
open Go.RowKit
/-! ### a run of cells written -/
def setAll (w : World) (G : Nat) : Nat → List Value → World
  | _, [] => w
  | o, u :: r => setAll (w.setCell ⟨G, o, none⟩ u) G (o + 1) r
def setL (cells : List Value) : Nat → List Value → List Value
  | _, [] => cells
  | o, u :: r => setL (cells.set o u) (o + 1) r
theorem setL_len (us : List Value) : ∀ (cells : List Value) (o : Nat), (setL cells o us).length = cells.length := by
  induction us with
  | nil => intro cells o; rfl
  | cons u r ih => intro cells o; rw [setL, ih]; simp
theorem setL_out (us : List Value) : ∀ (cells : List Value) (o i : Nat), i < o ∨ o + us.length ≤ i → (setL cells o us)[i]? = cells[i]? := by
  induction us with
  | nil => intro cells o i _; rfl
  | cons u r ih =>
    intro cells o i h
    simp only [List.length_cons] at h
    rw [setL, ih _ _ _ (by omega), List.getElem?_set_ne (by omega)]
theorem setL_in (us : List Value) : ∀ (cells : List Value) (o j : Nat), j < us.length → o + us.length ≤ cells.length → (setL cells o us)[o + j]? = us[j]? := by
  induction us with
  | nil => intro cells o j h; simp at h
  | cons u r ih =>
    intro cells o j h hl
    simp only [List.length_cons] at h hl
    rw [setL]
    cases j with
    | zero =>
      rw [setL_out _ _ _ _ (by omega), Nat.add_zero, List.getElem?_set_self (by omega)]
      rfl
    | succ j =>
      rw [show o + (j + 1) = (o + 1) + j by omega, ih _ _ _ (by omega) (by simp; omega)]
      simp
theorem own_setAll {e sz G n cap : Nat} (us : List Value) : ∀ {base : Nat} {w : World} {cells : List Value} (o : Nat), w.ownsRow base e sz (.slice (some ⟨G, 0, none⟩) n cap) n cells → (setAll w G o us).ownsRow base e sz (.slice (some ⟨G, 0, none⟩) n cap) n (setL cells o us) := by
  induction us with
  | nil => intro base w cells o h; exact h
  | cons u r ih => intro base w cells o h; exact ih (o + 1) (World.ownsRow.stored h o u).1
theorem below_setAll {B G : Nat} (us : List Value) (hG : B ≤ G) : ∀ {a w : World} (o : Nat), Below B a w → Below B a (setAll w G o us) := by
  induction us with
  | nil => intro a w o h; exact h
  | cons u r ih => intro a w o h; exact ih (o + 1) (h.setCell (p := ⟨G, o, none⟩) hG u)
theorem setAll_other {G b : Nat} (us : List Value) (hne : b ≠ G) : ∀ (w : World) (o : Nat), (setAll w G o us).heap[b]? = w.heap[b]? := by
  induction us with
  | nil => intro w o; rfl
  | cons u r ih => intro w o; rw [setAll, ih, Below.heap_setCell _ _ _ _ hne]
theorem setAll_size {G : Nat} (us : List Value) : ∀ (w : World) (o : Nat), (setAll w G o us).heap.size = w.heap.size := by
  induction us with
  | nil => intro w o; rfl
  | cons u r ih => intro w o; rw [setAll, ih]; simp [World.setCell]

/-! ### rows of one's own with their elements -/
def Els {α : Type} (sz : Nat) (K : α → List Value → Prop) (cells : List Value) (xs : List α) (k : Nat) : Prop :=
  ∀ i (h : i < xs.length), i < k → ∃ cs, K xs[i] cs ∧ cs.length = sz ∧ ∀ j, j < sz → cells[i * sz + j]? = cs[j]?
def Own {α : Type} (lo e sz : Nat) (K : World → α → List Value → Prop) (w : World) (v : Value) (xs : List α) : Prop :=
  ∃ cells, w.ownsRow lo e sz v xs.length cells ∧ Els sz (K w) cells xs xs.length
theorem Els.imp {α : Type} {sz : Nat} {K K' : α → List Value → Prop} {cells : List Value} {xs : List α} {k : Nat} (h : Els sz K cells xs k) (hk : ∀ x cs, K x cs → K' x cs) : Els sz K' cells xs k :=
  fun i hi hik => by obtain ⟨cs, h1, h2⟩ := h i hi hik; exact ⟨cs, hk _ _ h1, h2⟩
theorem Els.set {α : Type} {sz : Nat} {K : α → List Value → Prop} {cells : List Value} {xs : List α} {k : Nat} (h : Els sz K cells xs k) (hk : k < xs.length) (us : List Value) (hu : us.length = sz) (hK : K xs[k] us) (hl : cells.length = xs.length * sz) : Els sz K (setL cells (k * sz) us) xs (k + 1) := by
  intro i hi hik
  by_cases e : i = k
  · subst e
    refine ⟨us, hK, hu, fun j hj => setL_in us cells _ j (by omega) ?_⟩
    have : (i + 1) * sz ≤ xs.length * sz := Nat.mul_le_mul_right _ (by omega)
    rw [Nat.add_mul] at this
    omega
  · obtain ⟨cs, h1, h2, h3⟩ := h i hi (by omega)
    refine ⟨cs, h1, h2, fun j hj => ?_⟩
    have : (i + 1) * sz ≤ k * sz := Nat.mul_le_mul_right _ (by omega)
    rw [Nat.add_mul] at this
    rw [setL_out us cells _ _ (by omega)]
    exact h3 j hj
theorem Own.mv {α : Type} {lo e sz : Nat} {K : World → α → List Value → Prop} [KM K] {w w' : World} {v : Value} {xs : List α} (h : Own lo e sz K w v xs) (hb : Below w.heap.size w w') : Own lo e sz K w' v xs := by
  obtain ⟨cells, h1, h2⟩ := h
  exact ⟨cells, own_mv h1 hb, h2.imp fun _ _ hk => KM.mv hk hb⟩
theorem Own.rd {α : Type} {L lo e sz : Nat} {K K' : World → α → List Value → Prop} {w : World} {v : Value} {xs : List α} (h : Own lo e sz K w v xs) (hk : ∀ x cs, K w x cs → K' w x cs) (hL : xs.length ≤ L) : Rd L sz K' w v xs := by
  obtain ⟨cells, h1, h2⟩ := h
  obtain ⟨A, c, rfl, hc, hl, hz, hat⟩ := own_shape h1
  refine ⟨A, c, rfl, hc, hL, hz, fun h0 => ?_⟩
  obtain ⟨b, rfl, hb, hat⟩ := hat h0
  refine ⟨b, 0, rfl, hb, fun i hi => ?_⟩
  obtain ⟨cs, k1, k2, k3⟩ := h2 i hi hi
  refine ⟨cs, hk _ _ k1, k2, fun j hj => ?_⟩
  rw [show 0 + i * sz + j = i * sz + j by omega]
  refine hat _ _ ?_
  rw [k3 j (by omega)]
  exact List.getElem?_eq_getElem hj
theorem Own.ints {lo : Nat} {w : World} {v : Value} {xs : List Int} (h : w.ownsRow lo 2 1 v xs.length (xs.map (Value.int .i64))) : Own lo 2 1 KInt w v xs :=
  ⟨_, h, fun i hi _ => ⟨_, rfl, rfl, fun j hj => by
    obtain rfl : j = 0 := by omega
    simp [hi]⟩⟩
theorem Own.lower {α : Type} {lo lo' e sz : Nat} {K K' : World → α → List Value → Prop} {w : World} {v : Value} {xs : List α} (h : Own lo e sz K w v xs) (hl : lo' ≤ lo) (hk : ∀ x cs, K w x cs → K' w x cs) : Own lo' e sz K' w v xs := by
  obtain ⟨cells, h1, h2⟩ := h
  exact ⟨cells, own_lower h1 hl, h2.imp hk⟩
theorem Els.nil {α : Type} (sz : Nat) (K : α → List Value → Prop) (cells : List Value) (xs : List α) : Els sz K cells xs 0 := fun i _ h => absurd h (Nat.not_lt_zero i)
end Go.Proofs.YtkcgejbnhpccdaaGreat
set_option linter.unusedSimpArgs false
set_option linter.unusedVariables false
namespace Go.Proofs.YtkcgejbnhpccdaaGreat
open Go.RowKit
theorem row_facts {w : World} {b e : Nat} {arr : Array Value} (h : w.heap[b]? = some (.cells arr e (0, 0))) : (∀ o, w.cell? ⟨b, o, none⟩ = arr[o]?) ∧ ∀ o, w.frozen? ⟨b, o, none⟩ = false :=
  ⟨fun o => by simp [World.cell?, h], fun o => by simp [World.frozen?, h]⟩
theorem heap_new (w : World) (arr : Array Value) (e b : Nat) (hb : b = w.heap.size) : (w.alloc (.cells arr e)).heap[b]? = some (.cells arr e (0, 0)) := by
  subst hb
  show (w.heap.push _)[w.heap.size]? = _
  simp
theorem heap_old {w : World} {o : Obj} {b : Nat} {x : Option Obj} (h : w.heap[b]? = x) (hb : b < w.heap.size) : (w.alloc o).heap[b]? = x := (Below.heap_alloc w o b hb).trans h
theorem heap_set {w : World} {b e j : Nat} {arr : Array Value} {u : Value} (h : w.heap[b]? = some (.cells arr e (0, 0))) : (w.setCell ⟨b, j, none⟩ u).heap[b]? = some (.cells (arr.setIfInBounds j u) e (0, 0)) := heap_setCell_same w b j arr e u h
theorem heap_off {w : World} {b g j : Nat} {u : Value} {x : Option Obj} (h : w.heap[b]? = x) (hne : b ≠ g) : (w.setCell ⟨g, j, none⟩ u).heap[b]? = x := (Below.heap_setCell w ⟨g, j, none⟩ u b hne).trans h
/-- From block lo on nothing turns. -/
structure Abv (lo : Nat) (w w' : World) : Prop where
  size : w.heap.size ≤ w'.heap.size
  block : ∀ b, lo ≤ b → b < w.heap.size → w'.heap[b]? = w.heap[b]?
theorem Abv.refl (lo : Nat) (w : World) : Abv lo w w := ⟨Nat.le_refl _, fun _ _ _ => rfl⟩
theorem Abv.trans {lo : Nat} {a b c : World} (h : Abv lo a b) (k : Abv lo b c) : Abv lo a c := ⟨Nat.le_trans h.size k.size, fun i h1 h2 => (k.block i h1 (Nat.lt_of_lt_of_le h2 h.size)).trans (h.block i h1 h2)⟩
theorem Abv.setCell {lo : Nat} {a w : World} (h : Abv lo a w) {p : Addr} (hp : p.block < lo) (u : Value) : Abv lo a (w.setCell p u) :=
  h.trans ⟨by simp [World.setCell], fun b h1 _ => Below.heap_setCell w p u b (by omega)⟩
theorem Abv.below {lo : Nat} {a w w' : World} (h : Abv lo a w) (hb : Below w.heap.size w w') : Abv lo a w' := h.trans ⟨hb.size, fun b _ h2 => hb.block b h2⟩
theorem Abv.alloc {lo : Nat} {a w : World} (h : Abv lo a w) (o : Obj) : Abv lo a (w.alloc o) := h.below ((Below.refl _ _).al (Nat.le_refl _) o)
theorem own_abv {lo base e sz n : Nat} {w w' : World} {v : Value} {cs : List Value} (h : w.ownsRow base e sz v n cs) (hl : lo ≤ base) (hb : Abv lo w w') : w'.ownsRow base e sz v n cs := by
  refine ⟨h.1, ?_⟩
  rcases h.2 with h' | ⟨g, cap, cur, hv, h1, h2, h3⟩
  · exact .inl h'
  · exact .inr ⟨g, cap, cur, hv, h1, (hb.block g (by omega) (Array.getElem?_eq_some_iff.1 h2).1).trans h2, h3⟩
/-- What a kind K lo says moves along Abv, and to a lower lo. -/
class KA {α : Type} (K : Nat → World → α → List Value → Prop) : Prop where
  mv : ∀ {lo : Nat} {w w' : World} {x : α} {cs : List Value}, K lo w x cs → Abv lo w w' → K lo w' x cs
  low : ∀ {lo lo' : Nat} {w : World} {x : α} {cs : List Value}, K lo w x cs → lo' ≤ lo → K lo' w x cs
theorem Own.abv {α : Type} {lo e sz : Nat} {K : Nat → World → α → List Value → Prop} [KA K] {w w' : World} {v : Value} {xs : List α} (h : Own lo e sz (K lo) w v xs) (hb : Abv lo w w') : Own lo e sz (K lo) w' v xs := by
  obtain ⟨cells, h1, h2⟩ := h
  exact ⟨cells, own_abv h1 (Nat.le_refl _) hb, h2.imp fun _ _ hk => KA.mv hk hb⟩
theorem Own.low {α : Type} {lo lo' e sz : Nat} {K : Nat → World → α → List Value → Prop} [KA K] {w : World} {v : Value} {xs : List α} (h : Own lo e sz (K lo) w v xs) (hl : lo' ≤ lo) : Own lo' e sz (K lo') w v xs :=
  h.lower hl fun _ _ hk => KA.low hk hl
def OInt (_ : Nat) (_ : World) (x : Int) (cs : List Value) : Prop := cs = [.int .i64 x]
instance : KA OInt := ⟨fun h _ => h, fun h _ => h⟩
abbrev OwI (lo : Nat) (w : World) (v : Value) (xs : List Int) : Prop := Own lo 2 1 (OInt lo) w v xs
def OPhi (lo : Nat) (w : World) (x : XPhi) (cs : List Value) : Prop := ∃ v, cs = [.int .i64 x.w, v] ∧ OwI lo w v x.ins
instance : KA OPhi := ⟨fun ⟨v, h, r⟩ hb => ⟨v, h, r.abv hb⟩, fun ⟨v, h, r⟩ hl => ⟨v, h, r.low hl⟩⟩
abbrev OwPhi (lo : Nat) (w : World) (v : Value) (xs : List XPhi) : Prop := Own lo 165 2 (OPhi lo) w v xs
def OInst (lo : Nat) (w : World) (x : XInst) (cs : List Value) : Prop := ∃ v, cs = [.int .i64 x.op, .int .i64 x.w, .int .i64 x.a, .int .i64 x.b, .int .i64 x.c, .int .i64 x.imm, v] ∧ OwI lo w v x.args
instance : KA OInst := ⟨fun ⟨v, h, r⟩ hb => ⟨v, h, r.abv hb⟩, fun ⟨v, h, r⟩ hl => ⟨v, h, r.low hl⟩⟩
abbrev OwInst (lo : Nat) (w : World) (v : Value) (xs : List XInst) : Prop := Own lo 26 7 (OInst lo) w v xs
def OBlock (lo : Nat) (w : World) (x : XBlock) (cs : List Value) : Prop := ∃ v1 v2, cs = [v1, v2, .int .i64 x.term.kind, .int .i64 x.term.a, .int .i64 x.term.x, .int .i64 x.term.y] ∧ OwPhi lo w v1 x.phis ∧ OwInst lo w v2 x.insts
instance : KA OBlock := ⟨fun ⟨v, v', h, r, s⟩ hb => ⟨v, v', h, r.abv hb, s.abv hb⟩, fun ⟨v, v', h, r, s⟩ hl => ⟨v, v', h, r.low hl, s.low hl⟩⟩
abbrev OwBlock (lo : Nat) (w : World) (v : Value) (xs : List XBlock) : Prop := Own lo 32 6 (OBlock lo) w v xs
def OFunc (lo : Nat) (w : World) (x : XFunc) (cs : List Value) : Prop := ∃ v1 v2, cs = [v1, .int .i64 x.ret, v2] ∧ OwI lo w v1 x.params ∧ OwBlock lo w v2 x.blocks
instance : KA OFunc := ⟨fun ⟨v, v', h, r, s⟩ hb => ⟨v, v', h, r.abv hb, s.abv hb⟩, fun ⟨v, v', h, r, s⟩ hl => ⟨v, v', h, r.low hl, s.low hl⟩⟩
theorem OwI.of {lo : Nat} {w : World} {v : Value} {xs : List Int} (h : w.ownsRow lo 2 1 v xs.length (xs.map (Value.int .i64))) : OwI lo w v xs := Own.ints h
/-! ### sizes -/
def sub (left : Int) (n : Nat) : Int := if left < n then -1 else left - n
theorem sub_cases (left : Int) (n : Nat) (h : 0 ≤ left) : (sub left n = -1 ∧ left < n) ∨ (sub left n = left - n ∧ 0 ≤ left - n ∧ (n : Int) ≤ left) := by unfold sub; split <;> omega
theorem sub_add (left : Int) (a b : Nat) (h : (a : Int) ≤ left) : sub (left - a) b = sub left (a + b) := by unfold sub; split <;> split <;> omega
theorem sub_lt (left : Int) (n : Nat) (h : left < n) : sub left n = -1 := by unfold sub; rw [if_pos h]
def wL {α : Type} (f : α → Nat) (l : List α) : Nat := l.length + (l.map f).sum
def wI (l : List Int) : Nat := l.length
def wPhi (p : XPhi) : Nat := p.ins.length
def wInst (i : XInst) : Nat := i.args.length
def wBlock (b : XBlock) : Nat := wL wPhi b.phis + wL wInst b.insts
def wFunc (f : XFunc) : Nat := f.params.length + wL wBlock f.blocks
theorem wL_snoc {α : Type} (f : α → Nat) (l : List α) (k : Nat) (h : k < l.length) : ((l.take (k + 1)).map f).sum = ((l.take k).map f).sum + f l[k] := by
  rw [List.take_succ_eq_append_getElem h, List.map_append, List.sum_append]; simp
theorem wL_le {α : Type} (f : α → Nat) (l : List α) (k : Nat) : ((l.take k).map f).sum ≤ (l.map f).sum := by
  have h : (l.map f).sum = ((l.take k ++ l.drop k).map f).sum := by rw [List.take_append_drop]
  rw [h, List.map_append, List.sum_append]; omega
theorem wL_mem {α : Type} (f : α → Nat) (l : List α) (x : α) (h : x ∈ l) : f x ≤ wL f l := by
  have : f x ≤ (l.map f).sum := by
    induction l with
    | nil => cases h
    | cons y r ih =>
      simp only [List.map_cons, List.sum_cons]
      rcases List.mem_cons.1 h with rfl | h
      · omega
      · have := ih h; omega
  unfold wL; omega
/-- Lengths as wide as memory lets them be. -/
abbrev lw : Nat := 9223372036854775807
theorem Rd.sw {α : Type} {sz : Nat} {K : World → α → List Value → Prop} {w : World} {v : Value} {xs : List α} (h : Rd lw sz K w v xs) : ∃ A c, v = .slice A xs.length c ∧ xs.length ≤ c ∧ xs.length ≤ 9223372036854775807 ∧ Hd (Rd lw sz K w v xs) := h.sh
theorem Rd.nar {α : Type} {L L' sz : Nat} {K K' : World → α → List Value → Prop} {w : World} {v : Value} {xs : List α} (h : Rd L sz K w v xs) (hl : xs.length ≤ L') (hk : ∀ x, x ∈ xs → ∀ cs, K w x cs → K' w x cs) : Rd L' sz K' w v xs := by
  obtain ⟨A, c, rfl, h1, h2, hz, h3⟩ := h
  refine ⟨A, c, rfl, h1, hl, hz, fun h0 => ?_⟩
  obtain ⟨b, off, rfl, hlt, hat⟩ := h3 h0
  refine ⟨b, off, rfl, hlt, fun i hi => ?_⟩
  obtain ⟨cs, hk1, hl, hc⟩ := hat i hi
  exact ⟨cs, hk _ (List.getElem_mem hi) _ hk1, hl, hc⟩
theorem nar_phi {w : World} {p : XPhi} {cs : List Value} (h : KPhi lw w p cs) (hw : wPhi p ≤ lm) : KPhi lm w p cs := by
  obtain ⟨v, rfl, hr⟩ := h; exact ⟨v, rfl, hr.nar hw fun _ _ _ hk => hk⟩
theorem nar_inst {w : World} {p : XInst} {cs : List Value} (h : KInst lw w p cs) (hw : wInst p ≤ lm) : KInst lm w p cs := by
  obtain ⟨v, rfl, hr⟩ := h; exact ⟨v, rfl, hr.nar hw fun _ _ _ hk => hk⟩
theorem nar_block {w : World} {p : XBlock} {cs : List Value} (h : KBlock lw w p cs) (hw : wBlock p ≤ lm) : KBlock lm w p cs := by
  obtain ⟨v, v', rfl, hr, hs⟩ := h
  unfold wBlock at hw
  have h1 : wL wPhi p.phis ≤ lm := by omega
  have h2 : wL wInst p.insts ≤ lm := by omega
  exact ⟨v, v', rfl, hr.nar (by unfold wL at h1; omega) fun x hx _ hk => nar_phi hk (Nat.le_trans (wL_mem _ _ _ hx) h1), hs.nar (by unfold wL at h2; omega) fun x hx _ hk => nar_inst hk (Nat.le_trans (wL_mem _ _ _ hx) h2)⟩
theorem nar_func {w : World} {p : XFunc} {cs : List Value} (h : KFunc lw w p cs) (hw : wFunc p ≤ lm) : KFunc lm w p cs := by
  obtain ⟨v, v', rfl, hr, hs⟩ := h
  unfold wFunc at hw
  have h2 : wL wBlock p.blocks ≤ lm := by omega
  exact ⟨v, v', rfl, hr.nar (by omega) fun _ _ _ hk => hk, hs.nar (by unfold wL at h2; omega) fun x hx _ hk => nar_block hk (Nat.le_trans (wL_mem _ _ _ hx) h2)⟩
/-! ### a row of one's own is read -/
theorem OwI.rd {lo : Nat} {w : World} {v : Value} {xs : List Int} (h : OwI lo w v xs) (hl : xs.length ≤ lm) : RI lm w v xs := Own.rd h (fun _ _ hk => hk) hl
theorem o_phi {lo : Nat} {w : World} {p : XPhi} {cs : List Value} (h : OPhi lo w p cs) (hw : wPhi p ≤ lm) : KPhi lm w p cs := by
  obtain ⟨v, rfl, hr⟩ := h; exact ⟨v, rfl, hr.rd hw⟩
theorem o_inst {lo : Nat} {w : World} {p : XInst} {cs : List Value} (h : OInst lo w p cs) (hw : wInst p ≤ lm) : KInst lm w p cs := by
  obtain ⟨v, rfl, hr⟩ := h; exact ⟨v, rfl, hr.rd hw⟩
theorem Own.rdm {α : Type} {L lo e sz : Nat} {K : World → α → List Value → Prop} {K' : World → α → List Value → Prop} {w : World} {v : Value} {xs : List α} (h : Own lo e sz K w v xs) (hk : ∀ x, x ∈ xs → ∀ cs, K w x cs → K' w x cs) (hL : xs.length ≤ L) : Rd L sz K' w v xs :=
  (Own.rd (K' := K) h (fun _ _ hk => hk) hL).nar hL hk
theorem o_block {lo : Nat} {w : World} {p : XBlock} {cs : List Value} (h : OBlock lo w p cs) (hw : wBlock p ≤ lm) : KBlock lm w p cs := by
  obtain ⟨v, v', rfl, hr, hs⟩ := h
  unfold wBlock at hw
  have h1 : wL wPhi p.phis ≤ lm := by omega
  have h2 : wL wInst p.insts ≤ lm := by omega
  exact ⟨v, v', rfl, hr.rdm (fun x hx _ hk => o_phi hk (Nat.le_trans (wL_mem _ _ _ hx) h1)) (by unfold wL at h1; omega), hs.rdm (fun x hx _ hk => o_inst hk (Nat.le_trans (wL_mem _ _ _ hx) h2)) (by unfold wL at h2; omega)⟩
theorem o_func {lo : Nat} {w : World} {p : XFunc} {cs : List Value} (h : OFunc lo w p cs) (hw : wFunc p ≤ lm) : KFunc lm w p cs := by
  obtain ⟨v, v', rfl, hr, hs⟩ := h
  unfold wFunc at hw
  have h2 : wL wBlock p.blocks ≤ lm := by omega
  exact ⟨v, v', rfl, hr.rd (by omega), hs.rdm (fun x hx _ hk => o_block hk (Nat.le_trans (wL_mem _ _ _ hx) h2)) (by unfold wL at h2; omega)⟩
end Go.Proofs.YtkcgejbnhpccdaaGreat
set_option linter.unusedSimpArgs false
set_option linter.unusedVariables false
namespace Go.Proofs.YtkcgejbnhpccdaaGreat
open Go.RowKit

theorem z_I (v : Value) (x : List Int) (left : Int) (w : World) (hv : RI lw w v x) (h0 : 0 ≤ left) (h1 : left ≤ 1048576) : Calls Tryz.prog 68 #[v, .int .i64 left] w (Ret (.int .i64 (sub left x.length)) w) := by
  obtain ⟨A, c, rfl, -, hl, -⟩ := hv.sw
  rcases sub_cases left x.length h0 with ⟨e, h⟩ | ⟨e, h, h'⟩
  all_goals
    rw [e]
    clear hv e
    go_enter Tryz.func68, Tryz.ntmps68
    go_wp2
    go_ret
    exact ⟨rfl, Below.refl _ _⟩

set_option maxHeartbeats 1000000 in
theorem z_Phi (x : XPhi) (cs : List Value) (left : Int) (w : World) (hk : KPhi lw w x cs) (h0 : 0 ≤ left) (h1 : left ≤ 1048576) : Calls Tryz.prog 220 #[.agg cs.toArray, .int .i64 left] w (Ret (.int .i64 (sub left (wPhi x))) w) := by
  obtain ⟨v1, rfl, r1⟩ := hk
  have hbl := fun o => (Below.refl w.heap.size w).al (Nat.le_refl _) o
  have z1 := fun W hW => z_I v1 x.ins left W (r1.mv hW) h0 h1
  unfold wPhi
  generalize x.ins.length = n1 at *
  rcases sub_cases left n1 h0 with ⟨e1, q1⟩ | ⟨e1, q1, q1'⟩
  · rw [e1] at z1
    rw [sub_lt left (n1) (by omega)]
    clear e1
    go_enter Tryz.func220, Tryz.ntmps220
    go_wp2_with fail
    refine (z1 _ (hbl _)).mono ?_; rintro e w1 ⟨rfl, hb1⟩
    go_wp2
    go_ret
    exact ⟨rfl, (hbl _).then hb1⟩
  · rw [e1] at z1 ⊢
    clear e1
    go_enter Tryz.func220, Tryz.ntmps220
    go_wp2_with fail
    refine (z1 _ (hbl _)).mono ?_; rintro e w1 ⟨rfl, hb1⟩
    go_wp2
    go_ret
    exact ⟨rfl, (hbl _).then hb1⟩
set_option maxHeartbeats 1000000 in
theorem z_PhiS (v : Value) (xs : List XPhi) (left : Int) (w : World) (hv : Rd lw 2 (KPhi lw) w v xs) (h0 : 0 ≤ left) (h1 : left ≤ 1048576) : Calls Tryz.prog 196 #[v, .int .i64 left] w (Ret (.int .i64 (sub left (wL wPhi xs))) w) := by
  obtain ⟨A, c, rfl, -, hl, hv0⟩ := hv.sw
  clear hv
  have hsum := Hd.mk (show wL wPhi xs = xs.length + (xs.map wPhi).sum from rfl)
  generalize hR : sub left (wL wPhi xs) = R at *
  have hR' := Hd.mk hR
  clear hR
  by_cases hlen : left < xs.length
  · have e := hR'.out
    rw [sub_lt _ _ (by have := hsum.out; omega)] at e
    subst e
    go_enter Tryz.func196, Tryz.ntmps196
    go_wp2
    go_ret
    exact ⟨rfl, Below.refl _ _⟩
  go_enter Tryz.func196, Tryz.ntmps196
  go_wp2
  go_loopw [1, 5] (fun s1 s5 wr => ∃ k : Nat, k ≤ xs.length ∧ s5 = .int .i64 k ∧ s1 = .int .i64 (left - (xs.length + ((xs.take k).map wPhi).sum : Nat)) ∧ Hd (((xs.length + ((xs.take k).map wPhi).sum : Nat) : Int) ≤ left) ∧ Hd (Below w.heap.size w wr)) (fun _ s5 _ => xs.length - (intOf s5).toNat)
  case atStart => exact ⟨0, Nat.zero_le _, rfl, by simp, ⟨by simp; omega⟩, ⟨Below.refl _ _⟩⟩
  case round =>
    obtain ⟨k, hk, rfl, rfl, hle, hbr⟩ := hrel
    by_cases hlt : k < xs.length
    · obtain ⟨b, off, cs, hA, hbl, ⟨v1, rfl, r1⟩, hat⟩ := hv0.out.in0 hbr.out k hlt
      cases hA
      have g0 := hat 0 _ rfl
      have g1 := hat 1 _ rfl
      simp at g0 g1
      clear hat
      have hsn := Hd.mk (wL_snoc wPhi xs k hlt)
      have hpl := Hd.mk (wL_le wPhi xs (k + 1))
      have hle' := hle.out
      generalize ((xs.take k).map wPhi).sum = s at *
      have hz := z_Phi xs[k] _ (left - (xs.length + s : Nat)) wr ⟨v1, rfl, r1.mv hbr.out⟩ (by omega) (by omega)
      generalize wPhi xs[k] = q at *
      generalize hp : xs.length + s = p at *
      have hp' := Hd.mk hp
      clear hp
      rw [sub_add left p q hle'] at hz
      rcases sub_cases left (p + q) h0 with ⟨e, h⟩ | ⟨e, h, h'⟩
      · rw [e] at hz
        have e2 := hR'.out
        rw [sub_lt _ _ (by have := hsum.out; have := hsn.out; have := hpl.out; have := hp'.out; omega)] at e2
        subst e2
        clear e
        go_wp2_with fail
        refine hz.mono ?_; rintro e w1 ⟨rfl, hb1⟩
        go_wp2
        go_ret
        exact ⟨rfl, hbr.out.then hb1⟩
      · rw [e] at hz
        clear e
        go_wp2_with fail
        refine hz.mono ?_; rintro e w1 ⟨rfl, hb1⟩
        have hbz := Hd.mk (hbr.out.then hb1)
        clear hb1 hz
        go_wp2
        go_roundw
        case rel => exact ⟨k + 1, by omega, by go_num, by rw [hsn.out, ← Nat.add_assoc, hp'.out]; simp, ⟨by rw [hsn.out, ← Nat.add_assoc, hp'.out]; omega⟩, hbz⟩
        case measure => simp [intOf]; omega
    · have e : k = xs.length := by omega
      subst e
      rw [List.take_length] at hle
      have e2 := hR'.out
      rcases sub_cases left (wL wPhi xs) h0 with ⟨e, h⟩ | ⟨e, h, h'⟩
      · exfalso
        have := hsum.out
        have := hle.out
        omega
      · rw [e, hsum.out] at e2
        go_wp2
        go_ret
        exact ⟨by rw [List.take_length]; exact congrArg (fun z => Ending.returned (.int .i64 z)) e2, hbr.out⟩

set_option maxHeartbeats 1000000 in
theorem z_Inst (x : XInst) (cs : List Value) (left : Int) (w : World) (hk : KInst lw w x cs) (h0 : 0 ≤ left) (h1 : left ≤ 1048576) : Calls Tryz.prog 221 #[.agg cs.toArray, .int .i64 left] w (Ret (.int .i64 (sub left (wInst x))) w) := by
  obtain ⟨v1, rfl, r1⟩ := hk
  have hbl := fun o => (Below.refl w.heap.size w).al (Nat.le_refl _) o
  have z1 := fun W hW => z_I v1 x.args left W (r1.mv hW) h0 h1
  unfold wInst
  generalize x.args.length = n1 at *
  rcases sub_cases left n1 h0 with ⟨e1, q1⟩ | ⟨e1, q1, q1'⟩
  · rw [e1] at z1
    rw [sub_lt left (n1) (by omega)]
    clear e1
    go_enter Tryz.func221, Tryz.ntmps221
    go_wp2_with fail
    refine (z1 _ (hbl _)).mono ?_; rintro e w1 ⟨rfl, hb1⟩
    go_wp2
    go_ret
    exact ⟨rfl, (hbl _).then hb1⟩
  · rw [e1] at z1 ⊢
    clear e1
    go_enter Tryz.func221, Tryz.ntmps221
    go_wp2_with fail
    refine (z1 _ (hbl _)).mono ?_; rintro e w1 ⟨rfl, hb1⟩
    go_wp2
    go_ret
    exact ⟨rfl, (hbl _).then hb1⟩
set_option maxHeartbeats 1000000 in
theorem z_InstS (v : Value) (xs : List XInst) (left : Int) (w : World) (hv : Rd lw 7 (KInst lw) w v xs) (h0 : 0 ≤ left) (h1 : left ≤ 1048576) : Calls Tryz.prog 197 #[v, .int .i64 left] w (Ret (.int .i64 (sub left (wL wInst xs))) w) := by
  obtain ⟨A, c, rfl, -, hl, hv0⟩ := hv.sw
  clear hv
  have hsum := Hd.mk (show wL wInst xs = xs.length + (xs.map wInst).sum from rfl)
  generalize hR : sub left (wL wInst xs) = R at *
  have hR' := Hd.mk hR
  clear hR
  by_cases hlen : left < xs.length
  · have e := hR'.out
    rw [sub_lt _ _ (by have := hsum.out; omega)] at e
    subst e
    go_enter Tryz.func197, Tryz.ntmps197
    go_wp2
    go_ret
    exact ⟨rfl, Below.refl _ _⟩
  go_enter Tryz.func197, Tryz.ntmps197
  go_wp2
  go_loopw [1, 5] (fun s1 s5 wr => ∃ k : Nat, k ≤ xs.length ∧ s5 = .int .i64 k ∧ s1 = .int .i64 (left - (xs.length + ((xs.take k).map wInst).sum : Nat)) ∧ Hd (((xs.length + ((xs.take k).map wInst).sum : Nat) : Int) ≤ left) ∧ Hd (Below w.heap.size w wr)) (fun _ s5 _ => xs.length - (intOf s5).toNat)
  case atStart => exact ⟨0, Nat.zero_le _, rfl, by simp, ⟨by simp; omega⟩, ⟨Below.refl _ _⟩⟩
  case round =>
    obtain ⟨k, hk, rfl, rfl, hle, hbr⟩ := hrel
    by_cases hlt : k < xs.length
    · obtain ⟨b, off, cs, hA, hbl, ⟨v1, rfl, r1⟩, hat⟩ := hv0.out.in0 hbr.out k hlt
      cases hA
      have g0 := hat 0 _ rfl
      have g1 := hat 1 _ rfl
      have g2 := hat 2 _ rfl
      have g3 := hat 3 _ rfl
      have g4 := hat 4 _ rfl
      have g5 := hat 5 _ rfl
      have g6 := hat 6 _ rfl
      simp at g0 g1 g2 g3 g4 g5 g6
      clear hat
      have hsn := Hd.mk (wL_snoc wInst xs k hlt)
      have hpl := Hd.mk (wL_le wInst xs (k + 1))
      have hle' := hle.out
      generalize ((xs.take k).map wInst).sum = s at *
      have hz := z_Inst xs[k] _ (left - (xs.length + s : Nat)) wr ⟨v1, rfl, r1.mv hbr.out⟩ (by omega) (by omega)
      generalize wInst xs[k] = q at *
      generalize hp : xs.length + s = p at *
      have hp' := Hd.mk hp
      clear hp
      rw [sub_add left p q hle'] at hz
      rcases sub_cases left (p + q) h0 with ⟨e, h⟩ | ⟨e, h, h'⟩
      · rw [e] at hz
        have e2 := hR'.out
        rw [sub_lt _ _ (by have := hsum.out; have := hsn.out; have := hpl.out; have := hp'.out; omega)] at e2
        subst e2
        clear e
        go_wp2_with fail
        refine hz.mono ?_; rintro e w1 ⟨rfl, hb1⟩
        go_wp2
        go_ret
        exact ⟨rfl, hbr.out.then hb1⟩
      · rw [e] at hz
        clear e
        go_wp2_with fail
        refine hz.mono ?_; rintro e w1 ⟨rfl, hb1⟩
        have hbz := Hd.mk (hbr.out.then hb1)
        clear hb1 hz
        go_wp2
        go_roundw
        case rel => exact ⟨k + 1, by omega, by go_num, by rw [hsn.out, ← Nat.add_assoc, hp'.out]; simp, ⟨by rw [hsn.out, ← Nat.add_assoc, hp'.out]; omega⟩, hbz⟩
        case measure => simp [intOf]; omega
    · have e : k = xs.length := by omega
      subst e
      rw [List.take_length] at hle
      have e2 := hR'.out
      rcases sub_cases left (wL wInst xs) h0 with ⟨e, h⟩ | ⟨e, h, h'⟩
      · exfalso
        have := hsum.out
        have := hle.out
        omega
      · rw [e, hsum.out] at e2
        go_wp2
        go_ret
        exact ⟨by rw [List.take_length]; exact congrArg (fun z => Ending.returned (.int .i64 z)) e2, hbr.out⟩

set_option maxHeartbeats 1000000 in
theorem z_Block (x : XBlock) (cs : List Value) (left : Int) (w : World) (hk : KBlock lw w x cs) (h0 : 0 ≤ left) (h1 : left ≤ 1048576) : Calls Tryz.prog 161 #[.agg cs.toArray, .int .i64 left] w (Ret (.int .i64 (sub left (wBlock x))) w) := by
  obtain ⟨v1, v2, rfl, r1, r2⟩ := hk
  have hbl := fun o => (Below.refl w.heap.size w).al (Nat.le_refl _) o
  have z1 := fun W hW => z_PhiS v1 x.phis left W (r1.mv hW) h0 h1
  have z2 := fun W hW left h0 h1 => z_InstS v2 x.insts left W (r2.mv hW) h0 h1
  unfold wBlock
  generalize wL wPhi x.phis = n1 at *
  generalize wL wInst x.insts = n2 at *
  rcases sub_cases left n1 h0 with ⟨e1, q1⟩ | ⟨e1, q1, q1'⟩
  · rw [e1] at z1
    rw [sub_lt left (n1 + n2) (by omega)]
    clear e1
    go_enter Tryz.func161, Tryz.ntmps161
    go_wp2_with fail
    refine (z1 _ (hbl _)).mono ?_; rintro e w1 ⟨rfl, hb1⟩
    go_wp2
    go_ret
    exact ⟨rfl, (hbl _).then hb1⟩
  · rw [e1] at z1
    rw [← sub_add left n1 n2 q1']
    replace z2 := fun W hW => z2 W hW (left - n1) q1 (by omega)
    clear e1
    generalize left - (n1 : Int) = l1 at *
    rcases sub_cases l1 n2 q1 with ⟨e2, q2⟩ | ⟨e2, q2, q2'⟩
    all_goals
      rw [e2] at z2 ⊢
      clear e2
      go_enter Tryz.func161, Tryz.ntmps161
      go_wp2_with fail
      refine (z1 _ (hbl _)).mono ?_; rintro e w1 ⟨rfl, hb1⟩
      have k0 := bat hb1 w.heap.size (by simp)
      simp at k0
      have hbw := Hd.mk ((hbl _).then hb1)
      go_wp2_with fail
      refine (z2 _ hbw.out).mono ?_; rintro e w2 ⟨rfl, hb2⟩
      go_wp2
      go_ret
      exact ⟨rfl, hbw.out.then hb2⟩
set_option maxHeartbeats 1000000 in
theorem z_BlockS (v : Value) (xs : List XBlock) (left : Int) (w : World) (hv : Rd lw 6 (KBlock lw) w v xs) (h0 : 0 ≤ left) (h1 : left ≤ 1048576) : Calls Tryz.prog 121 #[v, .int .i64 left] w (Ret (.int .i64 (sub left (wL wBlock xs))) w) := by
  obtain ⟨A, c, rfl, -, hl, hv0⟩ := hv.sw
  clear hv
  have hsum := Hd.mk (show wL wBlock xs = xs.length + (xs.map wBlock).sum from rfl)
  generalize hR : sub left (wL wBlock xs) = R at *
  have hR' := Hd.mk hR
  clear hR
  by_cases hlen : left < xs.length
  · have e := hR'.out
    rw [sub_lt _ _ (by have := hsum.out; omega)] at e
    subst e
    go_enter Tryz.func121, Tryz.ntmps121
    go_wp2
    go_ret
    exact ⟨rfl, Below.refl _ _⟩
  go_enter Tryz.func121, Tryz.ntmps121
  go_wp2
  go_loopw [1, 5] (fun s1 s5 wr => ∃ k : Nat, k ≤ xs.length ∧ s5 = .int .i64 k ∧ s1 = .int .i64 (left - (xs.length + ((xs.take k).map wBlock).sum : Nat)) ∧ Hd (((xs.length + ((xs.take k).map wBlock).sum : Nat) : Int) ≤ left) ∧ Hd (Below w.heap.size w wr)) (fun _ s5 _ => xs.length - (intOf s5).toNat)
  case atStart => exact ⟨0, Nat.zero_le _, rfl, by simp, ⟨by simp; omega⟩, ⟨Below.refl _ _⟩⟩
  case round =>
    obtain ⟨k, hk, rfl, rfl, hle, hbr⟩ := hrel
    by_cases hlt : k < xs.length
    · obtain ⟨b, off, cs, hA, hbl, ⟨v1, v2, rfl, r1, r2⟩, hat⟩ := hv0.out.in0 hbr.out k hlt
      cases hA
      have g0 := hat 0 _ rfl
      have g1 := hat 1 _ rfl
      have g2 := hat 2 _ rfl
      have g3 := hat 3 _ rfl
      have g4 := hat 4 _ rfl
      have g5 := hat 5 _ rfl
      simp at g0 g1 g2 g3 g4 g5
      clear hat
      have hsn := Hd.mk (wL_snoc wBlock xs k hlt)
      have hpl := Hd.mk (wL_le wBlock xs (k + 1))
      have hle' := hle.out
      generalize ((xs.take k).map wBlock).sum = s at *
      have hz := z_Block xs[k] _ (left - (xs.length + s : Nat)) wr ⟨v1, v2, rfl, r1.mv hbr.out, r2.mv hbr.out⟩ (by omega) (by omega)
      generalize wBlock xs[k] = q at *
      generalize hp : xs.length + s = p at *
      have hp' := Hd.mk hp
      clear hp
      rw [sub_add left p q hle'] at hz
      rcases sub_cases left (p + q) h0 with ⟨e, h⟩ | ⟨e, h, h'⟩
      · rw [e] at hz
        have e2 := hR'.out
        rw [sub_lt _ _ (by have := hsum.out; have := hsn.out; have := hpl.out; have := hp'.out; omega)] at e2
        subst e2
        clear e
        go_wp2_with fail
        refine hz.mono ?_; rintro e w1 ⟨rfl, hb1⟩
        go_wp2
        go_ret
        exact ⟨rfl, hbr.out.then hb1⟩
      · rw [e] at hz
        clear e
        go_wp2_with fail
        refine hz.mono ?_; rintro e w1 ⟨rfl, hb1⟩
        have hbz := Hd.mk (hbr.out.then hb1)
        clear hb1 hz
        go_wp2
        go_roundw
        case rel => exact ⟨k + 1, by omega, by go_num, by rw [hsn.out, ← Nat.add_assoc, hp'.out]; simp, ⟨by rw [hsn.out, ← Nat.add_assoc, hp'.out]; omega⟩, hbz⟩
        case measure => simp [intOf]; omega
    · have e : k = xs.length := by omega
      subst e
      rw [List.take_length] at hle
      have e2 := hR'.out
      rcases sub_cases left (wL wBlock xs) h0 with ⟨e, h⟩ | ⟨e, h, h'⟩
      · exfalso
        have := hsum.out
        have := hle.out
        omega
      · rw [e, hsum.out] at e2
        go_wp2
        go_ret
        exact ⟨by rw [List.take_length]; exact congrArg (fun z => Ending.returned (.int .i64 z)) e2, hbr.out⟩

set_option maxHeartbeats 1000000 in
theorem z_Func (x : XFunc) (cs : List Value) (left : Int) (w : World) (hk : KFunc lw w x cs) (h0 : 0 ≤ left) (h1 : left ≤ 1048576) : Calls Tryz.prog 85 #[.agg cs.toArray, .int .i64 left] w (Ret (.int .i64 (sub left (wFunc x))) w) := by
  obtain ⟨v1, v2, rfl, r1, r2⟩ := hk
  have hbl := fun o => (Below.refl w.heap.size w).al (Nat.le_refl _) o
  have z1 := fun W hW => z_I v1 x.params left W (r1.mv hW) h0 h1
  have z2 := fun W hW left h0 h1 => z_BlockS v2 x.blocks left W (r2.mv hW) h0 h1
  unfold wFunc
  generalize x.params.length = n1 at *
  generalize wL wBlock x.blocks = n2 at *
  rcases sub_cases left n1 h0 with ⟨e1, q1⟩ | ⟨e1, q1, q1'⟩
  · rw [e1] at z1
    rw [sub_lt left (n1 + n2) (by omega)]
    clear e1
    go_enter Tryz.func85, Tryz.ntmps85
    go_wp2_with fail
    refine (z1 _ (hbl _)).mono ?_; rintro e w1 ⟨rfl, hb1⟩
    go_wp2
    go_ret
    exact ⟨rfl, (hbl _).then hb1⟩
  · rw [e1] at z1
    rw [← sub_add left n1 n2 q1']
    replace z2 := fun W hW => z2 W hW (left - n1) q1 (by omega)
    clear e1
    generalize left - (n1 : Int) = l1 at *
    rcases sub_cases l1 n2 q1 with ⟨e2, q2⟩ | ⟨e2, q2, q2'⟩
    all_goals
      rw [e2] at z2 ⊢
      clear e2
      go_enter Tryz.func85, Tryz.ntmps85
      go_wp2_with fail
      refine (z1 _ (hbl _)).mono ?_; rintro e w1 ⟨rfl, hb1⟩
      have k0 := bat hb1 w.heap.size (by simp)
      simp at k0
      have hbw := Hd.mk ((hbl _).then hb1)
      go_wp2_with fail
      refine (z2 _ hbw.out).mono ?_; rintro e w2 ⟨rfl, hb2⟩
      go_wp2
      go_ret
      exact ⟨rfl, hbw.out.then hb2⟩
end Go.Proofs.YtkcgejbnhpccdaaGreat
set_option linter.unusedSimpArgs false
set_option linter.unusedVariables false
namespace Go.Proofs.YtkcgejbnhpccdaaGreat
open Go.RowKit
def RetX {α : Type} (K : Nat → World → α → List Value → Prop) (x : α) (w : World) (e : Ending) (w' : World) : Prop := ∃ cs, e = .returned (.agg cs.toArray) ∧ K w.heap.size w' x cs ∧ Below w.heap.size w w'
def RetL {α : Type} (e sz : Nat) (K : Nat → World → α → List Value → Prop) (xs : List α) (w : World) (en : Ending) (w' : World) : Prop := ∃ v, en = .returned v ∧ Own w.heap.size e sz (K w.heap.size) w' v xs ∧ Below w.heap.size w w'
theorem Own.sh {α : Type} {lo e sz : Nat} {K : World → α → List Value → Prop} {w : World} {v : Value} {xs : List α} (h : Own lo e sz K w v xs) : ∃ A c, v = .slice A xs.length c ∧ Hd (Own lo e sz K w v xs) := by
  have h' := h
  obtain ⟨cells, h1, h2⟩ := h
  obtain ⟨A, c, rfl, _⟩ := own_shape h1
  exact ⟨A, c, rfl, ⟨h'⟩⟩
theorem own_lt {w : World} {base e sz G n cap : Nat} {cs : List Value} (h : w.ownsRow base e sz (.slice (some ⟨G, 0, none⟩) n cap) n cs) : base ≤ G ∧ G < w.heap.size := by
  rcases h.2 with ⟨h', _⟩ | ⟨g, cap', cur, h', h1, h2, _⟩
  · cases h'
  · cases h'; exact ⟨h1, (Array.getElem?_eq_some_iff.1 h2).1⟩
theorem own_cell {w : World} {base e sz G n cap : Nat} {cs : List Value} (h : w.ownsRow base e sz (.slice (some ⟨G, 0, none⟩) n cap) n cs) (j : Nat) (hj : j < n * sz) : ∃ u, w.cell? ⟨G, j, none⟩ = some u := by
  rw [World.ownsRow.cellAt h j hj]
  exact ⟨_, List.getElem?_eq_getElem (by have := h.1; omega)⟩
theorem mk_own (W : World) (base e sz n : Nat) (z : Array Value) (hb : base ≤ W.heap.size) (hm : n ≤ maxLen) : (W.alloc (.cells (madeCells z (n * sz)) e)).ownsRow base e sz (.slice (some ⟨W.heap.size, 0, none⟩) n n) n (madeCells z (n * sz)).toList :=
  World.ownsRow_lit W _ n hb hm (size_madeCells _ _)
theorem mk_run (t e : Nat) (z : Value) (sz bytes n : Nat) (ht : Tryz.prog.underlying t = some (.slice e)) (hi : (Tryz.prog.info? e).map (fun i => (i.zero, i.size, i.bytes)) = some (some z, sz, bytes)) (hb : bytes * n ≤ 281474976710656) (hn : n ≤ 9223372036854775807) (W : World) :
    (Instr.makeSlice t (.int .i64 (n : Int)) (.int .i64 (n : Int))).run Tryz.prog W = .ok (.slice (some ⟨W.heap.size, 0, none⟩) n n) (W.alloc (.cells (madeCells z.cells (n * sz)) e)) := by
  obtain ⟨i0, h1, h2, h3, h4⟩ := info_parts hi
  have h := run_make (P := Tryz.prog) W t e i0 z ht h1 h2 .i64 .i64 n n (by omega) (Int.le_refl _) (by rw [h4]; have h9 : ((bytes * n : Nat) : Int) ≤ 281474976710656 := Int.ofNat_le.2 hb; rwa [Int.natCast_mul] at h9) (by omega)
  rw [h3] at h
  simpa using h
set_option maxHeartbeats 1000000 in
theorem t_I (v : Value) (x : List Int) (w : World) (hv : RI lm w v x) : Calls Tryz.prog 30 #[v] w (RetL 2 1 OInt x w) := by
  obtain ⟨A, c, rfl, -, hl, hv0⟩ := hv.sm
  clear hv
  have hmk := mk_run 24 2 (.int .i64 0) 1 8 x.length Tryz.underlying24 infoI (by omega) (by omega)
  rw [Nat.mul_one] at hmk
  go_enter Tryz.func30, Tryz.ntmps30
  go_wp2
  have hst := mk_own w w.heap.size 2 1 x.length #[.int .i64 0] (Nat.le_refl _) (by unfold maxLen; omega)
  rw [Nat.mul_one] at hst
  have hst' := Hd.mk hst
  clear hst hmk
  generalize hmc : madeCells #[.int .i64 0] x.length = mc at *
  clear hmc
  go_loopw [4] (fun s4 wr => ∃ k : Nat, ∃ cells, k ≤ x.length ∧ s4 = .int .i64 k ∧ Hd (wr.ownsRow w.heap.size 2 1 (.slice (some ⟨w.heap.size, 0, none⟩) x.length x.length) x.length cells) ∧ Hd (Els 1 (OInt w.heap.size wr) cells x k) ∧ Hd (Below w.heap.size w wr)) (fun s4 _ => x.length - (intOf s4).toNat)
  case atStart => exact ⟨0, _, Nat.zero_le _, rfl, hst', ⟨Els.nil _ _ _ _⟩, ⟨(Below.refl _ _).al (Nat.le_refl _) _⟩⟩
  case round =>
    clear hst'
    obtain ⟨k, cells, hk, rfl, ho, hels, hbr⟩ := hrel
    by_cases hlt : k < x.length
    · obtain ⟨b, off, cs, hA, hbl, hk1, hat⟩ := hv0.out.in0 hbr.out k hlt
      cases hA
      cases hk1
      have g0 := hat 0 _ rfl
      simp at g0
      clear hat
      obtain ⟨u0, q0⟩ := own_cell ho.out k (by omega)
      have fz := World.ownsRow.frozenAt ho.out k
      go_wp2
      go_roundw
      case rel =>
        have ho2 := own_setAll [.int .i64 x[k]] k ho.out
        have hel := Els.set hels.out hlt [.int .i64 x[k]] rfl rfl (by simpa using ho.out.1)
        rw [Nat.mul_one] at hel
        exact ⟨k + 1, _, by omega, by go_num, ⟨ho2⟩, ⟨hel.imp fun _ _ hh => hh⟩, ⟨below_setAll [.int .i64 x[k]] (Nat.le_refl _) k hbr.out⟩⟩
      case measure => simp [intOf]; omega
    · have e : k = x.length := by omega
      subst e
      go_wp2
      go_ret
      exact ⟨_, rfl, ⟨cells, ho.out, hels.out⟩, hbr.out⟩
theorem own_sw {α : Type} {K : Nat → World → α → List Value → Prop} {e sz : Nat} {w : World} {v : Value} {xs : List α} {lo : Nat} (h : Own lo e sz (K lo) w v xs) : ∃ A c, v = .slice A xs.length c ∧ Hd (Own lo e sz (K lo) w v xs) := h.sh
theorem abv_setAll {lo G : Nat} (us : List Value) (hG : G < lo) : ∀ {a w : World} (o : Nat), Abv lo a w → Abv lo a (setAll w G o us) := by
  induction us with
  | nil => intro a w o h; exact h
  | cons u r ih => intro a w o h; exact ih (o + 1) (h.setCell (p := ⟨G, o, none⟩) hG u)
theorem rel_step {α : Type} {K : Nat → World → α → List Value → Prop} [KA K] {lo base e sz G c : Nat} {w wr w1 : World} {xs : List α} {cells : List Value} {k : Nat} (us : List Value)
    (ho : wr.ownsRow base e sz (.slice (some ⟨G, 0, none⟩) xs.length c) xs.length cells) (hels : Els sz (K lo wr) cells xs k) (hG : G < lo) (hbG : base ≤ G) (hbr : Below base w wr) (hz : base ≤ wr.heap.size) (hb1 : Below wr.heap.size wr w1) (hlt : k < xs.length) (hu : us.length = sz) (hK : K lo w1 xs[k] us) :
    ∃ cells', (setAll w1 G (k * sz) us).ownsRow base e sz (.slice (some ⟨G, 0, none⟩) xs.length c) xs.length cells' ∧ Els sz (K lo (setAll w1 G (k * sz) us)) cells' xs (k + 1) ∧ Below base w (setAll w1 G (k * sz) us) := by
  have hA : Abv lo wr (setAll w1 G (k * sz) us) := abv_setAll us hG _ ((Abv.refl _ _).below hb1)
  have hA1 : Abv lo w1 (setAll w1 G (k * sz) us) := abv_setAll us hG _ (Abv.refl _ _)
  exact ⟨_, own_setAll us _ (own_mv ho hb1), Els.set (hels.imp fun _ _ hh => KA.mv hh hA) hlt us hu (KA.mv hK hA1) ho.1, below_setAll us hbG _ (hbr.trans (hb1.mono hz))⟩
set_option maxHeartbeats 4000000 in
theorem t_Phi (x : XPhi) (cs : List Value) (w : World) (hx : KPhi lm w x cs) : Calls Tryz.prog 222 #[.agg cs.toArray] w (RetX OPhi x w) := by
  obtain ⟨vins, rfl, hins⟩ := hx
  have tcins := fun W hW => t_I vins x.ins W (hins.mv hW)
  obtain ⟨Ains, cins, rfl, -, hlins, hr0⟩ := hins.sm
  clear hins hr0
  have hbl := fun o o' o'' => (((Below.refl w.heap.size w).al (Nat.le_refl _) o).al (by first | (simp; done) | (simp; omega)) o').al (by first | (simp; done) | (simp; omega)) o''
  go_enter Tryz.func222, Tryz.ntmps222
  go_wp2_with fail
  refine (tcins _ (hbl _ _ _)).mono ?_; rintro e w1 ⟨v, rfl, ho, hb1⟩
  have hB1 := (hbl _ _ _).then hb1
  have k0_1 := bat hb1 w.heap.size (by first | (simp; done) | (simp; omega))
  have f0_1 := fat hb1 w.heap.size (by first | (simp; done) | (simp; omega))
  have k1_1 := bat hb1 (w.heap.size + 1) (by first | (simp; done) | (simp; omega))
  have f1_1 := fat hb1 (w.heap.size + 1) (by first | (simp; done) | (simp; omega))
  have k2_1 := bat hb1 (w.heap.size + 2) (by first | (simp; done) | (simp; omega))
  have f2_1 := fat hb1 (w.heap.size + 2) (by first | (simp; done) | (simp; omega))
  have hz1 := hb1.size
  simp at k0_1 f0_1 k1_1 f1_1 k2_1 f2_1 hz1
  obtain ⟨Bins, dins, rfl, pins⟩ := own_sw ho
  clear ho
  go_wp2
  refine bodyPost_ret (v := .agg #[.int .i64 x.w, .slice Bins x.ins.length dins]) (by simp [results, Tryz.results222, go_sem, k1_1]) rfl ⟨_, rfl, ⟨_, rfl, (Own.abv pins.out ?pins).low (by first | (simp; done) | (simp; omega))⟩, ?h2⟩
  case pins =>
    repeat (refine Abv.setCell ?_ (by first | (simp; done) | (simp; omega)) _)
    exact Abv.refl _ _
  case h2 =>
    repeat (refine Below.setCell ?_ (by first | (simp; done) | (simp; omega)) _)
    exact hB1
theorem infoPhi : (Tryz.prog.info? 165).map (fun i => (i.zero, i.size, i.bytes)) = some (some (.agg #[.int .i64 0, .slice none 0 0]), 2, 32) := by kernel_rfl
set_option maxHeartbeats 4000000 in
theorem t_PhiS (v : Value) (x : List XPhi) (w : World) (hv : RPhi lm w v x) : Calls Tryz.prog 198 #[v] w (RetL 165 2 OPhi x w) := by
  obtain ⟨A, c, rfl, -, hl, hv0⟩ := hv.sm
  clear hv
  have hmk := mk_run 30 165 (.agg #[.int .i64 0, .slice none 0 0]) 2 32 x.length Tryz.underlying30 infoPhi (by omega) (by omega)
  go_enter Tryz.func198, Tryz.ntmps198
  go_wp2
  have hst := Hd.mk (mk_own w w.heap.size 165 2 x.length #[.int .i64 0, .slice none 0 0] (Nat.le_refl _) (by unfold maxLen; omega))
  clear hmk
  generalize hmc : madeCells #[.int .i64 0, .slice none 0 0] (x.length * 2) = mc at *
  clear hmc
  go_loopw [4] (fun s4 wr => ∃ k : Nat, ∃ cells, k ≤ x.length ∧ s4 = .int .i64 k ∧ Hd (wr.ownsRow w.heap.size 165 2 (.slice (some ⟨w.heap.size, 0, none⟩) x.length x.length) x.length cells) ∧ Hd (Els 2 (OPhi (w.heap.size + 1) wr) cells x k) ∧ Hd (Below w.heap.size w wr)) (fun s4 _ => x.length - (intOf s4).toNat)
  case atStart => exact ⟨0, _, Nat.zero_le _, rfl, hst, ⟨Els.nil _ _ _ _⟩, ⟨(Below.refl _ _).al (Nat.le_refl _) _⟩⟩
  case round =>
    clear hst
    obtain ⟨k, cells, hk, rfl, ho, hels, hbr⟩ := hrel
    by_cases hlt : k < x.length
    · obtain ⟨b, off, cs, hA, hbl, hkk, hat⟩ := hv0.out.in0 hbr.out k hlt
      cases hA
      have hsm := Hd.mk hbr.out.size
      have htc := fun W hW => t_Phi x[k] cs W (KM.mv hkk (hbr.out.then hW))
      obtain ⟨vins, rfl, hins⟩ := hkk
      obtain ⟨Ains, cins, rfl, -, hlins, -⟩ := hins.sm
      have g0 := hat 0 _ rfl
      have g1 := hat 1 _ rfl
      simp at g0 g1
      clear hat
      have hG := Hd.mk (own_lt ho.out)
      obtain ⟨u0, q0⟩ := own_cell ho.out (k * 2) (by omega)
      have z0 := World.ownsRow.frozenAt ho.out (k * 2)
      obtain ⟨u1, q1⟩ := own_cell ho.out (k * 2 + 1) (by omega)
      have z1 := World.ownsRow.frozenAt ho.out (k * 2 + 1)
      go_wp2_with fail
      refine (htc _ (Below.refl _ _)).mono ?_; rintro e w1 ⟨cs1, rfl, hcs, hb1⟩
      obtain ⟨nins, rfl, rins⟩ := hcs
      obtain ⟨Bins, dins, rfl, pins⟩ := own_sw rins
      clear rins
      replace q0 := (bat hb1 w.heap.size hG.out.2 (k * 2)).trans q0
      replace z0 := (fat hb1 w.heap.size hG.out.2 (k * 2)).trans z0
      replace q1 := (bat hb1 w.heap.size hG.out.2 (k * 2 + 1)).trans q1
      replace z1 := (fat hb1 w.heap.size hG.out.2 (k * 2 + 1)).trans z1
      go_wp2
      go_roundw
      case rel =>
        obtain ⟨cells', h1, h2, h3⟩ := rel_step [.int .i64 x[k].w, .slice Bins x[k].ins.length dins] ho.out hels.out (Nat.lt_succ_self _) (Nat.le_refl _) hbr.out hsm.out hb1 hlt rfl (KA.low (show OPhi wr.heap.size w1 x[k] _ from ⟨_, rfl, pins.out⟩) hG.out.2)
        exact ⟨k + 1, cells', by omega, by go_num, ⟨h1⟩, ⟨h2⟩, ⟨h3⟩⟩
      case measure => simp [intOf]; omega
    · have e : k = x.length := by omega
      subst e
      go_wp2
      go_ret
      exact ⟨_, rfl, ⟨cells, ho.out, hels.out.imp fun _ _ hh => KA.low hh (Nat.le_succ _)⟩, hbr.out⟩
set_option maxHeartbeats 4000000 in
theorem t_Inst (x : XInst) (cs : List Value) (w : World) (hx : KInst lm w x cs) : Calls Tryz.prog 223 #[.agg cs.toArray] w (RetX OInst x w) := by
  obtain ⟨vargs, rfl, hargs⟩ := hx
  have tcargs := fun W hW => t_I vargs x.args W (hargs.mv hW)
  obtain ⟨Aargs, cargs, rfl, -, hlargs, hr0⟩ := hargs.sm
  clear hargs hr0
  have hbl := fun o o' o'' => (((Below.refl w.heap.size w).al (Nat.le_refl _) o).al (by first | (simp; done) | (simp; omega)) o').al (by first | (simp; done) | (simp; omega)) o''
  go_enter Tryz.func223, Tryz.ntmps223
  go_wp2_with fail
  refine (tcargs _ (hbl _ _ _)).mono ?_; rintro e w1 ⟨v, rfl, ho, hb1⟩
  have hB1 := (hbl _ _ _).then hb1
  have k0_1 := bat hb1 w.heap.size (by first | (simp; done) | (simp; omega))
  have f0_1 := fat hb1 w.heap.size (by first | (simp; done) | (simp; omega))
  have k1_1 := bat hb1 (w.heap.size + 1) (by first | (simp; done) | (simp; omega))
  have f1_1 := fat hb1 (w.heap.size + 1) (by first | (simp; done) | (simp; omega))
  have k2_1 := bat hb1 (w.heap.size + 2) (by first | (simp; done) | (simp; omega))
  have f2_1 := fat hb1 (w.heap.size + 2) (by first | (simp; done) | (simp; omega))
  have hz1 := hb1.size
  simp at k0_1 f0_1 k1_1 f1_1 k2_1 f2_1 hz1
  obtain ⟨Bargs, dargs, rfl, pargs⟩ := own_sw ho
  clear ho
  go_wp2
  refine bodyPost_ret (v := .agg #[.int .i64 x.op, .int .i64 x.w, .int .i64 x.a, .int .i64 x.b, .int .i64 x.c, .int .i64 x.imm, .slice Bargs x.args.length dargs]) (by simp [results, Tryz.results223, go_sem, k1_1]) rfl ⟨_, rfl, ⟨_, rfl, (Own.abv pargs.out ?pargs).low (by first | (simp; done) | (simp; omega))⟩, ?h2⟩
  case pargs =>
    repeat (refine Abv.setCell ?_ (by first | (simp; done) | (simp; omega)) _)
    exact Abv.refl _ _
  case h2 =>
    repeat (refine Below.setCell ?_ (by first | (simp; done) | (simp; omega)) _)
    exact hB1
theorem infoInst : (Tryz.prog.info? 26).map (fun i => (i.zero, i.size, i.bytes)) = some (some (.agg #[.int .i64 0, .int .i64 0, .int .i64 0, .int .i64 0, .int .i64 0, .int .i64 0, .slice none 0 0]), 7, 72) := by kernel_rfl
set_option maxHeartbeats 4000000 in
theorem t_InstS (v : Value) (x : List XInst) (w : World) (hv : RInst lm w v x) : Calls Tryz.prog 199 #[v] w (RetL 26 7 OInst x w) := by
  obtain ⟨A, c, rfl, -, hl, hv0⟩ := hv.sm
  clear hv
  have hmk := mk_run 27 26 (.agg #[.int .i64 0, .int .i64 0, .int .i64 0, .int .i64 0, .int .i64 0, .int .i64 0, .slice none 0 0]) 7 72 x.length Tryz.underlying27 infoInst (by omega) (by omega)
  go_enter Tryz.func199, Tryz.ntmps199
  go_wp2
  have hst := Hd.mk (mk_own w w.heap.size 26 7 x.length #[.int .i64 0, .int .i64 0, .int .i64 0, .int .i64 0, .int .i64 0, .int .i64 0, .slice none 0 0] (Nat.le_refl _) (by unfold maxLen; omega))
  clear hmk
  generalize hmc : madeCells #[.int .i64 0, .int .i64 0, .int .i64 0, .int .i64 0, .int .i64 0, .int .i64 0, .slice none 0 0] (x.length * 7) = mc at *
  clear hmc
  go_loopw [4] (fun s4 wr => ∃ k : Nat, ∃ cells, k ≤ x.length ∧ s4 = .int .i64 k ∧ Hd (wr.ownsRow w.heap.size 26 7 (.slice (some ⟨w.heap.size, 0, none⟩) x.length x.length) x.length cells) ∧ Hd (Els 7 (OInst (w.heap.size + 1) wr) cells x k) ∧ Hd (Below w.heap.size w wr)) (fun s4 _ => x.length - (intOf s4).toNat)
  case atStart => exact ⟨0, _, Nat.zero_le _, rfl, hst, ⟨Els.nil _ _ _ _⟩, ⟨(Below.refl _ _).al (Nat.le_refl _) _⟩⟩
  case round =>
    clear hst
    obtain ⟨k, cells, hk, rfl, ho, hels, hbr⟩ := hrel
    by_cases hlt : k < x.length
    · obtain ⟨b, off, cs, hA, hbl, hkk, hat⟩ := hv0.out.in0 hbr.out k hlt
      cases hA
      have hsm := Hd.mk hbr.out.size
      have htc := fun W hW => t_Inst x[k] cs W (KM.mv hkk (hbr.out.then hW))
      obtain ⟨vargs, rfl, hargs⟩ := hkk
      obtain ⟨Aargs, cargs, rfl, -, hlargs, -⟩ := hargs.sm
      have g0 := hat 0 _ rfl
      have g1 := hat 1 _ rfl
      have g2 := hat 2 _ rfl
      have g3 := hat 3 _ rfl
      have g4 := hat 4 _ rfl
      have g5 := hat 5 _ rfl
      have g6 := hat 6 _ rfl
      simp at g0 g1 g2 g3 g4 g5 g6
      clear hat
      have hG := Hd.mk (own_lt ho.out)
      obtain ⟨u0, q0⟩ := own_cell ho.out (k * 7) (by omega)
      have z0 := World.ownsRow.frozenAt ho.out (k * 7)
      obtain ⟨u1, q1⟩ := own_cell ho.out (k * 7 + 1) (by omega)
      have z1 := World.ownsRow.frozenAt ho.out (k * 7 + 1)
      obtain ⟨u2, q2⟩ := own_cell ho.out (k * 7 + 2) (by omega)
      have z2 := World.ownsRow.frozenAt ho.out (k * 7 + 2)
      obtain ⟨u3, q3⟩ := own_cell ho.out (k * 7 + 3) (by omega)
      have z3 := World.ownsRow.frozenAt ho.out (k * 7 + 3)
      obtain ⟨u4, q4⟩ := own_cell ho.out (k * 7 + 4) (by omega)
      have z4 := World.ownsRow.frozenAt ho.out (k * 7 + 4)
      obtain ⟨u5, q5⟩ := own_cell ho.out (k * 7 + 5) (by omega)
      have z5 := World.ownsRow.frozenAt ho.out (k * 7 + 5)
      obtain ⟨u6, q6⟩ := own_cell ho.out (k * 7 + 6) (by omega)
      have z6 := World.ownsRow.frozenAt ho.out (k * 7 + 6)
      go_wp2_with fail
      refine (htc _ (Below.refl _ _)).mono ?_; rintro e w1 ⟨cs1, rfl, hcs, hb1⟩
      obtain ⟨nargs, rfl, rargs⟩ := hcs
      obtain ⟨Bargs, dargs, rfl, pargs⟩ := own_sw rargs
      clear rargs
      replace q0 := (bat hb1 w.heap.size hG.out.2 (k * 7)).trans q0
      replace z0 := (fat hb1 w.heap.size hG.out.2 (k * 7)).trans z0
      replace q1 := (bat hb1 w.heap.size hG.out.2 (k * 7 + 1)).trans q1
      replace z1 := (fat hb1 w.heap.size hG.out.2 (k * 7 + 1)).trans z1
      replace q2 := (bat hb1 w.heap.size hG.out.2 (k * 7 + 2)).trans q2
      replace z2 := (fat hb1 w.heap.size hG.out.2 (k * 7 + 2)).trans z2
      replace q3 := (bat hb1 w.heap.size hG.out.2 (k * 7 + 3)).trans q3
      replace z3 := (fat hb1 w.heap.size hG.out.2 (k * 7 + 3)).trans z3
      replace q4 := (bat hb1 w.heap.size hG.out.2 (k * 7 + 4)).trans q4
      replace z4 := (fat hb1 w.heap.size hG.out.2 (k * 7 + 4)).trans z4
      replace q5 := (bat hb1 w.heap.size hG.out.2 (k * 7 + 5)).trans q5
      replace z5 := (fat hb1 w.heap.size hG.out.2 (k * 7 + 5)).trans z5
      replace q6 := (bat hb1 w.heap.size hG.out.2 (k * 7 + 6)).trans q6
      replace z6 := (fat hb1 w.heap.size hG.out.2 (k * 7 + 6)).trans z6
      go_wp2
      go_roundw
      case rel =>
        obtain ⟨cells', h1, h2, h3⟩ := rel_step [.int .i64 x[k].op, .int .i64 x[k].w, .int .i64 x[k].a, .int .i64 x[k].b, .int .i64 x[k].c, .int .i64 x[k].imm, .slice Bargs x[k].args.length dargs] ho.out hels.out (Nat.lt_succ_self _) (Nat.le_refl _) hbr.out hsm.out hb1 hlt rfl (KA.low (show OInst wr.heap.size w1 x[k] _ from ⟨_, rfl, pargs.out⟩) hG.out.2)
        exact ⟨k + 1, cells', by omega, by go_num, ⟨h1⟩, ⟨h2⟩, ⟨h3⟩⟩
      case measure => simp [intOf]; omega
    · have e : k = x.length := by omega
      subst e
      go_wp2
      go_ret
      exact ⟨_, rfl, ⟨cells, ho.out, hels.out.imp fun _ _ hh => KA.low hh (Nat.le_succ _)⟩, hbr.out⟩
theorem t_Term (x : XTerm) (w : World) : Calls Tryz.prog 200 #[.agg #[.int .i64 x.kind, .int .i64 x.a, .int .i64 x.x, .int .i64 x.y]] w (Ret (.agg #[.int .i64 x.kind, .int .i64 x.a, .int .i64 x.x, .int .i64 x.y]) w) := by
  have hbl := fun o o' o'' => (((Below.refl w.heap.size w).al (Nat.le_refl _) o).al (by first | (simp; done) | (simp; omega)) o').al (by first | (simp; done) | (simp; omega)) o''
  go_enter Tryz.func200, Tryz.ntmps200
  go_wp2
  refine bodyPost_ret (v := .agg #[.int .i64 x.kind, .int .i64 x.a, .int .i64 x.x, .int .i64 x.y]) (by simp [results, Tryz.results200, go_sem]) rfl ⟨rfl, ?h2⟩
  case h2 =>
    repeat (refine Below.setCell ?_ (by first | (simp; done) | (simp; omega)) _)
    exact hbl _ _ _
set_option maxHeartbeats 4000000 in
theorem t_Block (x : XBlock) (cs : List Value) (w : World) (hx : KBlock lm w x cs) : Calls Tryz.prog 162 #[.agg cs.toArray] w (RetX OBlock x w) := by
  obtain ⟨vphis, vinsts, rfl, hphis, hinsts⟩ := hx
  have tcphis := fun W hW => t_PhiS vphis x.phis W (hphis.mv hW)
  have tcinsts := fun W hW => t_InstS vinsts x.insts W (hinsts.mv hW)
  have tcterm := fun W => t_Term x.term W
  obtain ⟨Aphis, cphis, rfl, -, hlphis, hr0⟩ := hphis.sm
  clear hphis hr0
  obtain ⟨Ainsts, cinsts, rfl, -, hlinsts, hr0⟩ := hinsts.sm
  clear hinsts hr0
  have hbl := fun o o' o'' => (((Below.refl w.heap.size w).al (Nat.le_refl _) o).al (by first | (simp; done) | (simp; omega)) o').al (by first | (simp; done) | (simp; omega)) o''
  go_enter Tryz.func162, Tryz.ntmps162
  go_wp2_with fail
  refine (tcphis _ (hbl _ _ _)).mono ?_; rintro e w1 ⟨v, rfl, ho, hb1⟩
  have hB1 := (hbl _ _ _).then hb1
  have k0_1 := bat hb1 w.heap.size (by first | (simp; done) | (simp; omega))
  have f0_1 := fat hb1 w.heap.size (by first | (simp; done) | (simp; omega))
  have k1_1 := bat hb1 (w.heap.size + 1) (by first | (simp; done) | (simp; omega))
  have f1_1 := fat hb1 (w.heap.size + 1) (by first | (simp; done) | (simp; omega))
  have k2_1 := bat hb1 (w.heap.size + 2) (by first | (simp; done) | (simp; omega))
  have f2_1 := fat hb1 (w.heap.size + 2) (by first | (simp; done) | (simp; omega))
  have hz1 := hb1.size
  simp at k0_1 f0_1 k1_1 f1_1 k2_1 f2_1 hz1
  obtain ⟨Bphis, dphis, rfl, pphis⟩ := own_sw ho
  clear ho
  go_wp2_with fail
  refine (tcinsts _ ?hB).mono ?_
  case hB =>
    repeat (refine Below.setCell ?_ (by first | (simp; done) | (simp; omega)) _)
    exact hB1
  rintro e w2 ⟨v, rfl, ho, hb2⟩
  have hB2 : Below w.heap.size w w2 := by
    refine Below.then ?_ hb2
    repeat (refine Below.setCell ?_ (by first | (simp; done) | (simp; omega)) _)
    exact hB1
  have k0_2 := bat hb2 w.heap.size (by first | (simp; done) | (simp; omega))
  have f0_2 := fat hb2 w.heap.size (by first | (simp; done) | (simp; omega))
  have k1_2 := bat hb2 (w.heap.size + 1) (by first | (simp; done) | (simp; omega))
  have f1_2 := fat hb2 (w.heap.size + 1) (by first | (simp; done) | (simp; omega))
  have k2_2 := bat hb2 (w.heap.size + 2) (by first | (simp; done) | (simp; omega))
  have f2_2 := fat hb2 (w.heap.size + 2) (by first | (simp; done) | (simp; omega))
  have hz2 := hb2.size
  simp at k0_2 f0_2 k1_2 f1_2 k2_2 f2_2 hz2
  obtain ⟨Binsts, dinsts, rfl, pinsts⟩ := own_sw ho
  clear ho
  go_wp2_with fail
  refine (tcterm _).mono ?_; rintro e w3 ⟨rfl, hb3⟩
  have hB3 : Below w.heap.size w w3 := by
    refine Below.then ?_ hb3
    repeat (refine Below.setCell ?_ (by first | (simp; done) | (simp; omega)) _)
    exact hB2
  have k0_3 := bat hb3 w.heap.size (by first | (simp; done) | (simp; omega))
  have f0_3 := fat hb3 w.heap.size (by first | (simp; done) | (simp; omega))
  have k1_3 := bat hb3 (w.heap.size + 1) (by first | (simp; done) | (simp; omega))
  have f1_3 := fat hb3 (w.heap.size + 1) (by first | (simp; done) | (simp; omega))
  have k2_3 := bat hb3 (w.heap.size + 2) (by first | (simp; done) | (simp; omega))
  have f2_3 := fat hb3 (w.heap.size + 2) (by first | (simp; done) | (simp; omega))
  have hz3 := hb3.size
  simp at k0_3 f0_3 k1_3 f1_3 k2_3 f2_3 hz3
  go_wp2
  refine bodyPost_ret (v := .agg #[.slice Bphis x.phis.length dphis, .slice Binsts x.insts.length dinsts, .int .i64 x.term.kind, .int .i64 x.term.a, .int .i64 x.term.x, .int .i64 x.term.y]) (by simp [results, Tryz.results162, go_sem, k1_1, k1_2, k1_3]) rfl ⟨_, rfl, ⟨_, _, rfl, (Own.abv pphis.out ?pphis).low (by first | (simp; done) | (simp; omega)), (Own.abv pinsts.out ?pinsts).low (by first | (simp; done) | (simp; omega))⟩, ?h2⟩
  case pphis =>
    repeat (refine Abv.setCell ?_ (by first | (simp; done) | (simp; omega)) _)
    refine Abv.below ?_ hb3
    repeat (refine Abv.setCell ?_ (by first | (simp; done) | (simp; omega)) _)
    refine Abv.below ?_ hb2
    repeat (refine Abv.setCell ?_ (by first | (simp; done) | (simp; omega)) _)
    exact Abv.refl _ _
  case pinsts =>
    repeat (refine Abv.setCell ?_ (by first | (simp; done) | (simp; omega)) _)
    refine Abv.below ?_ hb3
    repeat (refine Abv.setCell ?_ (by first | (simp; done) | (simp; omega)) _)
    exact Abv.refl _ _
  case h2 =>
    repeat (refine Below.setCell ?_ (by first | (simp; done) | (simp; omega)) _)
    exact hB3
theorem infoBlock : (Tryz.prog.info? 32).map (fun i => (i.zero, i.size, i.bytes)) = some (some (.agg #[.slice none 0 0, .slice none 0 0, .int .i64 0, .int .i64 0, .int .i64 0, .int .i64 0]), 6, 80) := by kernel_rfl
set_option maxHeartbeats 4000000 in
theorem t_BlockS (v : Value) (x : List XBlock) (w : World) (hv : RBlock lm w v x) : Calls Tryz.prog 122 #[v] w (RetL 32 6 OBlock x w) := by
  obtain ⟨A, c, rfl, -, hl, hv0⟩ := hv.sm
  clear hv
  have hmk := mk_run 33 32 (.agg #[.slice none 0 0, .slice none 0 0, .int .i64 0, .int .i64 0, .int .i64 0, .int .i64 0]) 6 80 x.length Tryz.underlying33 infoBlock (by omega) (by omega)
  go_enter Tryz.func122, Tryz.ntmps122
  go_wp2
  have hst := Hd.mk (mk_own w w.heap.size 32 6 x.length #[.slice none 0 0, .slice none 0 0, .int .i64 0, .int .i64 0, .int .i64 0, .int .i64 0] (Nat.le_refl _) (by unfold maxLen; omega))
  clear hmk
  generalize hmc : madeCells #[.slice none 0 0, .slice none 0 0, .int .i64 0, .int .i64 0, .int .i64 0, .int .i64 0] (x.length * 6) = mc at *
  clear hmc
  go_loopw [4] (fun s4 wr => ∃ k : Nat, ∃ cells, k ≤ x.length ∧ s4 = .int .i64 k ∧ Hd (wr.ownsRow w.heap.size 32 6 (.slice (some ⟨w.heap.size, 0, none⟩) x.length x.length) x.length cells) ∧ Hd (Els 6 (OBlock (w.heap.size + 1) wr) cells x k) ∧ Hd (Below w.heap.size w wr)) (fun s4 _ => x.length - (intOf s4).toNat)
  case atStart => exact ⟨0, _, Nat.zero_le _, rfl, hst, ⟨Els.nil _ _ _ _⟩, ⟨(Below.refl _ _).al (Nat.le_refl _) _⟩⟩
  case round =>
    clear hst
    obtain ⟨k, cells, hk, rfl, ho, hels, hbr⟩ := hrel
    by_cases hlt : k < x.length
    · obtain ⟨b, off, cs, hA, hbl, hkk, hat⟩ := hv0.out.in0 hbr.out k hlt
      cases hA
      have hsm := Hd.mk hbr.out.size
      have htc := fun W hW => t_Block x[k] cs W (KM.mv hkk (hbr.out.then hW))
      obtain ⟨vphis, vinsts, rfl, hphis, hinsts⟩ := hkk
      obtain ⟨Aphis, cphis, rfl, -, hlphis, -⟩ := hphis.sm
      obtain ⟨Ainsts, cinsts, rfl, -, hlinsts, -⟩ := hinsts.sm
      have g0 := hat 0 _ rfl
      have g1 := hat 1 _ rfl
      have g2 := hat 2 _ rfl
      have g3 := hat 3 _ rfl
      have g4 := hat 4 _ rfl
      have g5 := hat 5 _ rfl
      simp at g0 g1 g2 g3 g4 g5
      clear hat
      have hG := Hd.mk (own_lt ho.out)
      obtain ⟨u0, q0⟩ := own_cell ho.out (k * 6) (by omega)
      have z0 := World.ownsRow.frozenAt ho.out (k * 6)
      obtain ⟨u1, q1⟩ := own_cell ho.out (k * 6 + 1) (by omega)
      have z1 := World.ownsRow.frozenAt ho.out (k * 6 + 1)
      obtain ⟨u2, q2⟩ := own_cell ho.out (k * 6 + 2) (by omega)
      have z2 := World.ownsRow.frozenAt ho.out (k * 6 + 2)
      obtain ⟨u3, q3⟩ := own_cell ho.out (k * 6 + 3) (by omega)
      have z3 := World.ownsRow.frozenAt ho.out (k * 6 + 3)
      obtain ⟨u4, q4⟩ := own_cell ho.out (k * 6 + 4) (by omega)
      have z4 := World.ownsRow.frozenAt ho.out (k * 6 + 4)
      obtain ⟨u5, q5⟩ := own_cell ho.out (k * 6 + 5) (by omega)
      have z5 := World.ownsRow.frozenAt ho.out (k * 6 + 5)
      go_wp2_with fail
      refine (htc _ (Below.refl _ _)).mono ?_; rintro e w1 ⟨cs1, rfl, hcs, hb1⟩
      obtain ⟨nphis, ninsts, rfl, rphis, rinsts⟩ := hcs
      obtain ⟨Bphis, dphis, rfl, pphis⟩ := own_sw rphis
      clear rphis
      obtain ⟨Binsts, dinsts, rfl, pinsts⟩ := own_sw rinsts
      clear rinsts
      replace q0 := (bat hb1 w.heap.size hG.out.2 (k * 6)).trans q0
      replace z0 := (fat hb1 w.heap.size hG.out.2 (k * 6)).trans z0
      replace q1 := (bat hb1 w.heap.size hG.out.2 (k * 6 + 1)).trans q1
      replace z1 := (fat hb1 w.heap.size hG.out.2 (k * 6 + 1)).trans z1
      replace q2 := (bat hb1 w.heap.size hG.out.2 (k * 6 + 2)).trans q2
      replace z2 := (fat hb1 w.heap.size hG.out.2 (k * 6 + 2)).trans z2
      replace q3 := (bat hb1 w.heap.size hG.out.2 (k * 6 + 3)).trans q3
      replace z3 := (fat hb1 w.heap.size hG.out.2 (k * 6 + 3)).trans z3
      replace q4 := (bat hb1 w.heap.size hG.out.2 (k * 6 + 4)).trans q4
      replace z4 := (fat hb1 w.heap.size hG.out.2 (k * 6 + 4)).trans z4
      replace q5 := (bat hb1 w.heap.size hG.out.2 (k * 6 + 5)).trans q5
      replace z5 := (fat hb1 w.heap.size hG.out.2 (k * 6 + 5)).trans z5
      go_wp2
      go_roundw
      case rel =>
        obtain ⟨cells', h1, h2, h3⟩ := rel_step [.slice Bphis x[k].phis.length dphis, .slice Binsts x[k].insts.length dinsts, .int .i64 x[k].term.kind, .int .i64 x[k].term.a, .int .i64 x[k].term.x, .int .i64 x[k].term.y] ho.out hels.out (Nat.lt_succ_self _) (Nat.le_refl _) hbr.out hsm.out hb1 hlt rfl (KA.low (show OBlock wr.heap.size w1 x[k] _ from ⟨_, _, rfl, pphis.out, pinsts.out⟩) hG.out.2)
        exact ⟨k + 1, cells', by omega, by go_num, ⟨h1⟩, ⟨h2⟩, ⟨h3⟩⟩
      case measure => simp [intOf]; omega
    · have e : k = x.length := by omega
      subst e
      go_wp2
      go_ret
      exact ⟨_, rfl, ⟨cells, ho.out, hels.out.imp fun _ _ hh => KA.low hh (Nat.le_succ _)⟩, hbr.out⟩
set_option maxHeartbeats 4000000 in
theorem t_Func (x : XFunc) (cs : List Value) (w : World) (hx : KFunc lm w x cs) : Calls Tryz.prog 86 #[.agg cs.toArray] w (RetX OFunc x w) := by
  obtain ⟨vparams, vblocks, rfl, hparams, hblocks⟩ := hx
  have tcparams := fun W hW => t_I vparams x.params W (hparams.mv hW)
  have tcblocks := fun W hW => t_BlockS vblocks x.blocks W (hblocks.mv hW)
  obtain ⟨Aparams, cparams, rfl, -, hlparams, hr0⟩ := hparams.sm
  clear hparams hr0
  obtain ⟨Ablocks, cblocks, rfl, -, hlblocks, hr0⟩ := hblocks.sm
  clear hblocks hr0
  have hbl := fun o o' o'' => (((Below.refl w.heap.size w).al (Nat.le_refl _) o).al (by first | (simp; done) | (simp; omega)) o').al (by first | (simp; done) | (simp; omega)) o''
  go_enter Tryz.func86, Tryz.ntmps86
  go_wp2_with fail
  refine (tcparams _ (hbl _ _ _)).mono ?_; rintro e w1 ⟨v, rfl, ho, hb1⟩
  have hB1 := (hbl _ _ _).then hb1
  have k0_1 := bat hb1 w.heap.size (by first | (simp; done) | (simp; omega))
  have f0_1 := fat hb1 w.heap.size (by first | (simp; done) | (simp; omega))
  have k1_1 := bat hb1 (w.heap.size + 1) (by first | (simp; done) | (simp; omega))
  have f1_1 := fat hb1 (w.heap.size + 1) (by first | (simp; done) | (simp; omega))
  have k2_1 := bat hb1 (w.heap.size + 2) (by first | (simp; done) | (simp; omega))
  have f2_1 := fat hb1 (w.heap.size + 2) (by first | (simp; done) | (simp; omega))
  have hz1 := hb1.size
  simp at k0_1 f0_1 k1_1 f1_1 k2_1 f2_1 hz1
  obtain ⟨Bparams, dparams, rfl, pparams⟩ := own_sw ho
  clear ho
  go_wp2_with fail
  refine (tcblocks _ ?hB).mono ?_
  case hB =>
    repeat (refine Below.setCell ?_ (by first | (simp; done) | (simp; omega)) _)
    exact hB1
  rintro e w2 ⟨v, rfl, ho, hb2⟩
  have hB2 : Below w.heap.size w w2 := by
    refine Below.then ?_ hb2
    repeat (refine Below.setCell ?_ (by first | (simp; done) | (simp; omega)) _)
    exact hB1
  have k0_2 := bat hb2 w.heap.size (by first | (simp; done) | (simp; omega))
  have f0_2 := fat hb2 w.heap.size (by first | (simp; done) | (simp; omega))
  have k1_2 := bat hb2 (w.heap.size + 1) (by first | (simp; done) | (simp; omega))
  have f1_2 := fat hb2 (w.heap.size + 1) (by first | (simp; done) | (simp; omega))
  have k2_2 := bat hb2 (w.heap.size + 2) (by first | (simp; done) | (simp; omega))
  have f2_2 := fat hb2 (w.heap.size + 2) (by first | (simp; done) | (simp; omega))
  have hz2 := hb2.size
  simp at k0_2 f0_2 k1_2 f1_2 k2_2 f2_2 hz2
  obtain ⟨Bblocks, dblocks, rfl, pblocks⟩ := own_sw ho
  clear ho
  go_wp2
  refine bodyPost_ret (v := .agg #[.slice Bparams x.params.length dparams, .int .i64 x.ret, .slice Bblocks x.blocks.length dblocks]) (by simp [results, Tryz.results86, go_sem, k1_1, k1_2]) rfl ⟨_, rfl, ⟨_, _, rfl, (Own.abv pparams.out ?pparams).low (by first | (simp; done) | (simp; omega)), (Own.abv pblocks.out ?pblocks).low (by first | (simp; done) | (simp; omega))⟩, ?h2⟩
  case pparams =>
    repeat (refine Abv.setCell ?_ (by first | (simp; done) | (simp; omega)) _)
    refine Abv.below ?_ hb2
    repeat (refine Abv.setCell ?_ (by first | (simp; done) | (simp; omega)) _)
    exact Abv.refl _ _
  case pblocks =>
    repeat (refine Abv.setCell ?_ (by first | (simp; done) | (simp; omega)) _)
    exact Abv.refl _ _
  case h2 =>
    repeat (refine Below.setCell ?_ (by first | (simp; done) | (simp; omega)) _)
    exact hB2
end Go.Proofs.YtkcgejbnhpccdaaGreat
set_option linter.unusedSimpArgs false
set_option linter.unusedVariables false
namespace Go.Proofs.YtkcgejbnhpccdaaGreat
open Go.RowKit
/-! ### numbers changed for numbers in some blocks -/
structure Chg (lo hi : Nat) (w w' : World) : Prop where
  below : Below lo w w'
  out : ∀ (b : Nat), b < w.heap.size → b < lo ∨ hi ≤ b → w'.heap[b]? = w.heap[b]?
  cell : ∀ (b : Nat) (arr : Array Value) (e : TypeId), w.heap[b]? = some (Obj.cells arr e (0, 0)) → ∃ arr' : Array Value, w'.heap[b]? = some (.cells arr' e (0, 0)) ∧ ∀ (o : Nat) (u : Value), arr[o]? = some u → arr'[o]? = some u ∨ ((∃ i, u = .int .i64 i) ∧ ∃ i, arr'[o]? = some (.int .i64 i))
theorem Chg.size {lo hi : Nat} {w w' : World} (h : Chg lo hi w w') : w.heap.size ≤ w'.heap.size := h.below.size
theorem Chg.refl (lo hi : Nat) (w : World) : Chg lo hi w w := ⟨Below.refl _ _, fun _ _ _ => rfl, fun _ arr _ h => ⟨arr, h, fun _ _ h => .inl h⟩⟩
theorem Chg.trans {lo hi : Nat} {a b c : World} (h : Chg lo hi a b) (k : Chg lo hi b c) : Chg lo hi a c := by
  refine ⟨h.below.trans k.below, fun i h1 h2 => (k.out i (Nat.lt_of_lt_of_le h1 h.size) h2).trans (h.out i h1 h2), fun i arr e h1 => ?_⟩
  obtain ⟨arr1, h2, h3⟩ := h.cell i arr e h1
  obtain ⟨arr2, h4, h5⟩ := k.cell i arr1 e h2
  refine ⟨arr2, h4, fun o u hu => ?_⟩
  rcases h3 o u hu with h6 | ⟨h6, i', h7⟩
  · exact h5 o u h6
  · rcases h5 o _ h7 with h8 | ⟨-, h8⟩
    · exact .inr ⟨h6, i', h8⟩
    · exact .inr ⟨h6, h8⟩
theorem Chg.of_below {lo hi : Nat} {w w' : World} (hlo : lo ≤ w.heap.size) (h : Below w.heap.size w w') : Chg lo hi w w' :=
  ⟨h.mono hlo, fun b h1 _ => h.block b h1, fun b arr e h1 => ⟨arr, (h.block b (Array.getElem?_eq_some_iff.1 h1).1).trans h1, fun _ _ h => .inl h⟩⟩
theorem Chg.alloc {lo hi : Nat} {a w : World} (h : Chg lo hi a w) (hlo : lo ≤ w.heap.size) (o : Obj) : Chg lo hi a (w.alloc o) := h.trans (.of_below hlo ((Below.refl _ _).al (Nat.le_refl _) o))
theorem Chg.drew {lo hi : Nat} {a w : World} (h : Chg lo hi a w) : Chg lo hi a w.drew := ⟨h.below.drew, h.out, h.cell⟩
theorem Chg.setCell {lo hi : Nat} {w : World} {b e o : Nat} {arr : Array Value} {i i' : Int} (h : w.heap[b]? = some (.cells arr e (0, 0))) (hb : lo ≤ b ∧ b < hi) (ho : arr[o]? = some (.int .i64 i)) : Chg lo hi w (w.setCell ⟨b, o, none⟩ (.int .i64 i')) := by
  refine ⟨(Below.refl _ _).setCell (p := ⟨b, o, none⟩) hb.1 _, fun g _ hg => Below.heap_setCell w ⟨b, o, none⟩ _ g (by simp; omega), fun g arr1 e1 h1 => ?_⟩
  by_cases hg : g = b
  · subst hg
    obtain ⟨rfl, rfl⟩ : arr1 = arr ∧ e1 = e := by rw [h] at h1; cases h1; exact ⟨rfl, rfl⟩
    refine ⟨_, heap_set h, fun j u hu => ?_⟩
    by_cases hj : j = o
    · subst hj
      rw [ho] at hu
      cases hu
      exact .inr ⟨⟨_, rfl⟩, _, by rw [Array.getElem?_setIfInBounds]; simp [(Array.getElem?_eq_some_iff.1 ho).1]; rfl⟩
    · exact .inl (by rw [Array.getElem?_setIfInBounds, if_neg (fun h => hj h.symm)]; exact hu)
  · exact ⟨arr1, heap_off h1 hg, fun _ _ h => .inl h⟩
/-- Outside of them all is as it was. -/
theorem Chg.abv {lo hi : Nat} {w w' : World} (h : Chg lo hi w w') : Abv hi w w' := ⟨h.size, fun b h1 h2 => h.out b h2 (.inr h1)⟩
/-- A row whose numbers nobody knows. -/
def Sl {α : Type} (lo hi sz : Nat) (K : World → α → List Value → Prop) (w : World) (v : Value) (xs : List α) : Prop :=
  ∃ A c, v = .slice A xs.length c ∧ xs.length ≤ c ∧ xs.length ≤ lm ∧ (0 < xs.length → ∃ (b : Nat) (arr : Array Value) (e : TypeId), A = some ⟨b, 0, none⟩ ∧ lo ≤ b ∧ b < hi ∧ w.heap[b]? = some (.cells arr e (0, 0)) ∧ ∀ i (h : i < xs.length), ∃ cs, K w xs[i] cs ∧ cs.length = sz ∧ ∀ j u, cs[j]? = some u → arr[i * sz + j]? = some u)
/-- What a kind says stays when numbers change for numbers. -/
class KC {α : Type} (K : World → α → List Value → Prop) : Prop where
  mv : ∀ {w w' : World} {lo hi : Nat} {x : α} {cs cs' : List Value}, K w x cs → Chg lo hi w w' → cs'.length = cs.length → (∀ (j : Nat) (u : Value), cs[j]? = some u → cs'[j]? = some u ∨ ((∃ i, u = .int .i64 i) ∧ ∃ i, cs'[j]? = some (.int .i64 i))) → K w' x cs'
theorem Sl.mv {α : Type} {lo hi sz l' h' : Nat} {K : World → α → List Value → Prop} [KC K] {w w' : World} {v : Value} {xs : List α} (h : Sl lo hi sz K w v xs) (hc : Chg l' h' w w') : Sl lo hi sz K w' v xs := by
  obtain ⟨A, c, rfl, hcc, hl, h1⟩ := h
  refine ⟨A, c, rfl, hcc, hl, fun h0 => ?_⟩
  obtain ⟨b, arr, e, rfl, hb1, hb2, hh, hat⟩ := h1 h0
  obtain ⟨arr', hh', har⟩ := hc.cell b arr e hh
  refine ⟨b, arr', e, rfl, hb1, hb2, hh', fun i hi => ?_⟩
  obtain ⟨cs, hk, hcl, hcs⟩ := hat i hi
  have hget : ∀ j, j < sz → ∃ u, arr'[i * sz + j]? = some u ∧ ∀ q, cs[j]? = some q → u = q ∨ ((∃ i, q = .int .i64 i) ∧ ∃ i, u = .int .i64 i) := fun j hj => by
    have hq : cs[j]? = some cs[j] := List.getElem?_eq_getElem (by omega)
    rcases har _ _ (hcs j _ hq) with h2 | ⟨h2, i', h3⟩
    · exact ⟨_, h2, fun q hq' => by rw [hq] at hq'; cases hq'; exact .inl rfl⟩
    · exact ⟨_, h3, fun q hq' => by rw [hq] at hq'; cases hq'; exact .inr ⟨h2, _, rfl⟩⟩
  refine ⟨(List.range sz).map fun j => (arr'[i * sz + j]?).getD (.bool false), KC.mv hk hc (by simp [hcl]) (fun j u hu => ?_), by simp, fun j u hu => ?_⟩
  · have hj : j < sz := by have := (List.getElem?_eq_some_iff.1 hu).1; omega
    obtain ⟨u', h2, h3⟩ := hget j hj
    have e : ((List.range sz).map fun j => (arr'[i * sz + j]?).getD (.bool false))[j]? = some u' := by simp [hj, h2]
    rw [e]
    rcases h3 u hu with rfl | ⟨h4, i', rfl⟩
    · exact .inl rfl
    · exact .inr ⟨h4, _, rfl⟩
  · have hj : j < sz := by have := (List.getElem?_eq_some_iff.1 hu).1; simpa using this
    obtain ⟨u', h2, h3⟩ := hget j hj
    simp [hj, h2] at hu
    rw [h2, hu]
theorem Sl.sh {α : Type} {lo hi sz : Nat} {K : World → α → List Value → Prop} {w : World} {v : Value} {xs : List α} (h : Sl lo hi sz K w v xs) : ∃ A c, v = .slice A xs.length c ∧ xs.length ≤ c ∧ xs.length ≤ 1048576 ∧ Hd (Sl lo hi sz K w v xs) := by
  have h' := h
  obtain ⟨A, c, rfl, h1, h2, _⟩ := h
  exact ⟨A, c, rfl, h1, h2, ⟨h'⟩⟩
theorem Sl.at_ {α : Type} {lo hi sz : Nat} {K : World → α → List Value → Prop} {w : World} {A : Option Addr} {n c : Nat} {xs : List α} (h : Sl lo hi sz K w (.slice A n c) xs) (k : Nat) (hk : k < xs.length) :
    ∃ (b : Nat) (arr : Array Value) (e : TypeId) (cs : List Value), A = some ⟨b, 0, none⟩ ∧ lo ≤ b ∧ b < hi ∧ w.heap[b]? = some (.cells arr e (0, 0)) ∧ K w xs[k] cs ∧ cs.length = sz ∧ ∀ j u, cs[j]? = some u → arr[k * sz + j]? = some u := by
  obtain ⟨A', c', hv, hcc, hl, h1⟩ := h
  cases hv
  obtain ⟨b, arr, e, rfl, hb1, hb2, hh, hat⟩ := h1 (by omega)
  obtain ⟨cs, h2, h3, h4⟩ := hat k hk
  exact ⟨b, arr, e, cs, rfl, hb1, hb2, hh, h2, h3, h4⟩
theorem Own.sl {α : Type} {lo e sz : Nat} {K : Nat → World → α → List Value → Prop} {K' : World → α → List Value → Prop} {w : World} {v : Value} {xs : List α} (h : Own lo e sz (K lo) w v xs) (hl : xs.length ≤ lm) (hk : ∀ x, x ∈ xs → ∀ cs, K lo w x cs → K' w x cs) : Sl lo w.heap.size sz K' w v xs := by
  obtain ⟨cells, h1, h2⟩ := h
  obtain ⟨h3, h4⟩ := h1
  rcases h4 with ⟨rfl, h5⟩ | ⟨g, cap, cur, rfl, h5, h6, h7, h8, h9, h10⟩
  · exact ⟨none, 0, by rw [h5], by omega, hl, fun h => absurd h (by omega)⟩
  · refine ⟨_, cap, rfl, h7, hl, fun _ => ⟨g, cur, e, rfl, h5, (Array.getElem?_eq_some_iff.1 h6).1, h6, fun i hi => ?_⟩⟩
    obtain ⟨cs, k1, k2, k3⟩ := h2 i hi hi
    refine ⟨cs, hk _ (List.getElem_mem hi) _ k1, k2, fun j u hu => ?_⟩
    have hj : j < sz := by have := (List.getElem?_eq_some_iff.1 hu).1; omega
    rw [← k3 j hj, ← h10] at hu
    have : (i + 1) * sz ≤ xs.length * sz := Nat.mul_le_mul_right _ (by omega)
    rw [Nat.add_mul] at this
    rw [List.getElem?_take_of_lt (by omega)] at hu
    simpa using hu
def SInt (_ : World) (_ : Int) (cs : List Value) : Prop := ∃ i, cs = [.int .i64 i]
theorem int1 {cs' : List Value} {u : Value} {j : Nat} (h : cs'[j]? = some u ∨ ((∃ i, u = .int .i64 i) ∧ ∃ i, cs'[j]? = some (.int .i64 i))) (hu : ∃ i, u = .int .i64 i) : ∃ i, cs'[j]? = some (.int .i64 i) := by
  rcases h with h | h
  · obtain ⟨i, rfl⟩ := hu; exact ⟨i, h⟩
  · exact h.2
theorem fix1 {cs' : List Value} {u : Value} {j : Nat} (h : cs'[j]? = some u ∨ ((∃ i, u = .int .i64 i) ∧ ∃ i, cs'[j]? = some (.int .i64 i))) (hu : ∀ i, u ≠ .int .i64 i) : cs'[j]? = some u := by
  rcases h with h | ⟨⟨i, h⟩, _⟩
  · exact h
  · exact absurd h (hu i)
theorem cs1 {cs : List Value} {a : Value} (h : cs.length = 1) (h0 : cs[0]? = some a) : cs = [a] := by
  match cs, h with
  | [x], _ => simp at h0; rw [h0]
instance : KC SInt := ⟨fun ⟨i, h⟩ _ hl hc => by
  subst h
  obtain ⟨i', h'⟩ := int1 (hc 0 _ rfl) ⟨_, rfl⟩
  exact ⟨i', cs1 hl h'⟩⟩
abbrev SlI (lo hi : Nat) := Sl lo hi 1 SInt
def SPhi (lo hi : Nat) (w : World) (x : XPhi) (cs : List Value) : Prop := ∃ i v, cs = [.int .i64 i, v] ∧ SlI lo hi w v x.ins
theorem Sl.ne {α : Type} {lo hi sz : Nat} {K : World → α → List Value → Prop} {w : World} {v : Value} {xs : List α} (h : Sl lo hi sz K w v xs) (i : Int) : v ≠ .int .i64 i := by
  obtain ⟨A, c, rfl, _⟩ := h; simp
theorem cs2 {cs : List Value} {a b : Value} (h : cs.length = 2) (h0 : cs[0]? = some a) (h1 : cs[1]? = some b) : cs = [a, b] := by
  match cs, h with
  | [x, y], _ => simp at h0 h1; rw [h0, h1]
theorem cs6 {cs : List Value} {a b c d e f : Value} (h : cs.length = 6) (h0 : cs[0]? = some a) (h1 : cs[1]? = some b) (h2 : cs[2]? = some c) (h3 : cs[3]? = some d) (h4 : cs[4]? = some e) (h5 : cs[5]? = some f) : cs = [a, b, c, d, e, f] := by
  match cs, h with
  | [x1, x2, x3, x4, x5, x6], _ => simp at h0 h1 h2 h3 h4 h5; rw [h0, h1, h2, h3, h4, h5]
theorem cs7 {cs : List Value} {a b c d e f g : Value} (h : cs.length = 7) (h0 : cs[0]? = some a) (h1 : cs[1]? = some b) (h2 : cs[2]? = some c) (h3 : cs[3]? = some d) (h4 : cs[4]? = some e) (h5 : cs[5]? = some f) (h6 : cs[6]? = some g) : cs = [a, b, c, d, e, f, g] := by
  match cs, h with
  | [x1, x2, x3, x4, x5, x6, x7], _ => simp at h0 h1 h2 h3 h4 h5 h6; rw [h0, h1, h2, h3, h4, h5, h6]
instance {lo hi : Nat} : KC (SPhi lo hi) := ⟨fun ⟨i, v, h, r⟩ hch hl hc => by
  subst h
  obtain ⟨i', h0⟩ := int1 (hc 0 _ rfl) ⟨_, rfl⟩
  exact ⟨i', v, cs2 hl h0 (fix1 (hc 1 _ rfl) r.ne), r.mv hch⟩⟩
abbrev SlPhi (lo hi : Nat) := Sl lo hi 2 (SPhi lo hi)
def SInst (lo hi : Nat) (w : World) (x : XInst) (cs : List Value) : Prop := ∃ a b c d e f v, cs = [.int .i64 a, .int .i64 b, .int .i64 c, .int .i64 d, .int .i64 e, .int .i64 f, v] ∧ SlI lo hi w v x.args
instance {lo hi : Nat} : KC (SInst lo hi) := ⟨fun ⟨a, b, c, d, e, f, v, h, r⟩ hch hl hc => by
  subst h
  obtain ⟨i0, h0⟩ := int1 (hc 0 _ rfl) ⟨_, rfl⟩
  obtain ⟨i1, h1⟩ := int1 (hc 1 _ rfl) ⟨_, rfl⟩
  obtain ⟨i2, h2⟩ := int1 (hc 2 _ rfl) ⟨_, rfl⟩
  obtain ⟨i3, h3⟩ := int1 (hc 3 _ rfl) ⟨_, rfl⟩
  obtain ⟨i4, h4⟩ := int1 (hc 4 _ rfl) ⟨_, rfl⟩
  obtain ⟨i5, h5⟩ := int1 (hc 5 _ rfl) ⟨_, rfl⟩
  exact ⟨i0, i1, i2, i3, i4, i5, v, cs7 hl h0 h1 h2 h3 h4 h5 (fix1 (hc 6 _ rfl) r.ne), r.mv hch⟩⟩
abbrev SlInst (lo hi : Nat) := Sl lo hi 7 (SInst lo hi)
def SBlock (lo hi : Nat) (w : World) (x : XBlock) (cs : List Value) : Prop := ∃ v v' a b c d, cs = [v, v', .int .i64 a, .int .i64 b, .int .i64 c, .int .i64 d] ∧ SlPhi lo hi w v x.phis ∧ SlInst lo hi w v' x.insts
instance {lo hi : Nat} : KC (SBlock lo hi) := ⟨fun ⟨v, v', a, b, c, d, h, r, s⟩ hch hl hc => by
  subst h
  obtain ⟨i2, h2⟩ := int1 (hc 2 _ rfl) ⟨_, rfl⟩
  obtain ⟨i3, h3⟩ := int1 (hc 3 _ rfl) ⟨_, rfl⟩
  obtain ⟨i4, h4⟩ := int1 (hc 4 _ rfl) ⟨_, rfl⟩
  obtain ⟨i5, h5⟩ := int1 (hc 5 _ rfl) ⟨_, rfl⟩
  exact ⟨v, v', i2, i3, i4, i5, cs6 hl (fix1 (hc 0 _ rfl) r.ne) (fix1 (hc 1 _ rfl) s.ne) h2 h3 h4 h5, r.mv hch, s.mv hch⟩⟩
abbrev SlBlock (lo hi : Nat) := Sl lo hi 6 (SBlock lo hi)
def SFunc (lo hi : Nat) (w : World) (x : XFunc) (cs : List Value) : Prop := ∃ v i v', cs = [v, .int .i64 i, v'] ∧ SlI lo hi w v x.params ∧ SlBlock lo hi w v' x.blocks
/-! ### from what is owned -/
theorem OwI.sl {lo : Nat} {w : World} {v : Value} {xs : List Int} (h : OwI lo w v xs) (hl : xs.length ≤ lm) : SlI lo w.heap.size w v xs := Own.sl h hl fun _ _ _ hk => ⟨_, hk⟩
theorem so_phi {lo : Nat} {w : World} {p : XPhi} {cs : List Value} (h : OPhi lo w p cs) (hw : wPhi p ≤ lm) : SPhi lo w.heap.size w p cs := by
  obtain ⟨v, rfl, hr⟩ := h; exact ⟨_, v, rfl, hr.sl hw⟩
theorem so_inst {lo : Nat} {w : World} {p : XInst} {cs : List Value} (h : OInst lo w p cs) (hw : wInst p ≤ lm) : SInst lo w.heap.size w p cs := by
  obtain ⟨v, rfl, hr⟩ := h; exact ⟨_, _, _, _, _, _, v, rfl, hr.sl hw⟩
theorem so_block {lo : Nat} {w : World} {p : XBlock} {cs : List Value} (h : OBlock lo w p cs) (hw : wBlock p ≤ lm) : SBlock lo w.heap.size w p cs := by
  obtain ⟨v, v', rfl, hr, hs⟩ := h
  unfold wBlock at hw
  have h1 : wL wPhi p.phis ≤ lm := by omega
  have h2 : wL wInst p.insts ≤ lm := by omega
  exact ⟨v, v', _, _, _, _, rfl, Own.sl hr (by unfold wL at h1; omega) fun x hx _ hk => so_phi hk (Nat.le_trans (wL_mem _ _ _ hx) h1), Own.sl hs (by unfold wL at h2; omega) fun x hx _ hk => so_inst hk (Nat.le_trans (wL_mem _ _ _ hx) h2)⟩
theorem so_func {lo : Nat} {w : World} {p : XFunc} {cs : List Value} (h : OFunc lo w p cs) (hw : wFunc p ≤ lm) : SFunc lo w.heap.size w p cs := by
  obtain ⟨v, v', rfl, hr, hs⟩ := h
  unfold wFunc at hw
  have h2 : wL wBlock p.blocks ≤ lm := by omega
  exact ⟨v, _, v', rfl, OwI.sl hr (by omega), Own.sl hs (by unfold wL at h2; omega) fun x hx _ hk => so_block hk (Nat.le_trans (wL_mem _ _ _ hx) h2)⟩
end Go.Proofs.YtkcgejbnhpccdaaGreat
set_option linter.unusedSimpArgs false
set_option linter.unusedVariables false
namespace Go.Proofs.YtkcgejbnhpccdaaGreat
open Go.RowKit
/-! ### a row of numbers is marked -/
def marks (k : Int) (n : Nat) : List Value := (List.range n).map fun (i : Nat) => .int .i64 (k + (i : Int))
theorem marks_len (k : Int) (n : Nat) : (marks k n).length = n := by simp [marks]
theorem marks_snoc (k : Int) (n : Nat) : marks k (n + 1) = marks k n ++ [.int .i64 (k + n)] := by simp [marks, List.range_succ]
theorem setAll_snoc {G : Nat} (us : List Value) (u : Value) : ∀ (w : World) (o : Nat), setAll w G o (us ++ [u]) = (setAll w G o us).setCell ⟨G, o + us.length, none⟩ u := by
  induction us with
  | nil => intro w o; rfl
  | cons x r ih => intro w o; simp only [List.cons_append, setAll, ih, List.length_cons]; rw [show o + 1 + r.length = o + (r.length + 1) by omega]
/-- A row of numbers that may be written. -/
def Wr (w : World) (A : Option Addr) (n : Nat) : Prop := 0 < n → ∃ (b : Nat) (arr : Array Value) (e : TypeId), A = some ⟨b, 0, none⟩ ∧ w.heap[b]? = some (.cells arr e (0, 0)) ∧ ∀ i, i < n → ∃ a : Int, arr[i]? = some (.int .i64 a)
def gblk : Option Addr → Nat
  | some a => a.block
  | none => 0
theorem setAll_heap {G e : Nat} (us : List Value) : ∀ (w : World) (o : Nat) (arr : Array Value), w.heap[G]? = some (.cells arr e (0, 0)) → ∃ arr' : Array Value, (setAll w G o us).heap[G]? = some (.cells arr' e (0, 0)) ∧ ∀ i : Nat, arr'.toList[i]? = (setL arr.toList o us)[i]? := by
  induction us with
  | nil => intro w o arr h; exact ⟨arr, h, fun _ => rfl⟩
  | cons u r ih =>
    intro w o arr h
    obtain ⟨arr', h1, h2⟩ := ih (w.setCell ⟨G, o, none⟩ u) (o + 1) _ (heap_set h)
    exact ⟨arr', h1, fun i => by rw [h2]; simp [setL]⟩
theorem chg_setAll {lo hi G : Nat} (hG : lo ≤ G ∧ G < hi) (is : List Int) : ∀ (w : World) (o : Nat) (arr : Array Value) (e : TypeId), w.heap[G]? = some (.cells arr e (0, 0)) → (∀ i, i < is.length → ∃ a : Int, arr[o + i]? = some (.int .i64 a)) → Chg lo hi w (setAll w G o (is.map (Value.int .i64))) := by
  induction is with
  | nil => intro w o arr e _ _; exact Chg.refl _ _ _
  | cons u r ih =>
    intro w o arr e h ha
    obtain ⟨a, ha0⟩ := ha 0 (by simp)
    refine (Chg.setCell (i' := u) h hG ha0).trans (ih _ (o + 1) _ e (heap_set h) fun i hi => ?_)
    obtain ⟨a', ha'⟩ := ha (i + 1) (by simp; omega)
    exact ⟨a', by rw [Array.getElem?_setIfInBounds, if_neg (by omega), show o + 1 + i = o + (i + 1) by omega]; exact ha'⟩
set_option maxHeartbeats 1000000 in
theorem m_I (A : Option Addr) (n c : Nat) (k : Int) (w : World) (hl : n ≤ 1048576) (h : Wr w A n) (h0 : 0 ≤ k) (h1 : k ≤ 1099511627776) :
    Calls Tryz.prog 35 #[.slice A n c, .int .i64 k] w (fun e w' => e = .returned (.int .i64 (k + n)) ∧ w' = setAll w (gblk A) 0 (marks k n)) := by
  have h' := Hd.mk h
  clear h
  go_enter Tryz.func35, Tryz.ntmps35
  go_wp2
  go_loopw [1, 5] (fun s1 s3 wr => ∃ j : Nat, j ≤ n ∧ s3 = .int .i64 j ∧ s1 = .int .i64 (k + j) ∧ Hd (wr = setAll w (gblk A) 0 (marks k j))) (fun _ s3 _ => n - (intOf s3).toNat)
  case atStart => exact ⟨0, Nat.zero_le _, rfl, by simp, ⟨rfl⟩⟩
  case round =>
    obtain ⟨j, hj, rfl, rfl, hr⟩ := hrel
    by_cases hlt : j < n
    · obtain ⟨b, arr, e, rfl, hh, ha⟩ := h'.out (by omega)
      obtain ⟨arr', h2, h3⟩ := setAll_heap (marks k j) w 0 arr hh
      obtain ⟨a, ha0⟩ := ha j hlt
      have h4 := h3 j
      rw [setL_out _ _ _ _ (by rw [marks_len]; omega), Array.getElem?_toList, Array.getElem?_toList, ha0] at h4
      have hq := Hd.mk (setAll_snoc (G := b) (marks k j) (.int .i64 (k + j)) w 0)
      obtain ⟨he, hf⟩ := row_facts h2
      have hr1 : wr = setAll w b 0 (marks k j) := hr.out
      rw [← hr1] at he hf
      replace he := (he j).trans h4
      replace hf := hf j
      clear h2 h3 h4 hr1 ha ha0 hh
      have hw : IntKind.i64.wrap (k + j) = k + j := IntWalk.i64_in _ (by omega)
      go_wp2
      go_roundw
      case rel =>
        refine ⟨j + 1, by omega, by go_num, by go_num, ⟨?_⟩⟩
        have := hq.out
        rw [marks_snoc]
        show _ = setAll w b 0 _
        rw [this, marks_len, Nat.zero_add, hr.out]
        rfl
      case measure => simp [intOf]; omega
    · have e : j = n := by omega
      subst e
      go_wp2
      go_ret
      exact ⟨rfl, hr.out⟩
/-- What is marked: numbers for numbers. -/
def RetC (lo hi : Nat) (k : Int) (w : World) (e : Ending) (w' : World) : Prop := e = .returned (.int .i64 k) ∧ Chg lo hi w w'
theorem m_S (lo hi : Nat) (v : Value) (xs : List Int) (k : Int) (w : World) (h : SlI lo hi w v xs) (h0 : 0 ≤ k) (h1 : k ≤ 1099511627776) :
    Calls Tryz.prog 35 #[v, .int .i64 k] w (RetC lo hi (k + xs.length) w) := by
  obtain ⟨A, c, rfl, -, hl, hh⟩ := h.sh
  refine (m_I A xs.length c k w hl (fun h0 => ?_) h0 h1).mono ?_
  · obtain ⟨b, arr, e, cs, rfl, _, _, h2, _⟩ := hh.out.at_ 0 h0
    refine ⟨b, arr, e, rfl, h2, fun i hi => ?_⟩
    obtain ⟨b', arr', e', cs, hb, _, _, h2', ⟨a, rfl⟩, _, h3⟩ := hh.out.at_ i hi
    cases hb
    obtain ⟨rfl, rfl⟩ : arr' = arr ∧ e' = e := by rw [h2] at h2'; cases h2'; exact ⟨rfl, rfl⟩
    exact ⟨a, by simpa using h3 0 _ rfl⟩
  · rintro e w1 ⟨rfl, rfl⟩
    refine ⟨rfl, ?_⟩
    by_cases hz : xs.length = 0
    · rw [hz]; exact Chg.refl _ _ _
    · obtain ⟨b, arr, e, cs, rfl, hb1, hb2, h2, _⟩ := hh.out.at_ 0 (by omega)
      have := chg_setAll ⟨hb1, hb2⟩ ((List.range xs.length).map fun (i : Nat) => k + (i : Int)) w 0 arr e h2 (fun i hi => by
        have hi' : i < xs.length := by simpa using hi
        obtain ⟨b', arr', e', cs, hb, _, _, h2', ⟨a, rfl⟩, _, h3⟩ := hh.out.at_ i hi'
        cases hb
        obtain ⟨rfl, rfl⟩ : arr' = arr ∧ e' = e := by rw [h2] at h2'; cases h2'; exact ⟨rfl, rfl⟩
        exact ⟨a, by simpa using h3 0 _ rfl⟩)
      rw [List.map_map] at this
      exact this
/-- A row that holds the marks. -/
def Hld (w : World) (A : Option Addr) (n : Nat) (k : Int) : Prop := 0 < n → ∃ (b : Nat) (arr : Array Value) (e : TypeId), A = some ⟨b, 0, none⟩ ∧ w.heap[b]? = some (.cells arr e (0, 0)) ∧ ∀ i, i < n → arr[i]? = some (.int .i64 (k + i))
theorem Wr.held {w : World} {A : Option Addr} {n : Nat} (h : Wr w A n) (k : Int) : Hld (setAll w (gblk A) 0 (marks k n)) A n k := fun h0 => by
  obtain ⟨b, arr, e, rfl, h1, h2⟩ := h h0
  obtain ⟨arr', h3, h4⟩ := setAll_heap (marks k n) w 0 arr h1
  refine ⟨b, arr', e, rfl, h3, fun i hi => ?_⟩
  obtain ⟨a, ha⟩ := h2 (n - 1) (by omega)
  have hs := (Array.getElem?_eq_some_iff.1 ha).1
  have h5 := h4 i
  rw [← Nat.zero_add i, setL_in _ _ _ _ (by rw [marks_len]; exact hi) (by rw [marks_len]; simp; omega)] at h5
  rw [← Array.getElem?_toList, ← Nat.zero_add i, h5]
  simp [marks, hi]
theorem Hld.mv {w w' : World} {A : Option Addr} {n : Nat} {k : Int} (h : Hld w A n k) (hb : Below w.heap.size w w') : Hld w' A n k := fun h0 => by
  obtain ⟨b, arr, e, rfl, h1, h2⟩ := h h0
  exact ⟨b, arr, e, rfl, (hb.block b (Array.getElem?_eq_some_iff.1 h1).1).trans h1, h2⟩
set_option maxHeartbeats 1000000 in
theorem h_I (A : Option Addr) (n c : Nat) (k : Int) (w : World) (hl : n ≤ 1048576) (h : Hld w A n k) (h0 : 0 ≤ k) (h1 : k ≤ 1099511627776) :
    Calls Tryz.prog 67 #[.slice A n c, .int .i64 k] w (Ret (.int .i64 (k + n)) w) := by
  have h' := Hd.mk h
  clear h
  go_enter Tryz.func67, Tryz.ntmps67
  go_wp2
  go_loopw [1, 5] (fun s1 s3 wr => ∃ j : Nat, j ≤ n ∧ s3 = .int .i64 j ∧ s1 = .int .i64 (k + j) ∧ Hd (Below w.heap.size w wr)) (fun _ s3 _ => n - (intOf s3).toNat)
  case atStart => exact ⟨0, Nat.zero_le _, rfl, by simp, ⟨Below.refl _ _⟩⟩
  case round =>
    obtain ⟨j, hj, rfl, rfl, hr⟩ := hrel
    by_cases hlt : j < n
    · obtain ⟨b, arr, e, rfl, hh, ha⟩ := h'.out (by omega)
      obtain ⟨he, hf⟩ := row_facts ((hr.out.block b (Array.getElem?_eq_some_iff.1 hh).1).trans hh)
      replace he := (he j).trans (ha j hlt)
      clear ha hf hh
      have hw : IntKind.i64.wrap (k + j) = k + j := IntWalk.i64_in _ (by omega)
      have ht : ((k + (j : Int)) != (k + (j : Int))) = false := by simp
      go_wp2
      go_roundw
      case rel => exact ⟨j + 1, by omega, by go_num, by go_num, hr⟩
      case measure => simp [intOf]; omega
    · have e : j = n := by omega
      subst e
      go_wp2
      go_ret
      exact ⟨rfl, hr.out⟩
end Go.Proofs.YtkcgejbnhpccdaaGreat
set_option linter.unusedSimpArgs false
set_option linter.unusedVariables false
namespace Go.Proofs.YtkcgejbnhpccdaaGreat
open Go.RowKit

theorem take_eq {α : Type} {xs ys : List α} {k : Nat} (h : xs.take k = ys.take k) (hx : k < xs.length) (hy : k < ys.length) (e : xs[k] = ys[k]) : xs.take (k + 1) = ys.take (k + 1) := by
  rw [List.take_succ_eq_append_getElem hx, List.take_succ_eq_append_getElem hy, h, e]
theorem el_ne {α : Type} {xs ys : List α} {k : Nat} (hx : k < xs.length) (hy : k < ys.length) (e : ¬ xs[k] = ys[k]) : ¬ xs = ys := by
  intro h; subst h; exact e rfl
theorem take_all {α : Type} {xs ys : List α} {k : Nat} (h : xs.take k = ys.take k) (hx : k = xs.length) (hy : k = ys.length) : xs = ys := by
  rw [List.take_of_length_le (by omega), List.take_of_length_le (by omega)] at h; exact h
theorem len_ne {α : Type} {xs ys : List α} (h : ¬ xs.length = ys.length) : ¬ xs = ys := fun e => h (by rw [e])
theorem pw_drewN {B : Nat} {a w : World} (h : Below B a w) (q : Nat) : Below B a (w.drewN q) := ⟨h.os, h.tape, h.output, h.size, h.block⟩
set_option maxHeartbeats 1000000 in
theorem e_I (v u : Value) (xs ys : List Int) (w : World) (hv : RI lm w v xs) (hu : RI lm w u ys) : Calls Tryz.prog 33 #[v, u] w (Ret (.bool (decide (xs = ys))) w) := by
  obtain ⟨A1, c1, rfl, -, hl1, hv0⟩ := hv.sm
  obtain ⟨A2, c2, rfl, -, hl2, hu0⟩ := hu.sm
  clear hv hu
  by_cases hlen : xs.length = ys.length
  rotate_left
  · rw [decide_eq_false (len_ne hlen)]
    have d : ((xs.length : Int) != (ys.length : Int)) = true := by simp; omega
    go_enter Tryz.func33, Tryz.ntmps33
    go_wp2
    go_ret
    exact ⟨rfl, Below.refl _ _⟩
  obtain ⟨n, hn⟩ : ∃ n, n = xs.length := ⟨_, rfl⟩
  have hn2 : n = ys.length := hn.trans hlen
  rw [← hn, ← hn2]
  rw [← hn] at hv0 hl1
  rw [← hn2] at hu0
  have hn' := Hd.mk hn
  have hn2' := Hd.mk hn2
  clear hn hn2 hlen hl2
  go_enter Tryz.func33, Tryz.ntmps33
  go_wp2
  go_loopw [5] (fun s5 wr => ∃ k : Nat, k ≤ n ∧ s5 = .int .i64 k ∧ Hd (xs.take k = ys.take k) ∧ Hd (Below w.heap.size w wr)) (fun s5 _ => n - (intOf s5).toNat)
  case atStart => exact ⟨0, Nat.zero_le _, rfl, ⟨by simp⟩, ⟨Below.refl _ _⟩⟩
  case round =>
    obtain ⟨k, hk, rfl, hall, hbr⟩ := hrel
    by_cases hlt : k < n
    · obtain ⟨b, off, cs, hA, hbl, hk1, hat⟩ := hv0.out.in0 hbr.out k (by have := hn'.out; omega)
      cases hA
      cases hk1
      have g0 := hat 0 _ rfl
      simp at g0
      clear hat
      obtain ⟨b2, off2, cs, hA, hbl2, hk1, hat⟩ := hu0.out.in0 hbr.out k (by have := hn2'.out; omega)
      cases hA
      cases hk1
      have f0 := hat 0 _ rfl
      simp at f0
      clear hat
      have hz : (k : Int) < (n : Int) := by omega
      have hz0 : (0 : Int) ≤ (k : Int) := by omega
      by_cases he : xs[k]'(by have := hn'.out; omega) = ys[k]'(by have := hn2'.out; omega)
      · have ht := Hd.mk (take_eq hall.out (by have := hn'.out; omega) (by have := hn2'.out; omega) he)
        generalize xs[k]'_ = x at *
        subst he
        go_wp2
        go_quiet (fail)
        go_wp2
        go_roundw
        case rel => exact ⟨k + 1, by omega, by go_num, ht, ⟨pw_drewN hbr.out _⟩⟩
        case measure => simp [intOf]; omega
      · have hne := Hd.mk (el_ne _ _ he)
        have d := bneT he
        generalize xs[k]'_ = x at *
        generalize ys[k]'_ = y at *
        clear he
        go_wp2
        go_quiet (fail)
        go_wp2
        go_ret
        exact ⟨by rw [decide_eq_false hne.out]; rfl, pw_drewN hbr.out _⟩
    · have e : k = n := by omega
      subst e
      go_wp2
      go_ret
      exact ⟨by rw [decide_eq_true (take_all hall.out hn'.out hn2'.out)]; rfl, hbr.out⟩

set_option maxHeartbeats 4000000 in
theorem e_Phi (x y : XPhi) (cs ds : List Value) (w : World) (hx : KPhi lm w x cs) (hy : KPhi lm w y ds) : Calls Tryz.prog 224 #[.agg cs.toArray, .agg ds.toArray] w (Ret (.bool (decide (x = y))) w) := by
  obtain ⟨v1, rfl, r1⟩ := hx
  obtain ⟨u1, rfl, s1⟩ := hy
  have hbl := fun o o' => ((Below.refl w.heap.size w).al (Nat.le_refl _) o).al (by simp) o'
  obtain ⟨xw, xins⟩ := x
  obtain ⟨yw, yins⟩ := y
  simp only at *
  have z1 := fun W hW => e_I v1 u1 xins yins W (r1.mv hW) (s1.mv hW)
  by_cases hw : xw = yw
  rotate_left
  · rw [decide_eq_false (by intro e; injection e; contradiction)]
    have d := bneT hw
    go_enter Tryz.func224, Tryz.ntmps224
    go_wp2
    go_ret
    exact ⟨rfl, (hbl _ _)⟩
  subst hw
  by_cases hins : xins = yins
  rotate_left
  · rw [decide_eq_false (by intro e; injection e; contradiction)]
    simp only [decide_eq_false hins] at z1
    clear hins
    go_enter Tryz.func224, Tryz.ntmps224
    go_wp2_with fail
    refine (z1 _ (hbl _ _)).mono ?_; rintro e w1 ⟨rfl, hb1⟩
    have k0 := bat hb1 w.heap.size (by simp; omega)
    have k1 := bat hb1 (w.heap.size + 1) (by simp)
    have hz1 := hb1.size
    simp at k0 k1 hz1
    have hbw1 := Hd.mk ((hbl _ _).then hb1)
    go_wp2
    go_ret
    exact ⟨rfl, hbw1.out⟩
  simp only [decide_eq_true hins] at z1
  rw [decide_eq_true (by rw [hins])]
  clear hins
  go_enter Tryz.func224, Tryz.ntmps224
  go_wp2_with fail
  refine (z1 _ (hbl _ _)).mono ?_; rintro e w1 ⟨rfl, hb1⟩
  have k0 := bat hb1 w.heap.size (by simp; omega)
  have k1 := bat hb1 (w.heap.size + 1) (by simp)
  have hz1 := hb1.size
  simp at k0 k1 hz1
  have hbw1 := Hd.mk ((hbl _ _).then hb1)
  go_wp2
  go_ret
  exact ⟨rfl, hbw1.out⟩
set_option maxHeartbeats 4000000 in
set_option maxRecDepth 100000 in
theorem e_PhiS (v u : Value) (xs ys : List XPhi) (w : World) (hv : Rd lm 2 (KPhi lm) w v xs) (hu : Rd lm 2 (KPhi lm) w u ys) : Calls Tryz.prog 201 #[v, u] w (Ret (.bool (decide (xs = ys))) w) := by
  obtain ⟨A1, c1, rfl, -, hl1, hv0⟩ := hv.sm
  obtain ⟨A2, c2, rfl, -, hl2, hu0⟩ := hu.sm
  clear hv hu
  by_cases hlen : xs.length = ys.length
  rotate_left
  · rw [decide_eq_false (len_ne hlen)]
    have d : ((xs.length : Int) != (ys.length : Int)) = true := by simp; omega
    go_enter Tryz.func201, Tryz.ntmps201
    go_wp2
    go_ret
    exact ⟨rfl, Below.refl _ _⟩
  obtain ⟨n, hn⟩ : ∃ n, n = xs.length := ⟨_, rfl⟩
  have hn2 : n = ys.length := hn.trans hlen
  rw [← hn, ← hn2]
  rw [← hn] at hv0 hl1
  rw [← hn2] at hu0
  have hn' := Hd.mk hn
  have hn2' := Hd.mk hn2
  clear hn hn2 hlen hl2
  go_enter Tryz.func201, Tryz.ntmps201
  go_wp2
  go_loopw [5] (fun s5 wr => ∃ k : Nat, k ≤ n ∧ s5 = .int .i64 k ∧ Hd (xs.take k = ys.take k) ∧ Hd (Below w.heap.size w wr)) (fun s5 _ => n - (intOf s5).toNat)
  case atStart => exact ⟨0, Nat.zero_le _, rfl, ⟨by simp⟩, ⟨Below.refl _ _⟩⟩
  case round =>
    obtain ⟨k, hk, rfl, hall, hbr⟩ := hrel
    by_cases hlt : k < n
    · obtain ⟨b, off, cs, hA, hbl, ⟨v1, rfl, r1⟩, hat⟩ := hv0.out.in0 hbr.out k (by have := hn'.out; omega)
      cases hA
      have g0 := hat 0 _ rfl
      have g1 := hat 1 _ rfl
      simp at g0 g1
      clear hat
      obtain ⟨b2, off2, cs, hA, hbl2, ⟨u1, rfl, s1⟩, hat⟩ := hu0.out.in0 hbr.out k (by have := hn2'.out; omega)
      cases hA
      have f0 := hat 0 _ rfl
      have f1 := hat 1 _ rfl
      simp at f0 f1
      clear hat
      have hz : (k : Int) < (n : Int) := by omega
      have hz0 : (0 : Int) ≤ (k : Int) := by omega
      have hex0 := fun W (hW : Below wr.heap.size wr W) => e_Phi (xs[k]'(by have := hn'.out; omega)) (ys[k]'(by have := hn2'.out; omega)) _ _ W ⟨v1, rfl, r1.mv (hbr.out.then hW)⟩ ⟨u1, rfl, s1.mv (hbr.out.then hW)⟩
      have hdr : Below wr.heap.size wr wr.drew := (Below.refl _ _).drew
      by_cases he : xs[k]'(by have := hn'.out; omega) = ys[k]'(by have := hn2'.out; omega)
      · have ht := Hd.mk (take_eq hall.out (by have := hn'.out; omega) (by have := hn2'.out; omega) he)
        simp only [decide_eq_true he] at hex0
        have hex := Hd.mk hex0
        clear he hex0
        generalize xs[k]'_ = x at *
        generalize ys[k]'_ = y at *
        go_wp2
        go_still_tail 8, (by kernel_rfl)
        change wpList _ _ _ _ _ wr.drew
        go_wp2_with fail
        refine (hex.out _ hdr).mono ?_; rintro e w1 ⟨rfl, hb1⟩
        have hbz := Hd.mk (hbr.out.then (hdr.then hb1))
        clear hb1 hex hdr
        go_wp2
        go_roundw
        case rel => exact ⟨k + 1, by omega, by go_num, ht, hbz⟩
        case measure => simp [intOf]; omega
      · have hne := Hd.mk (el_ne _ _ he)
        simp only [decide_eq_false he] at hex0
        have hex := Hd.mk hex0
        clear he hex0
        generalize xs[k]'_ = x at *
        generalize ys[k]'_ = y at *
        go_wp2
        go_still_tail 8, (by kernel_rfl)
        change wpList _ _ _ _ _ wr.drew
        go_wp2_with fail
        refine (hex.out _ hdr).mono ?_; rintro e w1 ⟨rfl, hb1⟩
        have hbz := Hd.mk (hbr.out.then (hdr.then hb1))
        clear hb1 hex hdr
        go_wp2
        go_ret
        exact ⟨by rw [decide_eq_false hne.out]; rfl, hbz.out⟩
    · have e : k = n := by omega
      subst e
      go_wp2
      go_ret
      exact ⟨by rw [decide_eq_true (take_all hall.out hn'.out hn2'.out)]; rfl, hbr.out⟩

set_option maxHeartbeats 4000000 in
theorem e_Inst (x y : XInst) (cs ds : List Value) (w : World) (hx : KInst lm w x cs) (hy : KInst lm w y ds) : Calls Tryz.prog 225 #[.agg cs.toArray, .agg ds.toArray] w (Ret (.bool (decide (x = y))) w) := by
  obtain ⟨v1, rfl, r1⟩ := hx
  obtain ⟨u1, rfl, s1⟩ := hy
  have hbl := fun o o' => ((Below.refl w.heap.size w).al (Nat.le_refl _) o).al (by simp) o'
  obtain ⟨xop, xwd, xa, xb, xc, ximm, xargs⟩ := x
  obtain ⟨yop, ywd, ya, yb, yc, yimm, yargs⟩ := y
  simp only at *
  have z1 := fun W hW => e_I v1 u1 xargs yargs W (r1.mv hW) (s1.mv hW)
  by_cases hop : xop = yop
  rotate_left
  · rw [decide_eq_false (by intro e; injection e; contradiction)]
    have d := bneT hop
    go_enter Tryz.func225, Tryz.ntmps225
    go_wp2
    go_ret
    exact ⟨rfl, (hbl _ _)⟩
  subst hop
  by_cases hwd : xwd = ywd
  rotate_left
  · rw [decide_eq_false (by intro e; injection e; contradiction)]
    have d := bneT hwd
    go_enter Tryz.func225, Tryz.ntmps225
    go_wp2
    go_ret
    exact ⟨rfl, (hbl _ _)⟩
  subst hwd
  by_cases ha : xa = ya
  rotate_left
  · rw [decide_eq_false (by intro e; injection e; contradiction)]
    have d := bneT ha
    go_enter Tryz.func225, Tryz.ntmps225
    go_wp2
    go_ret
    exact ⟨rfl, (hbl _ _)⟩
  subst ha
  by_cases hb : xb = yb
  rotate_left
  · rw [decide_eq_false (by intro e; injection e; contradiction)]
    have d := bneT hb
    go_enter Tryz.func225, Tryz.ntmps225
    go_wp2
    go_ret
    exact ⟨rfl, (hbl _ _)⟩
  subst hb
  by_cases hc : xc = yc
  rotate_left
  · rw [decide_eq_false (by intro e; injection e; contradiction)]
    have d := bneT hc
    go_enter Tryz.func225, Tryz.ntmps225
    go_wp2
    go_ret
    exact ⟨rfl, (hbl _ _)⟩
  subst hc
  by_cases himm : ximm = yimm
  rotate_left
  · rw [decide_eq_false (by intro e; injection e; contradiction)]
    have d := bneT himm
    go_enter Tryz.func225, Tryz.ntmps225
    go_wp2
    go_ret
    exact ⟨rfl, (hbl _ _)⟩
  subst himm
  by_cases hargs : xargs = yargs
  rotate_left
  · rw [decide_eq_false (by intro e; injection e; contradiction)]
    simp only [decide_eq_false hargs] at z1
    clear hargs
    go_enter Tryz.func225, Tryz.ntmps225
    go_wp2_with fail
    refine (z1 _ (hbl _ _)).mono ?_; rintro e w1 ⟨rfl, hb1⟩
    have k0 := bat hb1 w.heap.size (by simp; omega)
    have k1 := bat hb1 (w.heap.size + 1) (by simp)
    have hz1 := hb1.size
    simp at k0 k1 hz1
    have hbw1 := Hd.mk ((hbl _ _).then hb1)
    go_wp2
    go_ret
    exact ⟨rfl, hbw1.out⟩
  simp only [decide_eq_true hargs] at z1
  rw [decide_eq_true (by rw [hargs])]
  clear hargs
  go_enter Tryz.func225, Tryz.ntmps225
  go_wp2_with fail
  refine (z1 _ (hbl _ _)).mono ?_; rintro e w1 ⟨rfl, hb1⟩
  have k0 := bat hb1 w.heap.size (by simp; omega)
  have k1 := bat hb1 (w.heap.size + 1) (by simp)
  have hz1 := hb1.size
  simp at k0 k1 hz1
  have hbw1 := Hd.mk ((hbl _ _).then hb1)
  go_wp2
  go_ret
  exact ⟨rfl, hbw1.out⟩
set_option maxHeartbeats 4000000 in
set_option maxRecDepth 100000 in
theorem e_InstS (v u : Value) (xs ys : List XInst) (w : World) (hv : Rd lm 7 (KInst lm) w v xs) (hu : Rd lm 7 (KInst lm) w u ys) : Calls Tryz.prog 202 #[v, u] w (Ret (.bool (decide (xs = ys))) w) := by
  obtain ⟨A1, c1, rfl, -, hl1, hv0⟩ := hv.sm
  obtain ⟨A2, c2, rfl, -, hl2, hu0⟩ := hu.sm
  clear hv hu
  by_cases hlen : xs.length = ys.length
  rotate_left
  · rw [decide_eq_false (len_ne hlen)]
    have d : ((xs.length : Int) != (ys.length : Int)) = true := by simp; omega
    go_enter Tryz.func202, Tryz.ntmps202
    go_wp2
    go_ret
    exact ⟨rfl, Below.refl _ _⟩
  obtain ⟨n, hn⟩ : ∃ n, n = xs.length := ⟨_, rfl⟩
  have hn2 : n = ys.length := hn.trans hlen
  rw [← hn, ← hn2]
  rw [← hn] at hv0 hl1
  rw [← hn2] at hu0
  have hn' := Hd.mk hn
  have hn2' := Hd.mk hn2
  clear hn hn2 hlen hl2
  go_enter Tryz.func202, Tryz.ntmps202
  go_wp2
  go_loopw [5] (fun s5 wr => ∃ k : Nat, k ≤ n ∧ s5 = .int .i64 k ∧ Hd (xs.take k = ys.take k) ∧ Hd (Below w.heap.size w wr)) (fun s5 _ => n - (intOf s5).toNat)
  case atStart => exact ⟨0, Nat.zero_le _, rfl, ⟨by simp⟩, ⟨Below.refl _ _⟩⟩
  case round =>
    obtain ⟨k, hk, rfl, hall, hbr⟩ := hrel
    by_cases hlt : k < n
    · obtain ⟨b, off, cs, hA, hbl, ⟨v1, rfl, r1⟩, hat⟩ := hv0.out.in0 hbr.out k (by have := hn'.out; omega)
      cases hA
      have g0 := hat 0 _ rfl
      have g1 := hat 1 _ rfl
      have g2 := hat 2 _ rfl
      have g3 := hat 3 _ rfl
      have g4 := hat 4 _ rfl
      have g5 := hat 5 _ rfl
      have g6 := hat 6 _ rfl
      simp at g0 g1 g2 g3 g4 g5 g6
      clear hat
      obtain ⟨b2, off2, cs, hA, hbl2, ⟨u1, rfl, s1⟩, hat⟩ := hu0.out.in0 hbr.out k (by have := hn2'.out; omega)
      cases hA
      have f0 := hat 0 _ rfl
      have f1 := hat 1 _ rfl
      have f2 := hat 2 _ rfl
      have f3 := hat 3 _ rfl
      have f4 := hat 4 _ rfl
      have f5 := hat 5 _ rfl
      have f6 := hat 6 _ rfl
      simp at f0 f1 f2 f3 f4 f5 f6
      clear hat
      have hz : (k : Int) < (n : Int) := by omega
      have hz0 : (0 : Int) ≤ (k : Int) := by omega
      have hex0 := fun W (hW : Below wr.heap.size wr W) => e_Inst (xs[k]'(by have := hn'.out; omega)) (ys[k]'(by have := hn2'.out; omega)) _ _ W ⟨v1, rfl, r1.mv (hbr.out.then hW)⟩ ⟨u1, rfl, s1.mv (hbr.out.then hW)⟩
      have hdr : Below wr.heap.size wr wr.drew := (Below.refl _ _).drew
      by_cases he : xs[k]'(by have := hn'.out; omega) = ys[k]'(by have := hn2'.out; omega)
      · have ht := Hd.mk (take_eq hall.out (by have := hn'.out; omega) (by have := hn2'.out; omega) he)
        simp only [decide_eq_true he] at hex0
        have hex := Hd.mk hex0
        clear he hex0
        generalize xs[k]'_ = x at *
        generalize ys[k]'_ = y at *
        go_wp2
        go_still_tail 8, (by kernel_rfl)
        change wpList _ _ _ _ _ wr.drew
        go_wp2_with fail
        refine (hex.out _ hdr).mono ?_; rintro e w1 ⟨rfl, hb1⟩
        have hbz := Hd.mk (hbr.out.then (hdr.then hb1))
        clear hb1 hex hdr
        go_wp2
        go_roundw
        case rel => exact ⟨k + 1, by omega, by go_num, ht, hbz⟩
        case measure => simp [intOf]; omega
      · have hne := Hd.mk (el_ne _ _ he)
        simp only [decide_eq_false he] at hex0
        have hex := Hd.mk hex0
        clear he hex0
        generalize xs[k]'_ = x at *
        generalize ys[k]'_ = y at *
        go_wp2
        go_still_tail 8, (by kernel_rfl)
        change wpList _ _ _ _ _ wr.drew
        go_wp2_with fail
        refine (hex.out _ hdr).mono ?_; rintro e w1 ⟨rfl, hb1⟩
        have hbz := Hd.mk (hbr.out.then (hdr.then hb1))
        clear hb1 hex hdr
        go_wp2
        go_ret
        exact ⟨by rw [decide_eq_false hne.out]; rfl, hbz.out⟩
    · have e : k = n := by omega
      subst e
      go_wp2
      go_ret
      exact ⟨by rw [decide_eq_true (take_all hall.out hn'.out hn2'.out)]; rfl, hbr.out⟩

set_option maxHeartbeats 4000000 in
theorem e_Term (x y : XTerm) (cs ds : List Value) (w : World) (hx : KTerm w x cs) (hy : KTerm w y ds) : Calls Tryz.prog 203 #[.agg cs.toArray, .agg ds.toArray] w (Ret (.bool (decide (x = y))) w) := by
  cases hx
  cases hy
  have hbl := fun o o' => ((Below.refl w.heap.size w).al (Nat.le_refl _) o).al (by simp) o'
  obtain ⟨xkind, xa, xx, xy⟩ := x
  obtain ⟨ykind, ya, yx, yy⟩ := y
  simp only at *
  by_cases hkind : xkind = ykind
  rotate_left
  · rw [decide_eq_false (by intro e; injection e; contradiction)]
    have d := bneT hkind
    go_enter Tryz.func203, Tryz.ntmps203
    go_wp2
    go_ret
    exact ⟨rfl, (hbl _ _)⟩
  subst hkind
  by_cases ha : xa = ya
  rotate_left
  · rw [decide_eq_false (by intro e; injection e; contradiction)]
    have d := bneT ha
    go_enter Tryz.func203, Tryz.ntmps203
    go_wp2
    go_ret
    exact ⟨rfl, (hbl _ _)⟩
  subst ha
  by_cases hx : xx = yx
  rotate_left
  · rw [decide_eq_false (by intro e; injection e; contradiction)]
    have d := bneT hx
    go_enter Tryz.func203, Tryz.ntmps203
    go_wp2
    go_ret
    exact ⟨rfl, (hbl _ _)⟩
  subst hx
  by_cases hy : xy = yy
  rotate_left
  · rw [decide_eq_false (by intro e; injection e; contradiction)]
    have d := bneT hy
    go_enter Tryz.func203, Tryz.ntmps203
    go_wp2
    go_ret
    exact ⟨rfl, (hbl _ _)⟩
  subst hy
  rw [decide_eq_true (by rfl)]
  go_enter Tryz.func203, Tryz.ntmps203
  go_wp2
  go_ret
  exact ⟨rfl, (hbl _ _)⟩
set_option maxHeartbeats 4000000 in
theorem e_Block (x y : XBlock) (cs ds : List Value) (w : World) (hx : KBlock lm w x cs) (hy : KBlock lm w y ds) : Calls Tryz.prog 163 #[.agg cs.toArray, .agg ds.toArray] w (Ret (.bool (decide (x = y))) w) := by
  obtain ⟨v1, v2, rfl, r1, r2⟩ := hx
  obtain ⟨u1, u2, rfl, s1, s2⟩ := hy
  have hbl := fun o o' => ((Below.refl w.heap.size w).al (Nat.le_refl _) o).al (by simp) o'
  obtain ⟨xphis, xinsts, xterm⟩ := x
  obtain ⟨yphis, yinsts, yterm⟩ := y
  simp only at *
  have z1 := fun W hW => e_PhiS v1 u1 xphis yphis W (r1.mv hW) (s1.mv hW)
  have z2 := fun W hW => e_InstS v2 u2 xinsts yinsts W (r2.mv hW) (s2.mv hW)
  have zt := fun W => e_Term xterm yterm _ _ W rfl rfl
  by_cases hphis : xphis = yphis
  rotate_left
  · rw [decide_eq_false (by intro e; injection e; contradiction)]
    simp only [decide_eq_false hphis] at z1
    clear hphis
    go_enter Tryz.func163, Tryz.ntmps163
    go_wp2_with fail
    refine (z1 _ (hbl _ _)).mono ?_; rintro e w1 ⟨rfl, hb1⟩
    have k0 := bat hb1 w.heap.size (by simp; omega)
    have k1 := bat hb1 (w.heap.size + 1) (by simp)
    have hz1 := hb1.size
    simp at k0 k1 hz1
    have hbw1 := Hd.mk ((hbl _ _).then hb1)
    go_wp2
    go_ret
    exact ⟨rfl, hbw1.out⟩
  simp only [decide_eq_true hphis] at z1
  by_cases hinsts : xinsts = yinsts
  rotate_left
  · rw [decide_eq_false (by intro e; injection e; contradiction)]
    simp only [decide_eq_false hinsts] at z2
    clear hphis hinsts
    go_enter Tryz.func163, Tryz.ntmps163
    go_wp2_with fail
    refine (z1 _ (hbl _ _)).mono ?_; rintro e w1 ⟨rfl, hb1⟩
    have k0 := bat hb1 w.heap.size (by simp; omega)
    have k1 := bat hb1 (w.heap.size + 1) (by simp)
    have hz1 := hb1.size
    simp at k0 k1 hz1
    have hbw1 := Hd.mk ((hbl _ _).then hb1)
    go_wp2_with fail
    refine (z2 _ hbw1.out).mono ?_; rintro e w2 ⟨rfl, hb2⟩
    replace k0 := fun o => (bat hb2 w.heap.size (by omega) o).trans (k0 o)
    replace k1 := fun o => (bat hb2 (w.heap.size + 1) (by omega) o).trans (k1 o)
    have hz2 := hb2.size
    have hbw2 := Hd.mk (hbw1.out.then hb2)
    go_wp2
    go_ret
    exact ⟨rfl, hbw2.out⟩
  simp only [decide_eq_true hinsts] at z2
  by_cases hterm : xterm = yterm
  rotate_left
  · rw [decide_eq_false (by intro e; injection e; contradiction)]
    simp only [decide_eq_false hterm] at zt
    clear hphis hinsts hterm
    go_enter Tryz.func163, Tryz.ntmps163
    go_wp2_with fail
    refine (z1 _ (hbl _ _)).mono ?_; rintro e w1 ⟨rfl, hb1⟩
    have k0 := bat hb1 w.heap.size (by simp; omega)
    have k1 := bat hb1 (w.heap.size + 1) (by simp)
    have hz1 := hb1.size
    simp at k0 k1 hz1
    have hbw1 := Hd.mk ((hbl _ _).then hb1)
    go_wp2_with fail
    refine (z2 _ hbw1.out).mono ?_; rintro e w2 ⟨rfl, hb2⟩
    replace k0 := fun o => (bat hb2 w.heap.size (by omega) o).trans (k0 o)
    replace k1 := fun o => (bat hb2 (w.heap.size + 1) (by omega) o).trans (k1 o)
    have hz2 := hb2.size
    have hbw2 := Hd.mk (hbw1.out.then hb2)
    go_wp2_with fail
    refine (zt _).mono ?_; rintro e w3 ⟨rfl, hb3⟩
    replace k0 := fun o => (bat hb3 w.heap.size (by omega) o).trans (k0 o)
    replace k1 := fun o => (bat hb3 (w.heap.size + 1) (by omega) o).trans (k1 o)
    have hz3 := hb3.size
    have hbw3 := Hd.mk (hbw2.out.then hb3)
    go_wp2
    go_ret
    exact ⟨rfl, hbw3.out⟩
  simp only [decide_eq_true hterm] at zt
  rw [decide_eq_true (by rw [hphis, hinsts, hterm])]
  clear hphis hinsts hterm
  go_enter Tryz.func163, Tryz.ntmps163
  go_wp2_with fail
  refine (z1 _ (hbl _ _)).mono ?_; rintro e w1 ⟨rfl, hb1⟩
  have k0 := bat hb1 w.heap.size (by simp; omega)
  have k1 := bat hb1 (w.heap.size + 1) (by simp)
  have hz1 := hb1.size
  simp at k0 k1 hz1
  have hbw1 := Hd.mk ((hbl _ _).then hb1)
  go_wp2_with fail
  refine (z2 _ hbw1.out).mono ?_; rintro e w2 ⟨rfl, hb2⟩
  replace k0 := fun o => (bat hb2 w.heap.size (by omega) o).trans (k0 o)
  replace k1 := fun o => (bat hb2 (w.heap.size + 1) (by omega) o).trans (k1 o)
  have hz2 := hb2.size
  have hbw2 := Hd.mk (hbw1.out.then hb2)
  go_wp2_with fail
  refine (zt _).mono ?_; rintro e w3 ⟨rfl, hb3⟩
  replace k0 := fun o => (bat hb3 w.heap.size (by omega) o).trans (k0 o)
  replace k1 := fun o => (bat hb3 (w.heap.size + 1) (by omega) o).trans (k1 o)
  have hz3 := hb3.size
  have hbw3 := Hd.mk (hbw2.out.then hb3)
  go_wp2
  go_ret
  exact ⟨rfl, hbw3.out⟩
set_option maxHeartbeats 4000000 in
set_option maxRecDepth 100000 in
theorem e_BlockS (v u : Value) (xs ys : List XBlock) (w : World) (hv : Rd lm 6 (KBlock lm) w v xs) (hu : Rd lm 6 (KBlock lm) w u ys) : Calls Tryz.prog 123 #[v, u] w (Ret (.bool (decide (xs = ys))) w) := by
  obtain ⟨A1, c1, rfl, -, hl1, hv0⟩ := hv.sm
  obtain ⟨A2, c2, rfl, -, hl2, hu0⟩ := hu.sm
  clear hv hu
  by_cases hlen : xs.length = ys.length
  rotate_left
  · rw [decide_eq_false (len_ne hlen)]
    have d : ((xs.length : Int) != (ys.length : Int)) = true := by simp; omega
    go_enter Tryz.func123, Tryz.ntmps123
    go_wp2
    go_ret
    exact ⟨rfl, Below.refl _ _⟩
  obtain ⟨n, hn⟩ : ∃ n, n = xs.length := ⟨_, rfl⟩
  have hn2 : n = ys.length := hn.trans hlen
  rw [← hn, ← hn2]
  rw [← hn] at hv0 hl1
  rw [← hn2] at hu0
  have hn' := Hd.mk hn
  have hn2' := Hd.mk hn2
  clear hn hn2 hlen hl2
  go_enter Tryz.func123, Tryz.ntmps123
  go_wp2
  go_loopw [5] (fun s5 wr => ∃ k : Nat, k ≤ n ∧ s5 = .int .i64 k ∧ Hd (xs.take k = ys.take k) ∧ Hd (Below w.heap.size w wr)) (fun s5 _ => n - (intOf s5).toNat)
  case atStart => exact ⟨0, Nat.zero_le _, rfl, ⟨by simp⟩, ⟨Below.refl _ _⟩⟩
  case round =>
    obtain ⟨k, hk, rfl, hall, hbr⟩ := hrel
    by_cases hlt : k < n
    · obtain ⟨b, off, cs, hA, hbl, ⟨v1, v2, rfl, r1, r2⟩, hat⟩ := hv0.out.in0 hbr.out k (by have := hn'.out; omega)
      cases hA
      have g0 := hat 0 _ rfl
      have g1 := hat 1 _ rfl
      have g2 := hat 2 _ rfl
      have g3 := hat 3 _ rfl
      have g4 := hat 4 _ rfl
      have g5 := hat 5 _ rfl
      simp at g0 g1 g2 g3 g4 g5
      clear hat
      obtain ⟨b2, off2, cs, hA, hbl2, ⟨u1, u2, rfl, s1, s2⟩, hat⟩ := hu0.out.in0 hbr.out k (by have := hn2'.out; omega)
      cases hA
      have f0 := hat 0 _ rfl
      have f1 := hat 1 _ rfl
      have f2 := hat 2 _ rfl
      have f3 := hat 3 _ rfl
      have f4 := hat 4 _ rfl
      have f5 := hat 5 _ rfl
      simp at f0 f1 f2 f3 f4 f5
      clear hat
      have hz : (k : Int) < (n : Int) := by omega
      have hz0 : (0 : Int) ≤ (k : Int) := by omega
      have hex0 := fun W (hW : Below wr.heap.size wr W) => e_Block (xs[k]'(by have := hn'.out; omega)) (ys[k]'(by have := hn2'.out; omega)) _ _ W ⟨v1, v2, rfl, r1.mv (hbr.out.then hW), r2.mv (hbr.out.then hW)⟩ ⟨u1, u2, rfl, s1.mv (hbr.out.then hW), s2.mv (hbr.out.then hW)⟩
      have hdr : Below wr.heap.size wr wr.drew := (Below.refl _ _).drew
      by_cases he : xs[k]'(by have := hn'.out; omega) = ys[k]'(by have := hn2'.out; omega)
      · have ht := Hd.mk (take_eq hall.out (by have := hn'.out; omega) (by have := hn2'.out; omega) he)
        simp only [decide_eq_true he] at hex0
        have hex := Hd.mk hex0
        clear he hex0
        generalize xs[k]'_ = x at *
        generalize ys[k]'_ = y at *
        go_wp2
        go_still_tail 8, (by kernel_rfl)
        change wpList _ _ _ _ _ wr.drew
        go_wp2_with fail
        refine (hex.out _ hdr).mono ?_; rintro e w1 ⟨rfl, hb1⟩
        have hbz := Hd.mk (hbr.out.then (hdr.then hb1))
        clear hb1 hex hdr
        go_wp2
        go_roundw
        case rel => exact ⟨k + 1, by omega, by go_num, ht, hbz⟩
        case measure => simp [intOf]; omega
      · have hne := Hd.mk (el_ne _ _ he)
        simp only [decide_eq_false he] at hex0
        have hex := Hd.mk hex0
        clear he hex0
        generalize xs[k]'_ = x at *
        generalize ys[k]'_ = y at *
        go_wp2
        go_still_tail 8, (by kernel_rfl)
        change wpList _ _ _ _ _ wr.drew
        go_wp2_with fail
        refine (hex.out _ hdr).mono ?_; rintro e w1 ⟨rfl, hb1⟩
        have hbz := Hd.mk (hbr.out.then (hdr.then hb1))
        clear hb1 hex hdr
        go_wp2
        go_ret
        exact ⟨by rw [decide_eq_false hne.out]; rfl, hbz.out⟩
    · have e : k = n := by omega
      subst e
      go_wp2
      go_ret
      exact ⟨by rw [decide_eq_true (take_all hall.out hn'.out hn2'.out)]; rfl, hbr.out⟩

set_option maxHeartbeats 4000000 in
theorem e_Func (x y : XFunc) (cs ds : List Value) (w : World) (hx : KFunc lm w x cs) (hy : KFunc lm w y ds) : Calls Tryz.prog 87 #[.agg cs.toArray, .agg ds.toArray] w (Ret (.bool (decide (x = y))) w) := by
  obtain ⟨v1, v2, rfl, r1, r2⟩ := hx
  obtain ⟨u1, u2, rfl, s1, s2⟩ := hy
  have hbl := fun o o' => ((Below.refl w.heap.size w).al (Nat.le_refl _) o).al (by simp) o'
  obtain ⟨xparams, xret, xblocks⟩ := x
  obtain ⟨yparams, yret, yblocks⟩ := y
  simp only at *
  have z1 := fun W hW => e_I v1 u1 xparams yparams W (r1.mv hW) (s1.mv hW)
  have z2 := fun W hW => e_BlockS v2 u2 xblocks yblocks W (r2.mv hW) (s2.mv hW)
  by_cases hparams : xparams = yparams
  rotate_left
  · rw [decide_eq_false (by intro e; injection e; contradiction)]
    simp only [decide_eq_false hparams] at z1
    clear hparams
    go_enter Tryz.func87, Tryz.ntmps87
    go_wp2_with fail
    refine (z1 _ (hbl _ _)).mono ?_; rintro e w1 ⟨rfl, hb1⟩
    have k0 := bat hb1 w.heap.size (by simp; omega)
    have k1 := bat hb1 (w.heap.size + 1) (by simp)
    have hz1 := hb1.size
    simp at k0 k1 hz1
    have hbw1 := Hd.mk ((hbl _ _).then hb1)
    go_wp2
    go_ret
    exact ⟨rfl, hbw1.out⟩
  simp only [decide_eq_true hparams] at z1
  by_cases hret : xret = yret
  rotate_left
  · rw [decide_eq_false (by intro e; injection e; contradiction)]
    have d := bneT hret
    clear hparams
    go_enter Tryz.func87, Tryz.ntmps87
    go_wp2_with fail
    refine (z1 _ (hbl _ _)).mono ?_; rintro e w1 ⟨rfl, hb1⟩
    have k0 := bat hb1 w.heap.size (by simp; omega)
    have k1 := bat hb1 (w.heap.size + 1) (by simp)
    have hz1 := hb1.size
    simp at k0 k1 hz1
    have hbw1 := Hd.mk ((hbl _ _).then hb1)
    go_wp2
    go_ret
    exact ⟨rfl, hbw1.out⟩
  subst hret
  by_cases hblocks : xblocks = yblocks
  rotate_left
  · rw [decide_eq_false (by intro e; injection e; contradiction)]
    simp only [decide_eq_false hblocks] at z2
    clear hparams hblocks
    go_enter Tryz.func87, Tryz.ntmps87
    go_wp2_with fail
    refine (z1 _ (hbl _ _)).mono ?_; rintro e w1 ⟨rfl, hb1⟩
    have k0 := bat hb1 w.heap.size (by simp; omega)
    have k1 := bat hb1 (w.heap.size + 1) (by simp)
    have hz1 := hb1.size
    simp at k0 k1 hz1
    have hbw1 := Hd.mk ((hbl _ _).then hb1)
    go_wp2_with fail
    refine (z2 _ hbw1.out).mono ?_; rintro e w2 ⟨rfl, hb2⟩
    replace k0 := fun o => (bat hb2 w.heap.size (by omega) o).trans (k0 o)
    replace k1 := fun o => (bat hb2 (w.heap.size + 1) (by omega) o).trans (k1 o)
    have hz2 := hb2.size
    have hbw2 := Hd.mk (hbw1.out.then hb2)
    go_wp2
    go_ret
    exact ⟨rfl, hbw2.out⟩
  simp only [decide_eq_true hblocks] at z2
  rw [decide_eq_true (by rw [hparams, hblocks])]
  clear hparams hblocks
  go_enter Tryz.func87, Tryz.ntmps87
  go_wp2_with fail
  refine (z1 _ (hbl _ _)).mono ?_; rintro e w1 ⟨rfl, hb1⟩
  have k0 := bat hb1 w.heap.size (by simp; omega)
  have k1 := bat hb1 (w.heap.size + 1) (by simp)
  have hz1 := hb1.size
  simp at k0 k1 hz1
  have hbw1 := Hd.mk ((hbl _ _).then hb1)
  go_wp2_with fail
  refine (z2 _ hbw1.out).mono ?_; rintro e w2 ⟨rfl, hb2⟩
  replace k0 := fun o => (bat hb2 w.heap.size (by omega) o).trans (k0 o)
  replace k1 := fun o => (bat hb2 (w.heap.size + 1) (by omega) o).trans (k1 o)
  have hz2 := hb2.size
  have hbw2 := Hd.mk (hbw1.out.then hb2)
  go_wp2
  go_ret
  exact ⟨rfl, hbw2.out⟩
end Go.Proofs.YtkcgejbnhpccdaaGreat
set_option linter.unusedSimpArgs false
set_option linter.unusedVariables false
namespace Go.Proofs.YtkcgejbnhpccdaaGreat
open Go.RowKit
/-! ### what the functions compute: widths, forms -/
def inR (n lo hi : Int) : Bool := decide (lo ≤ n) && decide (n ≤ hi)
def widthOk (w : Int) : Bool := w == 1 || w == 8 || w == 16 || w == 32
def isVal (w v : Int) : Bool := widthOk w && inR v 0 (2 ^ w.toNat - 1)
def bin (op : Int) : Bool := inR op 1 17
def cst (op : Int) : Bool := inR op 18 20
def opsOf (i : XInst) : List Int :=
  if bin i.op || i.op == 24 then [i.a, i.b]
  else if cst i.op || i.op == 23 || i.op == 25 || i.op == 27 then [i.a]
  else if i.op == 22 then [i.a, i.b, i.c]
  else if i.op == 26 then i.args else []
def wFits (i : XInst) : Bool := if i.op == 24 || i.op == 25 then i.w == 0 else if i.op == 23 then i.w == 8 else widthOk i.w
def immFits (i : XInst) (funcs : Int) : Bool := if i.op == 21 then isVal i.w i.imm else if i.op == 26 then inR i.imm 0 (funcs - 1) else i.imm == 0
def isIdB (ids : Int) (id : Int) : Bool := inR id 0 (ids - 1)
def ownN (i : XInst) : Nat := if i.op == 26 then 0 else (opsOf i).length
def instOk (ids funcs : Int) (i : XInst) : Bool :=
  inR i.op 1 27 && decide (i.args.length ≤ 4) && (i.args.isEmpty || i.op == 26) && (opsOf i).all (isIdB ids)
    && (([i.a, i.b, i.c].drop (ownN i)).all (· == 0)) && wFits i && immFits i funcs
def termOk (ids blocks : Int) (t : XTerm) : Bool :=
  if t.kind == 1 then isIdB ids t.a && t.x == 0 && t.y == 0
  else if t.kind == 2 then t.a == 0 && isIdB blocks t.x && t.y == 0
  else if t.kind == 3 then isIdB ids t.a && isIdB blocks t.x && isIdB blocks t.y && t.x != t.y
  else if t.kind == 4 then t.a == 0 && t.x == 0 && t.y == 0 else false
def phiOk (ids : Int) (p : XPhi) : Bool := widthOk p.w && decide (p.ins.length ≤ 10) && p.ins.all (isIdB ids)
def blockOk (ids funcs blocks : Int) (b : XBlock) : Bool := b.phis.all (phiOk ids) && b.insts.all (instOk ids funcs) && termOk ids blocks b.term
def sizeB (b : XBlock) : Int := b.phis.length + b.insts.length
def countIn (n : Int) (l : List XBlock) : Int := n + (l.map sizeB).sum
def countOf (f : XFunc) : Int := countIn f.params.length f.blocks
def funcOk (f : XFunc) (funcs : Int) : Bool :=
  decide (f.params.length ≤ 4) && widthOk f.ret && inR f.blocks.length 1 10 && f.params.all widthOk && decide (countOf f ≤ 60)
    && f.blocks.all (blockOk (countOf f) funcs f.blocks.length)
theorem sizeB_nn (b : XBlock) : 0 ≤ sizeB b := by unfold sizeB; omega
theorem countIn_le (n : Int) (l : List XBlock) : n ≤ countIn n l := by
  unfold countIn
  induction l with
  | nil => simp
  | cons b l ih => have := sizeB_nn b; simp only [List.map_cons, List.sum_cons]; omega
theorem countIn_snoc (n : Int) (l : List XBlock) (k : Nat) (h : k < l.length) : countIn n (l.take (k + 1)) = countIn n (l.take k) + sizeB l[k] := by
  unfold countIn
  rw [List.take_succ_eq_append_getElem h, List.map_append, List.sum_append]
  simp; omega
theorem all_false {α : Type} (p : α → Bool) (l : List α) : (!l.any fun x => !p x) = l.all p := by
  induction l with
  | nil => rfl
  | cons x l ih => simp only [List.any_cons, List.all_cons, ← ih]; cases p x <;> simp
theorem any_not {α : Type} (p : α → Bool) (l : List α) : (l.any fun x => !p x) = !l.all p := by rw [← all_false, Bool.not_not]
theorem opsOf_le (i : XInst) : (opsOf i).length ≤ 3 ∨ (opsOf i = i.args ∧ i.op = 26) := by
  unfold opsOf
  repeat' split
  all_goals first | (left; simp; done) | (right; rename_i h; exact ⟨rfl, by simpa using h⟩)
end Go.Proofs.YtkcgejbnhpccdaaGreat
set_option linter.unusedSimpArgs false
set_option linter.unusedVariables false
namespace Go.Proofs.YtkcgejbnhpccdaaGreat
open Go.RowKit
theorem Same.ret {P : Program} {f : Nat} {args : Array Value} {v : Value} {w : World} (h : Calls P f args w (Same v w)) : Calls P f args w (Ret v w) := h.mono fun _ _ ⟨he, hw⟩ => ⟨he, hw ▸ Below.refl _ _⟩
end Go.Proofs.YtkcgejbnhpccdaaGreat
