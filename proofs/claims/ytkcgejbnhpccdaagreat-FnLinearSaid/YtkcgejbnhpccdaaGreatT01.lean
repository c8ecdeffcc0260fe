import Derived.WalkKit
import Derived.WalkSpells
import Derived.WalkLawsBesides
import Derived.Lib.Hide
import Derived.Shelf.Abstract
import Derived.Test.YtkcgejbnhpccdaaGreatProg
import Derived.Laws.AppendOwnNone
set_option linter.unusedSimpArgs false
set_option linter.unusedVariables false
namespace Go.Proofs.YtkcgejbnhpccdaaGreat
open Go.RowKit
structure Hd (p : Prop) : Prop where mk :: (out : p)
structure XInst where
  op : Int
  w : Int
  a : Int
  b : Int
  c : Int
  imm : Int
  args : List Int
  deriving DecidableEq, Inhabited
structure XPhi where
  w : Int
  ins : List Int
  deriving DecidableEq, Inhabited
structure XTerm where
  kind : Int
  a : Int
  x : Int
  y : Int
  deriving DecidableEq, Inhabited
structure XBlock where
  phis : List XPhi
  insts : List XInst
  term : XTerm
  deriving DecidableEq, Inhabited
structure XFunc where
  params : List Int
  ret : Int
  blocks : List XBlock
  deriving DecidableEq, Inhabited
structure XMod where
  funcs : List XFunc
  deriving DecidableEq, Inhabited
def Rd {α : Type} (L sz : Nat) (K : World → α → List Value → Prop) (w : World) (v : Value) (xs : List α) : Prop :=
  ∃ A c, v = .slice A xs.length c ∧ xs.length ≤ c ∧ xs.length ≤ L ∧ (A = none → c = 0) ∧
    (0 < xs.length → ∃ b off, A = some ⟨b, off, none⟩ ∧ b < w.heap.size ∧ ∀ i (hi : i < xs.length), ∃ cs, K w xs[i] cs ∧ cs.length = sz ∧ ∀ j (hj : j < cs.length), w.cell? ⟨b, off + i * sz + j, none⟩ = some cs[j])
class KM {α : Type} (K : World → α → List Value → Prop) : Prop where
  mv : ∀ {w w' : World} {x : α} {cs : List Value}, K w x cs → Below w.heap.size w w' → K w' x cs
theorem Rd.mv {α : Type} {L sz : Nat} {K : World → α → List Value → Prop} [KM K] {w w' : World} {v : Value} {xs : List α} (h : Rd L sz K w v xs) (hb : Below w.heap.size w w') : Rd L sz K w' v xs := by
  obtain ⟨A, c, rfl, h1, h2, hz, h3⟩ := h
  refine ⟨A, c, rfl, h1, h2, hz, fun h0 => ?_⟩
  obtain ⟨b, off, rfl, hlt, hat⟩ := h3 h0
  refine ⟨b, off, rfl, Nat.lt_of_lt_of_le hlt hb.size, fun i hi => ?_⟩
  obtain ⟨cs, hk, hl, hc⟩ := hat i hi
  exact ⟨cs, KM.mv hk hb, hl, fun j hj => (hb.cell (p := ⟨b, _, none⟩) hlt).trans (hc j hj)⟩
theorem Rd.len {α : Type} {L sz : Nat} {K : World → α → List Value → Prop} {w : World} {v : Value} {xs : List α} (h : Rd L sz K w v xs) : xs.length ≤ L := by
  obtain ⟨A, c, rfl, h1, h2, _, h3⟩ := h; exact h2
theorem Rd.sh {α : Type} {L sz : Nat} {K : World → α → List Value → Prop} {w : World} {v : Value} {xs : List α} (h : Rd L sz K w v xs) : ∃ A c, v = .slice A xs.length c ∧ xs.length ≤ c ∧ xs.length ≤ L ∧ Hd (Rd L sz K w v xs) := by
  have h' := h
  obtain ⟨A, c, rfl, h1, h2, _, h3⟩ := h; exact ⟨A, c, rfl, h1, h2, ⟨h'⟩⟩
theorem Rd.at_ {α : Type} {L sz : Nat} {K : World → α → List Value → Prop} {w : World} {v : Value} {xs : List α} (h : Rd L sz K w v xs) (i : Nat) (hi : i < xs.length) :
    ∃ b off c cs, v = .slice (some ⟨b, off, none⟩) xs.length c ∧ b < w.heap.size ∧ K w xs[i] cs ∧ cs.length = sz ∧ ∀ j (hj : j < cs.length), w.cell? ⟨b, off + i * sz + j, none⟩ = some cs[j] := by
  obtain ⟨A, c, rfl, h1, h2, _, h3⟩ := h
  obtain ⟨b, off, rfl, hlt, hat⟩ := h3 (by omega)
  obtain ⟨cs, hk, hl, hc⟩ := hat i hi
  exact ⟨b, off, c, cs, rfl, hlt, hk, hl, hc⟩
theorem Rd.in_ {α : Type} {L sz : Nat} {K : World → α → List Value → Prop} [KM K] {w wr : World} {A : Option Addr} {n c : Nat} {xs : List α} (h : Rd L sz K w (.slice A n c) xs) (hb : Below w.heap.size w wr) (i : Nat) (hi : i < xs.length) :
    ∃ b off cs, A = some ⟨b, off, none⟩ ∧ b < w.heap.size ∧ K wr xs[i] cs ∧ ∀ j v, cs[j]? = some v → wr.cell? ⟨b, off + i * sz + j, none⟩ = some v := by
  obtain ⟨b, off, c', cs, hv, hlt, hk, _, hc⟩ := h.at_ i hi
  cases hv
  refine ⟨b, off, cs, rfl, hlt, KM.mv hk hb, fun j v hv => ?_⟩
  obtain ⟨hj, rfl⟩ := List.getElem?_eq_some_iff.1 hv
  exact (hb.cell (p := ⟨b, _, none⟩) hlt).trans (hc j hj)
theorem Rd.in0 {α : Type} {L sz : Nat} {K : World → α → List Value → Prop} {w wr : World} {A : Option Addr} {n c : Nat} {xs : List α} (h : Rd L sz K w (.slice A n c) xs) (hb : Below w.heap.size w wr) (i : Nat) (hi : i < xs.length) :
    ∃ b off cs, A = some ⟨b, off, none⟩ ∧ b < w.heap.size ∧ K w xs[i] cs ∧ ∀ j v, cs[j]? = some v → wr.cell? ⟨b, off + i * sz + j, none⟩ = some v := by
  obtain ⟨b, off, c', cs, hv, hlt, hk, _, hc⟩ := h.at_ i hi
  cases hv
  refine ⟨b, off, cs, rfl, hlt, hk, fun j v hv => ?_⟩
  obtain ⟨hj, rfl⟩ := List.getElem?_eq_some_iff.1 hv
  exact (hb.cell (p := ⟨b, _, none⟩) hlt).trans (hc j hj)
theorem bat {B : Nat} {w w' : World} (hb : Below B w w') (b : Nat) (h : b < B) (o : Nat) : w'.cell? ⟨b, o, none⟩ = w.cell? ⟨b, o, none⟩ := hb.cell (p := ⟨b, o, none⟩) h
theorem fat {B : Nat} {w w' : World} (hb : Below B w w') (b : Nat) (h : b < B) (o : Nat) : w'.frozen? ⟨b, o, none⟩ = w.frozen? ⟨b, o, none⟩ := hb.frozen (p := ⟨b, o, none⟩) h
theorem _root_.Go.RowKit.Below.then {w w1 w2 : World} (h : Below w.heap.size w w1) (k : Below w1.heap.size w1 w2) : Below w.heap.size w w2 := h.trans (k.mono h.size)
theorem _root_.Go.RowKit.Below.al {B : Nat} {w W : World} (h : Below B w W) (hB : B ≤ W.heap.size) (o : Obj) : Below B w (W.alloc o) := h.alloc hB o
section
variable (L : Nat)
def KInt (_ : World) (x : Int) (cs : List Value) : Prop := cs = [.int .i64 x]
instance : KM KInt := ⟨fun h _ => h⟩
abbrev RI := Rd L 1 KInt
def KPhi (w : World) (x : XPhi) (cs : List Value) : Prop := ∃ v, cs = [.int .i64 x.w, v] ∧ RI L w v x.ins
instance : KM (KPhi L) := ⟨fun ⟨v, h, r⟩ hb => ⟨v, h, r.mv hb⟩⟩
abbrev RPhi := Rd L 2 (KPhi L)
def KInst (w : World) (x : XInst) (cs : List Value) : Prop := ∃ v, cs = [.int .i64 x.op, .int .i64 x.w, .int .i64 x.a, .int .i64 x.b, .int .i64 x.c, .int .i64 x.imm, v] ∧ RI L w v x.args
instance : KM (KInst L) := ⟨fun ⟨v, h, r⟩ hb => ⟨v, h, r.mv hb⟩⟩
abbrev RInst := Rd L 7 (KInst L)
def KBlock (w : World) (x : XBlock) (cs : List Value) : Prop := ∃ v1 v2, cs = [v1, v2, .int .i64 x.term.kind, .int .i64 x.term.a, .int .i64 x.term.x, .int .i64 x.term.y] ∧ RPhi L w v1 x.phis ∧ RInst L w v2 x.insts
instance : KM (KBlock L) := ⟨fun ⟨v, v', h, r, s⟩ hb => ⟨v, v', h, r.mv hb, s.mv hb⟩⟩
abbrev RBlock := Rd L 6 (KBlock L)
def KFunc (w : World) (x : XFunc) (cs : List Value) : Prop := ∃ v1 v2, cs = [v1, .int .i64 x.ret, v2] ∧ RI L w v1 x.params ∧ RBlock L w v2 x.blocks
instance : KM (KFunc L) := ⟨fun ⟨v, v', h, r, s⟩ hb => ⟨v, v', h, r.mv hb, s.mv hb⟩⟩
end
abbrev lm : Nat := 1048576
theorem Rd.sm {α : Type} {sz : Nat} {K : World → α → List Value → Prop} {w : World} {v : Value} {xs : List α} (h : Rd lm sz K w v xs) : ∃ A c, v = .slice A xs.length c ∧ xs.length ≤ c ∧ xs.length ≤ 1048576 ∧ Hd (Rd lm sz K w v xs) := h.sh
theorem own_shape {w : World} {base e sz n : Nat} {v : Value} {cells : List Value} (h : w.ownsRow base e sz v n cells) : ∃ A c, v = .slice A n c ∧ n ≤ c ∧ cells.length = n * sz ∧ (A = none → c = 0) ∧ (0 < n → ∃ b, A = some ⟨b, 0, none⟩ ∧ b < w.heap.size ∧ ∀ j u, cells[j]? = some u → w.cell? ⟨b, j, none⟩ = some u) := by
  obtain ⟨hl, ⟨rfl, rfl⟩ | ⟨g, cap, cur, rfl, hb, hg, hn, hm, hs, ht⟩⟩ := h
  · exact ⟨none, 0, rfl, Nat.le_refl _, hl, fun _ => rfl, fun h => absurd h (Nat.lt_irrefl _)⟩
  · refine ⟨_, cap, rfl, hn, hl, fun h => (by cases h), fun _ => ⟨g, rfl, (Array.getElem?_eq_some_iff.1 hg).1, fun j u hj => ?_⟩⟩
    have hjl : j < n * sz := by have := (List.getElem?_eq_some_iff.1 hj).1; omega
    simp only [World.cell?, hg, Option.isSome_none, Bool.false_eq_true, if_false]
    rw [← ht, List.getElem?_take, if_pos hjl] at hj
    simpa using hj
theorem own_ints {L : Nat} {w : World} {base e n : Nat} {v : Value} {xs : List Int} (h : w.ownsRow base e 1 v n (xs.map (Value.int .i64))) (hL : xs.length ≤ L) : n = xs.length ∧ Rd L 1 KInt w v xs := by
  obtain ⟨A, c, rfl, hc, hl, hz, hat⟩ := own_shape h
  have e : n = xs.length := by simpa using hl.symm
  subst e
  refine ⟨rfl, A, c, rfl, hc, hL, hz, fun h0 => ?_⟩
  obtain ⟨b, rfl, hb, hat⟩ := hat h0
  refine ⟨b, 0, rfl, hb, fun i hi => ⟨_, rfl, rfl, fun j hj => ?_⟩⟩
  obtain rfl : j = 0 := by simpa using hj
  simpa using hat i (.int .i64 xs[i]) (by simp [hi])
def PB {α : Type} (P : Program) (g : Nat) (lb : Array Value) (K : World → α → List Value → Prop) (arg : List Value → Value) (p : α → Bool) (w : World) : Prop :=
  ∀ (W : World) (x : α) (cs : List Value), Below w.heap.size w W → K W x cs → Calls P g (#[arg cs] ++ lb) W fun e w' => e = .returned (.bool (p x)) ∧ Below W.heap.size W w'
def arg1 (cs : List Value) : Value := cs.getD 0 undef
def argN (cs : List Value) : Value := .agg cs.toArray
def idx {α : Type} (p : α → Bool) : List α → Int
  | [] => -1
  | x :: xs => if p x then 0 else if idx p xs < 0 then -1 else idx p xs + 1
theorem idx_hit {α : Type} (p : α → Bool) : ∀ (xs : List α) (k : Nat) (hk : k < xs.length), p xs[k] = true → (∀ j (h : j < xs.length), j < k → p xs[j] = false) → idx p xs = k
  | x :: xs, 0, _, h, _ => by simp at h; simp [idx, h]
  | x :: xs, k + 1, hk, h, hn => by
    have h0 := hn 0 (by simp) (by omega)
    simp only [List.getElem_cons_zero] at h0
    have := idx_hit p xs k (by simpa using hk) (by simpa using h) (fun j hj hjk => (hn (j + 1) (by simp; omega) (by omega) : _))
    simp only [idx, h0, Bool.false_eq_true, if_false, this]
    rw [if_neg (by omega)]; omega
theorem idx_miss {α : Type} (p : α → Bool) : ∀ (xs : List α), (∀ j (h : j < xs.length), p xs[j] = false) → idx p xs = -1
  | [], _ => rfl
  | x :: xs, hn => by
    have h0 := hn 0 (by simp)
    simp only [List.getElem_cons_zero] at h0
    have := idx_miss p xs (fun j hj => (hn (j + 1) (by simp; omega) : _))
    simp [idx, h0, this]
theorem idx_any {α : Type} (p : α → Bool) : ∀ (xs : List α), decide (0 ≤ idx p xs) = xs.any p
  | [] => rfl
  | x :: xs => by
    have := idx_any p xs
    cases h : p x with
    | true => simp [idx, h]
    | false =>
      simp only [List.any_cons, h, Bool.false_or, ← this, idx, Bool.false_eq_true, if_false]
      split
      · rename_i hl; simp; omega
      · rename_i hl; simp; omega
def Same (v : Value) (w : World) (e : Ending) (w' : World) : Prop := e = .returned v ∧ w = w'
def Ret (v : Value) (w : World) (e : Ending) (w' : World) : Prop := e = .returned v ∧ Below w.heap.size w w'
theorem infoI : (Tryz.prog.info? 2).map (fun i => (i.zero, i.size, i.bytes)) = some (some (.int .i64 0), 1, 8) := by kernel_rfl
def RetI (xs : List Int) (w : World) (e : Ending) (w' : World) : Prop := ∃ v, e = .returned v ∧ w'.ownsRow w.heap.size 2 1 v xs.length (xs.map (Value.int .i64)) ∧ Below w.heap.size w w'
theorem Rd.src {w : World} {A : Option Addr} {n c : Nat} {xs : List Int} (h : Rd lm 1 KInt w (.slice A n c) xs) : n = xs.length ∧ xs.length ≤ 1048576 ∧ (A = none → xs = []) ∧ ∀ ad, A = some ad → ∀ j u, (xs.map (Value.int .i64))[j]? = some u → w.cell? (ad.add j) = some u := by
  obtain ⟨A', c', hv, h1, h2, _, h3⟩ := h
  cases hv
  refine ⟨rfl, h2, fun hA => ?_, fun ad hA j u hj => ?_⟩
  · rcases Nat.eq_zero_or_pos xs.length with h0 | h0
    · exact List.eq_nil_of_length_eq_zero h0
    · obtain ⟨b, off, e, _⟩ := h3 h0
      rw [hA] at e; cases e
  · have hjl := (List.getElem?_eq_some_iff.1 hj).1
    simp at hjl
    obtain ⟨b, off, e, hb, hat⟩ := h3 (by omega)
    rw [hA] at e; cases e
    obtain ⟨cs, rfl, _, hc⟩ := hat j hjl
    have := hc 0 (by simp)
    simp only [List.getElem?_map, List.getElem?_eq_getElem hjl, Option.map_some, Option.some.injEq] at hj
    subst hj
    simpa [Addr.add_lit] using this
theorem ownI_nil (w : World) (base : Nat) : w.ownsRow base 2 1 (.slice none 0 0) ([] : List Int).length (([] : List Int).map (Value.int .i64)) := World.ownsRow_nil w base _ _
theorem rd_one (W : World) (x : Int) : Rd lm 1 KInt (W.alloc (.cells #[.int .i64 x] 2)) (.slice (some ⟨W.heap.size, 0, none⟩) 1 1) [x] := by
  refine ⟨_, 1, rfl, by simp, by simp [lm], fun h => (by cases h), fun _ => ⟨W.heap.size, 0, rfl, by simp, fun i hi => ⟨_, rfl, rfl, fun j hj => ?_⟩⟩⟩
  obtain rfl : j = 0 := by simpa using hj
  obtain rfl : i = 0 := by simpa using hi
  simp
theorem app_I {ops : Array Oper} {rest : List Oper} {o : Oper} {a : Act} {Q : Exit → Act → World → Prop} {W : World} (hgd : o.guard = none) (s x : Operand)
    (ho : o.op = .call { callee := .builtin .append, args := #[s, x], argTypes := #[24, 24] }) (base : Nat) (v : Value) (xs ys : List Int) (hs : a.eval s = v)
    (hown : W.ownsRow base 2 1 v xs.length (xs.map (Value.int .i64))) (A : Option Addr) (n c : Nat) (hx : a.eval x = .slice A n c) (hr : RI lm W (.slice A n c) ys) (hl : xs.length ≤ 1099511627776) (hb : base ≤ W.heap.size)
    (h : ∀ v' w', w'.ownsRow base 2 1 v' (xs ++ ys).length ((xs ++ ys).map (Value.int .i64)) → W.grownBy w' v.ownBlock → wpList Tryz.prog ops Q rest (a.put o.dst v') w') : wpList Tryz.prog ops Q (o :: rest) a W := by
  obtain ⟨i0, hi, hz0, hz1, hz2⟩ := info_parts infoI
  obtain ⟨rfl, hle, hn, hsrc⟩ := hr.src
  cases A with
  | none =>
    obtain rfl := hn rfl
    obtain ⟨A', c', hv, _, _, hc0, _⟩ := hr
    cases hv
    obtain rfl := hc0 rfl
    refine wpList_append_own_none hgd s x 24 ho base 2 i0 1 Tryz.underlying24 hi v xs.length _ hs hown hx (h v W (by simpa using hown) ⟨rfl, rfl, rfl, Nat.le_refl _, fun _ _ _ => rfl⟩)
  | some ad =>
    refine wpList_append_own W hgd s x 24 ho base 2 i0 (.int .i64 0) 1 8 Tryz.underlying24 hi hz0 hz1 hz2 rfl (by decide) v xs.length _ hs hown ad ys.length c (ys.map (Value.int .i64)) hx (by simp) (hsrc ad rfl) (by simp [Value.oneCell']) (by unfold maxLen; omega) (by omega) hb fun v' w' h1 h2 _ => h v' w' (by simpa using h1) h2
theorem below_app {w W w' : World} {v : Value} {base n : Nat} {cs : List Value} (hb : Below w.heap.size w W) (hg : W.grownBy w' v.ownBlock) (hw : w.heap.size ≤ W.heap.size) (hown : W.ownsRow base 2 1 v n cs) (hbase : w.heap.size ≤ base) : Below w.heap.size w w' :=
  hb.grown hg hw fun k hk => Nat.le_trans hbase (by
    rcases hown.2 with ⟨rfl, _⟩ | ⟨g, cap, cur, rfl, h, _⟩
    · simp [Value.ownBlock] at hk
    · simp only [Value.ownBlock, Option.some.injEq] at hk; omega)
theorem own_block_ge {w : World} {base e sz n : Nat} {v : Value} {cs : List Value} (h : w.ownsRow base e sz v n cs) : ∀ k, v.ownBlock = some k → base ≤ k := by
  intro k hk
  rcases h.2 with ⟨rfl, _⟩ | ⟨g, cap, cur, rfl, h, _⟩
  · simp [Value.ownBlock] at hk
  · simp only [Value.ownBlock, Option.some.injEq] at hk; omega
theorem own_lower {w : World} {base base' e sz n : Nat} {v : Value} {cs : List Value} (h : w.ownsRow base e sz v n cs) (hb : base' ≤ base) : w.ownsRow base' e sz v n cs := by
  refine ⟨h.1, ?_⟩
  rcases h.2 with h' | ⟨g, cap, cur, hv, h1, h2⟩
  · exact .inl h'
  · exact .inr ⟨g, cap, cur, hv, Nat.le_trans hb h1, h2⟩
theorem grown_cell {W w' : World} {row : Option Nat} (hg : W.grownBy w' row) {b : Nat} (hb : b < W.heap.size) (hne : row ≠ some b) (o : Nat) : w'.cell? ⟨b, o, none⟩ = W.cell? ⟨b, o, none⟩ :=
  World.cell?_of_block (w := W) (w' := w') (a := ⟨b, o, none⟩) (hg.block b hb fun e => hne (by first | exact e | exact e.symm))
theorem own_empty (W : World) (base g e sz : Nat) (hg : g = W.heap.size) (hb : base ≤ W.heap.size) : (W.alloc (.cells #[] e)).ownsRow base e sz (.slice (some ⟨g, 0, none⟩) 0 0) 0 [] := by
  subst hg
  exact World.ownsRow_made _ _ _ hb (by unfold maxLen; omega) (by simp)
theorem own_mv {W w' : World} {base e sz n : Nat} {v : Value} {cs : List Value} (h : W.ownsRow base e sz v n cs) (hb : Below W.heap.size W w') : w'.ownsRow base e sz v n cs := by
  refine ⟨h.1, ?_⟩
  rcases h.2 with h' | ⟨g, cap, cur, hv, h1, h2, h3⟩
  · exact .inl h'
  · exact .inr ⟨g, cap, cur, hv, h1, (hb.block g (Array.getElem?_eq_some_iff.1 h2).1).trans h2, h3⟩
theorem bneT {a b : Int} (h : ¬ a = b) : (a != b) = true := by simpa using h
theorem beqF {a b : Int} (h : ¬ a = b) : (a == b) = false := by simpa using h
def inR (n lo hi : Int) : Bool := decide (lo ≤ n) && decide (n ≤ hi)
def widthOk (w : Int) : Bool := w == 1 || w == 8 || w == 16 || w == 32
def isVal (w v : Int) : Bool := widthOk w && inR v 0 (2 ^ w.toNat - 1)
def bin (op : Int) : Bool := inR op 1 17
def cst (op : Int) : Bool := inR op 18 20
def opsOf (i : XInst) : List Int :=
  if bin i.op || i.op == 24 then [i.a, i.b]
  else if cst i.op || i.op == 23 || i.op == 25 || i.op == 27 then [i.a]
  else if i.op == 22 then [i.a, i.b, i.c]
  else if i.op == 26 then i.args else []
def wFits (i : XInst) : Bool := if i.op == 24 || i.op == 25 then i.w == 0 else if i.op == 23 then i.w == 8 else widthOk i.w
def immFits (i : XInst) (funcs : Int) : Bool := if i.op == 21 then isVal i.w i.imm else if i.op == 26 then inR i.imm 0 (funcs - 1) else i.imm == 0
def isIdB (ids : Int) (id : Int) : Bool := inR id 0 (ids - 1)
def ownN (i : XInst) : Nat := if i.op == 26 then 0 else (opsOf i).length
def instOk (ids funcs : Int) (i : XInst) : Bool :=
  inR i.op 1 27 && decide (i.args.length ≤ 4) && (i.args.isEmpty || i.op == 26) && (opsOf i).all (isIdB ids)
    && (([i.a, i.b, i.c].drop (ownN i)).all (· == 0)) && wFits i && immFits i funcs
def termOk (ids blocks : Int) (t : XTerm) : Bool :=
  if t.kind == 1 then isIdB ids t.a && t.x == 0 && t.y == 0
  else if t.kind == 2 then t.a == 0 && isIdB blocks t.x && t.y == 0
  else if t.kind == 3 then isIdB ids t.a && isIdB blocks t.x && isIdB blocks t.y && t.x != t.y
  else if t.kind == 4 then t.a == 0 && t.x == 0 && t.y == 0 else false
def phiOk (ids : Int) (p : XPhi) : Bool := widthOk p.w && decide (p.ins.length ≤ 10) && p.ins.all (isIdB ids)
def blockOk (ids funcs blocks : Int) (b : XBlock) : Bool := b.phis.all (phiOk ids) && b.insts.all (instOk ids funcs) && termOk ids blocks b.term
def sizeB (b : XBlock) : Int := b.phis.length + b.insts.length
def countIn (n : Int) (l : List XBlock) : Int := n + (l.map sizeB).sum
def countOf (f : XFunc) : Int := countIn f.params.length f.blocks
def funcOk (f : XFunc) (funcs : Int) : Bool :=
  decide (f.params.length ≤ 4) && widthOk f.ret && inR f.blocks.length 1 10 && f.params.all widthOk && decide (countOf f ≤ 60)
    && f.blocks.all (blockOk (countOf f) funcs f.blocks.length)
theorem sizeB_nn (b : XBlock) : 0 ≤ sizeB b := by unfold sizeB; omega
theorem countIn_le (n : Int) (l : List XBlock) : n ≤ countIn n l := by
  unfold countIn
  induction l with
  | nil => simp
  | cons b l ih => have := sizeB_nn b; simp only [List.map_cons, List.sum_cons]; omega
theorem countIn_snoc (n : Int) (l : List XBlock) (k : Nat) (h : k < l.length) : countIn n (l.take (k + 1)) = countIn n (l.take k) + sizeB l[k] := by
  unfold countIn
  rw [List.take_succ_eq_append_getElem h, List.map_append, List.sum_append]
  simp; omega
theorem all_false {α : Type} (p : α → Bool) (l : List α) : (!l.any fun x => !p x) = l.all p := by
  induction l with
  | nil => rfl
  | cons x l ih => simp only [List.any_cons, List.all_cons, ← ih]; cases p x <;> simp
theorem any_not {α : Type} (p : α → Bool) (l : List α) : (l.any fun x => !p x) = !l.all p := by rw [← all_false, Bool.not_not]
theorem opsOf_le (i : XInst) : (opsOf i).length ≤ 3 ∨ (opsOf i = i.args ∧ i.op = 26) := by
  unfold opsOf
  repeat' split
  all_goals first | (left; simp; done) | (right; rename_i h; exact ⟨rfl, by simpa using h⟩)
theorem Same.ret {P : Program} {f : Nat} {args : Array Value} {v : Value} {w : World} (h : Calls P f args w (Same v w)) : Calls P f args w (Ret v w) := h.mono fun _ _ ⟨he, hw⟩ => ⟨he, hw ▸ Below.refl _ _⟩
set_option maxHeartbeats 400000 in
theorem c_IdxI (v : Value) (xs : List Int) (g : Nat) (lb : Array Value) (p : Int → Bool) (w : World) (hv : Rd lm 1 KInt w v xs)
    (eg : ∀ args w, (callFunc g args).run Tryz.prog w = .ok (.enter g args) w) (hp : PB Tryz.prog g lb KInt arg1 p w) :
    Calls Tryz.prog 204 #[v, .func (.func g) #[] lb] w (Ret (.int .i64 (idx p xs)) w) := by
  obtain ⟨A, c, rfl, h1, h2, hv0⟩ := hv.sm
  have hp' := Hd.mk hp
  clear hv hp
  go_enter Tryz.func204, Tryz.ntmps204
  go_wp2
  go_loopw [5, 8] (fun _ s8 wr => ∃ k : Nat, k ≤ xs.length ∧ s8 = .int .i64 k ∧ Hd (Below w.heap.size w wr) ∧ Hd (∀ j (h : j < xs.length), j < k → p xs[j] = false)) (fun _ s8 _ => xs.length - (intOf s8).toNat)
  case atStart => exact ⟨0, Nat.zero_le _, rfl, ⟨Below.refl _ w⟩, ⟨fun j _ h => absurd h (Nat.not_lt_zero _)⟩⟩
  case round =>
    obtain ⟨k, hk, rfl, hb, hn⟩ := hrel
    by_cases hlt : k < xs.length
    · obtain ⟨b, off, cs, hA, hbl, hkk, hat⟩ := hv0.out.in_ hb.out k hlt
      cases hA
      obtain rfl := hkk
      have g0 := hat 0 _ rfl
      simp at g0
      have hcall := hp'.out wr xs[k] _ hb.out rfl
      clear hat
      cases hq : p xs[k] with
      | true =>
        rw [hq] at hcall
        have hq' := Hd.mk hq
        clear hq
        go_wp2_with (go_at_fn g; refine hcall.mono ?_; rintro e w' ⟨rfl, hb'⟩)
        go_ret
        exact ⟨by rw [idx_hit p xs k hlt hq'.out hn.out]; rfl, hb.out.then hb'⟩
      | false =>
        rw [hq] at hcall
        have hq' := Hd.mk hq
        clear hq
        go_wp2_with (go_at_fn g; refine hcall.mono ?_; rintro e w' ⟨rfl, hb'⟩)
        go_roundw
        case rel =>
          refine ⟨k + 1, by omega, by go_num, ⟨hb.out.then hb'⟩, ⟨fun j hj hjk => ?_⟩⟩
          by_cases e : j = k
          · subst e; exact hq'.out
          · exact hn.out j hj (by omega)
        case measure => simp [intOf]; omega
    · have e : k = xs.length := by omega
      subst e
      go_wp2
      go_ret
      exact ⟨by rw [idx_miss p xs (fun j hj => hn.out j hj hj)]; rfl, hb.out⟩
theorem c_ConI (v : Value) (xs : List Int) (g : Nat) (lb : Array Value) (p : Int → Bool) (w : World) (hv : Rd lm 1 KInt w v xs)
    (eg : ∀ args w, (callFunc g args).run Tryz.prog w = .ok (.enter g args) w) (hp : PB Tryz.prog g lb KInt arg1 p w) :
    Calls Tryz.prog 165 #[v, .func (.func g) #[] lb] w (Ret (.bool (xs.any p)) w) := by
  rw [← idx_any]
  have hi := c_IdxI v xs g lb p w hv eg hp
  clear hv eg hp
  go_enter Tryz.func165, Tryz.ntmps165
  go_wp2_with (go_at_call 204; refine hi.mono ?_; rintro e w' ⟨rfl, hb'⟩)
  go_ret
  exact ⟨rfl, hb'⟩
set_option maxHeartbeats 400000 in
theorem c_IdxPhi (v : Value) (xs : List XPhi) (g : Nat) (lb : Array Value) (p : XPhi → Bool) (w : World) (hv : Rd lm 2 (KPhi lm) w v xs)
    (eg : ∀ args w, (callFunc g args).run Tryz.prog w = .ok (.enter g args) w) (hp : PB Tryz.prog g lb (KPhi lm) argN p w) :
    Calls Tryz.prog 205 #[v, .func (.func g) #[] lb] w (Ret (.int .i64 (idx p xs)) w) := by
  obtain ⟨A, c, rfl, h1, h2, hv0⟩ := hv.sm
  have hp' := Hd.mk hp
  clear hv hp
  go_enter Tryz.func205, Tryz.ntmps205
  go_wp2
  go_loopw [5, 8] (fun _ s8 wr => ∃ k : Nat, k ≤ xs.length ∧ s8 = .int .i64 k ∧ Hd (Below w.heap.size w wr) ∧ Hd (∀ j (h : j < xs.length), j < k → p xs[j] = false)) (fun _ s8 _ => xs.length - (intOf s8).toNat)
  case atStart => exact ⟨0, Nat.zero_le _, rfl, ⟨Below.refl _ w⟩, ⟨fun j _ h => absurd h (Nat.not_lt_zero _)⟩⟩
  case round =>
    obtain ⟨k, hk, rfl, hb, hn⟩ := hrel
    by_cases hlt : k < xs.length
    · obtain ⟨b, off, cs, hA, hbl, hkk, hat⟩ := hv0.out.in_ hb.out k hlt
      cases hA
      obtain ⟨v1, rfl, hr⟩ := hkk
      have g0 := hat 0 _ rfl
      have g1 := hat 1 _ rfl
      simp at g0 g1
      have hcall := hp'.out wr xs[k] _ hb.out ⟨v1, rfl, hr⟩
      clear hat
      cases hq : p xs[k] with
      | true =>
        rw [hq] at hcall
        have hq' := Hd.mk hq
        clear hq
        go_wp2_with (go_at_fn g; refine hcall.mono ?_; rintro e w' ⟨rfl, hb'⟩)
        go_ret
        exact ⟨by rw [idx_hit p xs k hlt hq'.out hn.out]; rfl, hb.out.then hb'⟩
      | false =>
        rw [hq] at hcall
        have hq' := Hd.mk hq
        clear hq
        go_wp2_with (go_at_fn g; refine hcall.mono ?_; rintro e w' ⟨rfl, hb'⟩)
        go_roundw
        case rel =>
          refine ⟨k + 1, by omega, by go_num, ⟨hb.out.then hb'⟩, ⟨fun j hj hjk => ?_⟩⟩
          by_cases e : j = k
          · subst e; exact hq'.out
          · exact hn.out j hj (by omega)
        case measure => simp [intOf]; omega
    · have e : k = xs.length := by omega
      subst e
      go_wp2
      go_ret
      exact ⟨by rw [idx_miss p xs (fun j hj => hn.out j hj hj)]; rfl, hb.out⟩
theorem c_ConPhi (v : Value) (xs : List XPhi) (g : Nat) (lb : Array Value) (p : XPhi → Bool) (w : World) (hv : Rd lm 2 (KPhi lm) w v xs)
    (eg : ∀ args w, (callFunc g args).run Tryz.prog w = .ok (.enter g args) w) (hp : PB Tryz.prog g lb (KPhi lm) argN p w) :
    Calls Tryz.prog 167 #[v, .func (.func g) #[] lb] w (Ret (.bool (xs.any p)) w) := by
  rw [← idx_any]
  have hi := c_IdxPhi v xs g lb p w hv eg hp
  clear hv eg hp
  go_enter Tryz.func167, Tryz.ntmps167
  go_wp2_with (go_at_call 205; refine hi.mono ?_; rintro e w' ⟨rfl, hb'⟩)
  go_ret
  exact ⟨rfl, hb'⟩
set_option maxHeartbeats 400000 in
theorem c_IdxInst (v : Value) (xs : List XInst) (g : Nat) (lb : Array Value) (p : XInst → Bool) (w : World) (hv : Rd lm 7 (KInst lm) w v xs)
    (eg : ∀ args w, (callFunc g args).run Tryz.prog w = .ok (.enter g args) w) (hp : PB Tryz.prog g lb (KInst lm) argN p w) :
    Calls Tryz.prog 177 #[v, .func (.func g) #[] lb] w (Ret (.int .i64 (idx p xs)) w) := by
  obtain ⟨A, c, rfl, h1, h2, hv0⟩ := hv.sm
  have hp' := Hd.mk hp
  clear hv hp
  go_enter Tryz.func177, Tryz.ntmps177
  go_wp2
  go_loopw [5, 8] (fun _ s8 wr => ∃ k : Nat, k ≤ xs.length ∧ s8 = .int .i64 k ∧ Hd (Below w.heap.size w wr) ∧ Hd (∀ j (h : j < xs.length), j < k → p xs[j] = false)) (fun _ s8 _ => xs.length - (intOf s8).toNat)
  case atStart => exact ⟨0, Nat.zero_le _, rfl, ⟨Below.refl _ w⟩, ⟨fun j _ h => absurd h (Nat.not_lt_zero _)⟩⟩
  case round =>
    obtain ⟨k, hk, rfl, hb, hn⟩ := hrel
    by_cases hlt : k < xs.length
    · obtain ⟨b, off, cs, hA, hbl, hkk, hat⟩ := hv0.out.in_ hb.out k hlt
      cases hA
      obtain ⟨v1, rfl, hr⟩ := hkk
      have g0 := hat 0 _ rfl
      have g1 := hat 1 _ rfl
      have g2 := hat 2 _ rfl
      have g3 := hat 3 _ rfl
      have g4 := hat 4 _ rfl
      have g5 := hat 5 _ rfl
      have g6 := hat 6 _ rfl
      simp at g0 g1 g2 g3 g4 g5 g6
      have hcall := hp'.out wr xs[k] _ hb.out ⟨v1, rfl, hr⟩
      clear hat
      cases hq : p xs[k] with
      | true =>
        rw [hq] at hcall
        have hq' := Hd.mk hq
        clear hq
        go_wp2_with (go_at_fn g; refine hcall.mono ?_; rintro e w' ⟨rfl, hb'⟩)
        go_ret
        exact ⟨by rw [idx_hit p xs k hlt hq'.out hn.out]; rfl, hb.out.then hb'⟩
      | false =>
        rw [hq] at hcall
        have hq' := Hd.mk hq
        clear hq
        go_wp2_with (go_at_fn g; refine hcall.mono ?_; rintro e w' ⟨rfl, hb'⟩)
        go_roundw
        case rel =>
          refine ⟨k + 1, by omega, by go_num, ⟨hb.out.then hb'⟩, ⟨fun j hj hjk => ?_⟩⟩
          by_cases e : j = k
          · subst e; exact hq'.out
          · exact hn.out j hj (by omega)
        case measure => simp [intOf]; omega
    · have e : k = xs.length := by omega
      subst e
      go_wp2
      go_ret
      exact ⟨by rw [idx_miss p xs (fun j hj => hn.out j hj hj)]; rfl, hb.out⟩
theorem c_ConInst (v : Value) (xs : List XInst) (g : Nat) (lb : Array Value) (p : XInst → Bool) (w : World) (hv : Rd lm 7 (KInst lm) w v xs)
    (eg : ∀ args w, (callFunc g args).run Tryz.prog w = .ok (.enter g args) w) (hp : PB Tryz.prog g lb (KInst lm) argN p w) :
    Calls Tryz.prog 132 #[v, .func (.func g) #[] lb] w (Ret (.bool (xs.any p)) w) := by
  rw [← idx_any]
  have hi := c_IdxInst v xs g lb p w hv eg hp
  clear hv eg hp
  go_enter Tryz.func132, Tryz.ntmps132
  go_wp2_with (go_at_call 177; refine hi.mono ?_; rintro e w' ⟨rfl, hb'⟩)
  go_ret
  exact ⟨rfl, hb'⟩
theorem c_within (n lo hi : Int) (w : World) : Calls Tryz.prog 62 #[.int .i64 n, .int .i64 lo, .int .i64 hi] w (Same (.bool (inR n lo hi)) w) := by
  unfold inR
  by_cases h : lo ≤ n
  all_goals
    go_enter Tryz.func62, Tryz.ntmps62
    go_wp2
    go_ret
    exact ⟨by first | (simp [h]; done) | (have h' : ¬ lo ≤ n := (by omega); simp [h']), rfl⟩
theorem c_WidthOk (n : Int) (w : World) : Calls Tryz.prog 56 #[.int .i64 n] w (Same (.bool (widthOk n)) w) := by
  go_enter Tryz.func56, Tryz.ntmps56
  go_wp2
  all_goals
    go_ret
    exact ⟨by simp [widthOk, *], rfl⟩
theorem c_isBinary (n : Int) (w : World) : Calls Tryz.prog 138 #[.int .i64 n] w (Same (.bool (bin n)) w) := by
  go_enter Tryz.func138, Tryz.ntmps138
  go_wp2_with (go_at_call 62; refine (c_within _ _ _ _).mono ?_; rintro e w' ⟨rfl, rfl⟩)
  go_ret
  exact ⟨rfl, rfl⟩
theorem c_isCast (n : Int) (w : World) : Calls Tryz.prog 140 #[.int .i64 n] w (Same (.bool (cst n)) w) := by
  go_enter Tryz.func140, Tryz.ntmps140
  go_wp2_with (go_at_call 62; refine (c_within _ _ _ _).mono ?_; rintro e w' ⟨rfl, rfl⟩)
  go_ret
  exact ⟨rfl, rfl⟩
theorem c_mask (n : Int) (w : World) (h : widthOk n = true) : Calls Tryz.prog 57 #[.int .i64 n] w (Same (.int .i64 (2 ^ n.toNat - 1)) w) := by
  simp only [widthOk, Bool.or_eq_true, beq_iff_eq] at h
  rcases h with ((rfl | rfl) | rfl) | rfl
  all_goals
    go_enter Tryz.func57, Tryz.ntmps57
    go_wp2
    go_ret
    exact ⟨rfl, rfl⟩
theorem c_isValue (n v : Int) (w : World) : Calls Tryz.prog 92 #[.int .i64 n, .int .i64 v] w (Same (.bool (isVal n v)) w) := by
  unfold isVal
  cases h : widthOk n
  all_goals
    have hh := Hd.mk h
    have hw := c_WidthOk n
    rw [h] at hw
    clear h
    go_enter Tryz.func92, Tryz.ntmps92
    go_wp2_with (first | (go_at_call 56; refine (hw _).mono ?_; rintro e w' ⟨rfl, rfl⟩) | (go_at_call 57; refine (c_mask _ _ hh.out).mono ?_; rintro e w' ⟨rfl, rfl⟩) | (go_at_call 62; refine (c_within _ _ _ _).mono ?_; rintro e w' ⟨rfl, rfl⟩))
    go_ret
    exact ⟨by simp, rfl⟩
theorem c_isInst1 (id ids : Int) (b : Nat) (w : World) (hc : w.cell? ⟨b, 0, none⟩ = some (.int .i64 ids)) (h : -9223372036854775807 ≤ ids) (h2 : ids ≤ 9223372036854775807) : Calls Tryz.prog 206 #[.int .i64 id, .pointer (some ⟨b, 0, none⟩)] w (Same (.bool (!isIdB ids id)) w) := by
  go_enter Tryz.func206, Tryz.ntmps206
  go_wp2_with (go_at_call 62; refine (c_within _ _ _ _).mono ?_; rintro e w' ⟨rfl, rfl⟩)
  go_ret
  exact ⟨rfl, rfl⟩
theorem c_isInst2 (n : Int) (w : World) : Calls Tryz.prog 207 #[.int .i64 n] w (Same (.bool (n != 0)) w) := by
  go_enter Tryz.func207, Tryz.ntmps207
  go_wp2
  go_ret
  exact ⟨rfl, rfl⟩
theorem c_isFunc1 (n : Int) (w : World) : Calls Tryz.prog 166 #[.int .i64 n] w (Same (.bool (!widthOk n)) w) := by
  go_enter Tryz.func166, Tryz.ntmps166
  go_wp2_with (go_at_call 56; refine (c_WidthOk _ _).mono ?_; rintro e w' ⟨rfl, rfl⟩)
  go_ret
  exact ⟨rfl, rfl⟩
set_option maxHeartbeats 400000 in
theorem c_Clone (v : Value) (xs : List Int) (w : World) (hv : RI lm w v xs) : Calls Tryz.prog 61 #[v] w (RetI xs w) := by
  obtain ⟨A, c, rfl, h1, h2, hv0⟩ := hv.sm
  have hn := hv.src.2.2.1
  clear hv
  have keq := fun W a l c => Lib.run_eql_slice_nil (P := Tryz.prog) W 24 2 a l c 0 0 Tryz.underlying24
  cases A with
  | none =>
    obtain rfl := hn rfl
    go_enter Tryz.func61, Tryz.ntmps61
    go_wp2
    go_ret
    exact ⟨_, rfl, ownI_nil _ _, Below.refl _ _⟩
  | some ad =>
    clear hn
    go_enter Tryz.func61, Tryz.ntmps61
    go_wp2_with (at_builtin; refine app_I rfl _ _ rfl w.heap.size _ [] xs rfl ?h1 (some ad) xs.length c rfl ?h2 (by simp) ?h3 ?h4)
    case h1 => exact World.ownsRow_made _ _ _ (Nat.le_refl _) (by unfold maxLen; omega) rfl
    case h2 => exact hv0.out.mv ((Below.refl _ _).al (Nat.le_refl _) _)
    case h3 => simp
    case h4 =>
      intro v' w' ho hg
      go_wp2
      go_ret
      refine ⟨_, rfl, ho, ((Below.refl _ w).al (Nat.le_refl _) (.cells #[] 2)).grown hg (by simp) (fun k hk => ?_)⟩
      simp only [Value.ownBlock, Option.some.injEq] at hk; omega
theorem opsOf_len (i : XInst) (h : i.args.length ≤ 1048576) : (opsOf i).length ≤ 1048576 := by
  rcases opsOf_le i with h' | ⟨h', _⟩
  · omega
  · rw [h']; exact h
theorem retI_made {w W : World} (hb : Below w.heap.size w W) (xs : List Int) (n g : Nat) (hn : n = xs.length) (hg : g = W.heap.size) (hl : n ≤ 1048576) : RetI xs w (.returned (.slice (some ⟨g, 0, none⟩) n n)) (W.alloc (.cells (xs.map (Value.int .i64)).toArray 2)) := by
  subst hn hg
  refine ⟨_, rfl, ⟨by simp, .inr ⟨W.heap.size, xs.length, (xs.map (Value.int .i64)).toArray, rfl, hb.size, ?_, Nat.le_refl _, by unfold maxLen; omega, by simp, ?_⟩⟩, hb.al hb.size _⟩
  · show (W.heap.push _)[W.heap.size]? = _
    simp
  · exact List.take_of_length_le (by simp)
theorem retI_nil {w W : World} (hb : Below w.heap.size w W) : RetI [] w (.returned (.slice none 0 0)) W := ⟨_, rfl, ownI_nil _ _, hb⟩
theorem RetI.later {w w1 : World} {xs : List Int} {e : Ending} {w' : World} (hb : Below w.heap.size w w1) (h : RetI xs w1 e w') : RetI xs w e w' := by
  obtain ⟨v, he, ⟨hl, ho⟩, hb'⟩ := h
  refine ⟨v, he, ⟨hl, ?_⟩, hb.then hb'⟩
  rcases ho with ho | ⟨g, cap, cur, hv, hg, r⟩
  · exact .inl ho
  · exact .inr ⟨g, cap, cur, hv, Nat.le_trans hb.size hg, r⟩
abbrev instV (i : XInst) (v : Value) : Value := .agg #[.int .i64 i.op, .int .i64 i.w, .int .i64 i.a, .int .i64 i.b, .int .i64 i.c, .int .i64 i.imm, v]
set_option maxHeartbeats 1000000 in
theorem c_OperandsOf (i : XInst) (v : Value) (w : World) (hv : RI lm w v i.args) : Calls Tryz.prog 137 #[instV i v] w (RetI (opsOf i) w) := by
  obtain ⟨op, wd, a, b, c, imm, args⟩ := i
  simp only [instV] at hv ⊢
  have hv0 := Hd.mk hv
  have hb := c_isBinary op
  have hc := c_isCast op
  have hbl := fun o => (Below.refl w.heap.size w).al (Nat.le_refl _) o
  clear hv
  by_cases h1 : bin op = true
  · rw [h1] at hb
    rw [show opsOf ⟨op, wd, a, b, c, imm, args⟩ = [a, b] by simp [opsOf, h1]]
    clear h1
    go_enter Tryz.func137, Tryz.ntmps137
    go_wp2_with (go_at_call 138; refine (hb _).mono ?_; rintro e w' ⟨rfl, rfl⟩)
    go_ret
    exact retI_made (hbl _) [a, b] 2 _ rfl (by simp) (by omega)
  rw [Bool.not_eq_true] at h1
  rw [h1] at hb
  by_cases h2 : op = 24
  · subst h2
    rw [show opsOf ⟨24, wd, a, b, c, imm, args⟩ = [a, b] by simp [opsOf]]
    go_enter Tryz.func137, Tryz.ntmps137
    go_wp2_with (go_at_call 138; refine (hb _).mono ?_; rintro e w' ⟨rfl, rfl⟩)
    go_ret
    exact retI_made (hbl _) [a, b] 2 _ rfl (by simp) (by omega)
  by_cases h3 : cst op = true
  · rw [h3] at hc
    rw [show opsOf ⟨op, wd, a, b, c, imm, args⟩ = [a] by simp [opsOf, h1, h2, h3]]
    have b2 := beqF h2
    clear h1 h2 h3
    go_enter Tryz.func137, Tryz.ntmps137
    go_wp2_with (first | (go_at_call 138; refine (hb _).mono ?_; rintro e w' ⟨rfl, rfl⟩) | (go_at_call 140; refine (hc _).mono ?_; rintro e w' ⟨rfl, rfl⟩))
    go_ret
    exact retI_made (hbl _) [a] 1 _ rfl (by simp) (by omega)
  rw [Bool.not_eq_true] at h3
  rw [h3] at hc
  by_cases h4 : op = 23 ∨ op = 25 ∨ op = 27
  · rcases h4 with rfl | rfl | rfl
    all_goals
      rw [show ∀ o, o = 23 ∨ o = 25 ∨ o = 27 → opsOf ⟨o, wd, a, b, c, imm, args⟩ = [a] from fun o ho => by rcases ho with rfl | rfl | rfl <;> simp [opsOf, bin, inR]]
      · clear h1 h2 h3
        go_enter Tryz.func137, Tryz.ntmps137
        go_wp2_with (first | (go_at_call 138; refine (hb _).mono ?_; rintro e w' ⟨rfl, rfl⟩) | (go_at_call 140; refine (hc _).mono ?_; rintro e w' ⟨rfl, rfl⟩))
        go_ret
        exact retI_made (hbl _) [a] 1 _ rfl (by simp) (by omega)
      · simp
  obtain ⟨h5, h6, h7⟩ : op ≠ 23 ∧ op ≠ 25 ∧ op ≠ 27 := by omega
  clear h4
  have b2 := beqF h2
  have b5 := beqF h5
  have b6 := beqF h6
  have b7 := beqF h7
  by_cases h8 : op = 22
  · subst h8
    rw [show opsOf ⟨22, wd, a, b, c, imm, args⟩ = [a, b, c] by simp [opsOf, bin, cst, inR]]
    clear h1 h2 h3 h5 h6 h7 b2 b5 b6 b7
    go_enter Tryz.func137, Tryz.ntmps137
    go_wp2_with (first | (go_at_call 138; refine (hb _).mono ?_; rintro e w' ⟨rfl, rfl⟩) | (go_at_call 140; refine (hc _).mono ?_; rintro e w' ⟨rfl, rfl⟩))
    go_ret
    exact retI_made (hbl _) [a, b, c] 3 _ rfl (by simp) (by omega)
  have b8 := beqF h8
  by_cases h9 : op = 26
  · subst h9
    rw [show opsOf ⟨26, wd, a, b, c, imm, args⟩ = args by simp [opsOf, bin, cst, inR]]
    clear h1 h2 h3 h5 h6 h7 b2 b5 b6 b7 b8 h8
    go_enter Tryz.func137, Tryz.ntmps137
    go_wp2_with (first | (go_at_call 138; refine (hb _).mono ?_; rintro e w' ⟨rfl, rfl⟩) | (go_at_call 140; refine (hc _).mono ?_; rintro e w' ⟨rfl, rfl⟩) | (go_at_call 61; refine (c_Clone _ _ _ (hv0.out.mv (hbl _))).mono ?_; rintro e w' hr; obtain ⟨v', rfl, ho, hb'⟩ := hr.later (hbl _)))
    go_ret
    exact ⟨_, rfl, ho, hb'⟩
  · have b9 := beqF h9
    rw [show opsOf ⟨op, wd, a, b, c, imm, args⟩ = [] by simp [opsOf, h1, h2, h3, h5, h6, h7, h8, h9]]
    clear h1 h2 h3 h5 h6 h7 h8 h9
    go_enter Tryz.func137, Tryz.ntmps137
    go_wp2_with (first | (go_at_call 138; refine (hb _).mono ?_; rintro e w' ⟨rfl, rfl⟩) | (go_at_call 140; refine (hc _).mono ?_; rintro e w' ⟨rfl, rfl⟩))
    go_ret
    exact retI_nil (hbl _)
theorem rd_at (W : World) (g off c : Nat) (xs : List Int) (hc : xs.length ≤ c) (hl : xs.length ≤ 1048576) (hb : g < W.heap.size) (h : ∀ j (h : j < xs.length), W.cell? ⟨g, off + j, none⟩ = some (.int .i64 xs[j])) : RI lm W (.slice (some ⟨g, off, none⟩) xs.length c) xs :=
  ⟨_, c, rfl, hc, hl, fun h => (by cases h), fun _ => ⟨g, off, rfl, hb, fun i hi => ⟨_, rfl, rfl, fun j hj => by
    obtain rfl : j = 0 := by simpa using hj
    simpa using h i hi⟩⟩⟩
theorem c_isWidth (i : XInst) (v : Value) (w : World) : Calls Tryz.prog 208 #[instV i v] w (Ret (.bool (wFits i)) w) := by
  obtain ⟨op, wd, a, b, c, imm, args⟩ := i
  simp only [instV]
  have hbl := fun o => (Below.refl w.heap.size w).al (Nat.le_refl _) o
  by_cases h1 : op = 24
  · subst h1
    go_enter Tryz.func208, Tryz.ntmps208
    go_wp2
    go_ret
    exact ⟨rfl, hbl _⟩
  by_cases h2 : op = 25
  · subst h2
    go_enter Tryz.func208, Tryz.ntmps208
    go_wp2
    go_ret
    exact ⟨rfl, hbl _⟩
  by_cases h3 : op = 23
  · subst h3
    go_enter Tryz.func208, Tryz.ntmps208
    go_wp2
    go_ret
    exact ⟨rfl, hbl _⟩
  · rw [show wFits ⟨op, wd, a, b, c, imm, args⟩ = widthOk wd by simp [wFits, h1, h2, h3]]
    go_enter Tryz.func208, Tryz.ntmps208
    go_wp2_with (go_at_call 56; refine (c_WidthOk _ _).mono ?_; rintro e w' ⟨rfl, rfl⟩)
    go_ret
    exact ⟨rfl, hbl _⟩
theorem c_isImm (i : XInst) (v : Value) (funcs : Int) (w : World) (hf : 0 ≤ funcs) (hf2 : funcs ≤ 1048576) : Calls Tryz.prog 209 #[instV i v, .int .i64 funcs] w (Ret (.bool (immFits i funcs)) w) := by
  obtain ⟨op, wd, a, b, c, imm, args⟩ := i
  simp only [instV]
  have hbl := fun o => (Below.refl w.heap.size w).al (Nat.le_refl _) o
  by_cases h1 : op = 21
  · subst h1
    go_enter Tryz.func209, Tryz.ntmps209
    go_wp2_with (go_at_call 92; refine (c_isValue _ _ _).mono ?_; rintro e w' ⟨rfl, rfl⟩)
    go_ret
    exact ⟨rfl, hbl _⟩
  by_cases h2 : op = 26
  · subst h2
    go_enter Tryz.func209, Tryz.ntmps209
    go_wp2_with (go_at_call 62; refine (c_within _ _ _ _).mono ?_; rintro e w' ⟨rfl, rfl⟩)
    go_ret
    exact ⟨rfl, hbl _⟩
  · rw [show immFits ⟨op, wd, a, b, c, imm, args⟩ funcs = (imm == 0) by simp [immFits, h1, h2]]
    go_enter Tryz.func209, Tryz.ntmps209
    go_wp2
    go_ret
    exact ⟨rfl, hbl _⟩
def instPre (i : XInst) : Bool := inR i.op 1 27 && decide (i.args.length ≤ 4) && (i.args.isEmpty || i.op == 26)
theorem instOk_pre (ids funcs : Int) (i : XInst) : instOk ids funcs i = (instPre i && ((opsOf i).all (isIdB ids) && (([i.a, i.b, i.c].drop (ownN i)).all (· == 0) && (wFits i && immFits i funcs)))) := by
  simp only [instOk, instPre, Bool.and_assoc]
theorem pb_isInst1 (W : World) (b : Nat) (ids : Int) (hb : b < W.heap.size) (hc : W.cell? ⟨b, 0, none⟩ = some (.int .i64 ids)) (h : 0 ≤ ids) (h2 : ids ≤ 1048576) :
    PB Tryz.prog 206 #[.pointer (some ⟨b, 0, none⟩)] KInt arg1 (fun id => !isIdB ids id) W := fun W' x cs hW hk => by
  cases hk
  exact Same.ret (c_isInst1 x ids b W' ((hW.cell (p := ⟨b, 0, none⟩) hb).trans hc) (by omega) (by omega))
theorem pb_isInst2 (W : World) : PB Tryz.prog 207 #[] KInt arg1 (fun n => n != 0) W := fun W' x cs hW hk => by
  cases hk
  exact Same.ret (c_isInst2 x W')
theorem any_ne (l : List Int) : (l.any fun n => n != 0) = !(l.all fun n => n == 0) := any_not (fun n => n == 0) l
theorem three (W : World) (a b c : Int) (n : Nat) (hn : n ≤ 2) : RI lm (W.alloc (.cells #[.int .i64 a, .int .i64 b, .int .i64 c] 2)) (.slice (some ⟨W.heap.size, n, none⟩) (3 - n) (3 - n)) ([a, b, c].drop n) := by
  have h := rd_at (W.alloc (.cells #[.int .i64 a, .int .i64 b, .int .i64 c] 2)) W.heap.size n (3 - n) ([a, b, c].drop n) (by simp) (by simp; omega) (by simp) (fun j hj => by
    simp at hj ⊢
    have : (n = 0 ∧ j = 0) ∨ (n = 0 ∧ j = 1) ∨ (n = 0 ∧ j = 2) ∨ (n = 1 ∧ j = 0) ∨ (n = 1 ∧ j = 1) ∨ (n = 2 ∧ j = 0) := by omega
    rcases this with ⟨rfl, rfl⟩ | ⟨rfl, rfl⟩ | ⟨rfl, rfl⟩ | ⟨rfl, rfl⟩ | ⟨rfl, rfl⟩ | ⟨rfl, rfl⟩ <;> rfl)
  simpa using h
theorem three' (W : World) (a b c : Int) {n : Nat} {l : List Int} (_ : n = l.length) (hn : n ≤ 3) : RI lm (W.alloc (.cells #[.int .i64 a, .int .i64 b, .int .i64 c] 2)) (.slice (some ⟨W.heap.size, if n = 3 then 0 else n, none⟩) (3 - n) (3 - n)) ([a, b, c].drop n) := by
  by_cases h : n = 3
  · subst h
    exact ⟨_, 0, rfl, Nat.le_refl _, by simp, fun h => (by cases h), fun h => absurd h (by simp)⟩
  · rw [if_neg h]; exact three W a b c n (by omega)
set_option maxHeartbeats 2000000 in
theorem c_isInst26 (i : XInst) (v : Value) (ids funcs : Int) (w : World) (hv : RI lm w v i.args) (hi : 0 ≤ ids) (hi2 : ids ≤ 1048576) (hf : 0 ≤ funcs) (hf2 : funcs ≤ 1048576) (ho : i.op = 26) (hl4 : i.args.length ≤ 4) :
    Calls Tryz.prog 171 #[instV i v, .int .i64 ids, .int .i64 funcs] w (Ret (.bool (instOk ids funcs i)) w) := by
  have hin := c_within i.op 1 27
  have hops := c_OperandsOf i
  have hw0 := c_isWidth i
  have hm0 := c_isImm i
  obtain ⟨A, c, rfl, _, hl, hv0⟩ := hv.sm
  have e1 := enters_of Tryz.func206 (by kernel_rfl) rfl
  have e2 := enters_of Tryz.func207 (by kernel_rfl) rfl
  have hp := instOk_pre ids funcs i
  have hpre : instPre i = true := by simp [instPre, ho, hl4, inR]
  have hbl := fun o o' => ((Below.refl w.heap.size w).al (Nat.le_refl _) o).al (by simp) o'
  obtain ⟨op, wd, a, b, c0, imm, args⟩ := i
  simp only [instV] at *
  subst ho
  rw [hpre] at hp
  rw [show inR 26 1 27 = true from rfl] at hin
  rw [show ownN ⟨26, wd, a, b, c0, imm, args⟩ = 0 from rfl, show opsOf ⟨26, wd, a, b, c0, imm, args⟩ = args from rfl] at hp
  rw [show opsOf ⟨26, wd, a, b, c0, imm, args⟩ = args from rfl] at hops
  generalize instOk ids funcs _ = R at *
  generalize hQ : args.all _ = Q1 at *
  have hR := Hd.mk hp
  have hQ' := Hd.mk hQ
  clear hp hQ hpre
  have d4 : decide (4 < (args.length : Int)) = false := by simp; omega
  by_cases d0 : 0 < args.length
  all_goals
    go_enter Tryz.func171, Tryz.ntmps171
    go_wp2_with fail
    refine (hin _).mono ?_
    rintro e w' ⟨rfl, rfl⟩
    go_wp2_with fail
    refine (hops _ _ (hv0.out.mv (hbl _ _))).mono ?_
    rintro e w1 ⟨v', rfl, ho1, hb1⟩
    have hr1 : RI lm w1 v' args := (own_ints ho1 (by omega)).2
    obtain ⟨A1, c1, rfl, hcA, -, hr1'⟩ := hr1.sm
    clear ho1 hr1
    have hz1 := hb1.size
    simp at hz1
    have k0 := bat hb1 w.heap.size (by simp; omega)
    have k1 := bat hb1 (w.heap.size + 1) (by simp)
    simp at k0 k1
    have hbw := Hd.mk ((hbl _ _).then hb1)
    go_wp2_with fail
    have hcon := c_ConI _ args _ _ (fun id => !isIdB ids id) _ hr1'.out e1 (pb_isInst1 w1 (w.heap.size + 1) ids (by omega) (by rw [k1]; rfl) hi hi2)
    rw [any_not, hQ'.out] at hcon
    cases Q1 with
    | false =>
      refine hcon.mono ?_
      rintro e w2 ⟨rfl, hb2⟩
      clear hcon
      have e := hR.out
      simp at e
      subst e
      go_wp2
      go_ret
      exact ⟨rfl, hbw.out.then hb2⟩
    | true =>
      refine hcon.mono ?_
      rintro e w2 ⟨rfl, hb2⟩
      clear hcon
      have hz2 := hb2.size
      replace k0 := fun o => (bat hb2 w.heap.size (by omega) o).trans (k0 o)
      clear k1
      have hbw2 := Hd.mk (hbw.out.then hb2)
      go_wp2_with fail
      have hcon2 := c_ConI _ _ _ #[] (fun n => n != 0) _ (three w2 a b c0 0 (by omega)) e2 (pb_isInst2 _)
      rw [any_ne] at hcon2
      generalize hq3 : ([a, b, c0].drop 0).all _ = Q3 at hcon2
      have hR2 := hR.out
      rw [hq3] at hR2
      cases Q3 with
      | false =>
        refine hcon2.mono ?_
        rintro e w3 ⟨rfl, hb3⟩
        simp at hR2
        subst hR2
        go_wp2
        go_ret
        exact ⟨rfl, (hbw2.out.al hbw2.out.size _).then hb3⟩
      | true =>
        refine hcon2.mono ?_
        rintro e w3 ⟨rfl, hb3⟩
        replace k0 := fun o => (bat hb3 w.heap.size (by simp; omega) o).trans ((World.cell?_alloc_past _ _ _ (by omega)).trans (k0 o))
        have hbw3 := Hd.mk ((hbw2.out.al hbw2.out.size _).then hb3)
        go_wp2_with fail
        refine (hw0 _ _).mono ?_
        rintro e w4 ⟨rfl, hb4⟩
        have hbw4 := Hd.mk (hbw3.out.then hb4)
        have hz3 := hb3.size
        simp at hz3
        replace k0 := fun o => (bat hb4 w.heap.size (by omega) o).trans (k0 o)
        generalize wFits _ = Q4 at *
        cases Q4 with
        | false =>
          simp at hR2
          subst hR2
          go_wp2
          go_ret
          exact ⟨rfl, hbw4.out⟩
        | true =>
          simp at hR2
          go_wp2_with fail
          refine (hm0 _ _ _ hf hf2).mono ?_
          rintro e w5 ⟨rfl, hb5⟩
          go_wp2
          go_ret
          exact ⟨by rw [hR2]; rfl, hbw4.out.then hb5⟩
set_option maxHeartbeats 2000000 in
theorem c_isInstO (i : XInst) (v : Value) (ids funcs : Int) (w : World) (hv : RI lm w v i.args) (hi : 0 ≤ ids) (hi2 : ids ≤ 1048576) (hf : 0 ≤ funcs) (hf2 : funcs ≤ 1048576) (ho : i.op ≠ 26) (hin' : inR i.op 1 27 = true) (hl0 : i.args = []) :
    Calls Tryz.prog 171 #[instV i v, .int .i64 ids, .int .i64 funcs] w (Ret (.bool (instOk ids funcs i)) w) := by
  have hin := c_within i.op 1 27
  have hops := c_OperandsOf i
  have hw0 := c_isWidth i
  have hm0 := c_isImm i
  obtain ⟨A, c, rfl, _, hl, hv0⟩ := hv.sm
  have e1 := enters_of Tryz.func206 (by kernel_rfl) rfl
  have e2 := enters_of Tryz.func207 (by kernel_rfl) rfl
  have hp := instOk_pre ids funcs i
  have hpre : instPre i = true := by simp [instPre, hl0, hin']
  have hnO : ownN i = (opsOf i).length := by simp [ownN, ho]
  have hn3 : (opsOf i).length ≤ 3 := by rcases opsOf_le i with h | ⟨_, h⟩; exact h; exact absurd h ho
  have hbl := fun o o' => ((Below.refl w.heap.size w).al (Nat.le_refl _) o).al (by simp) o'
  obtain ⟨op, wd, a, b, c0, imm, args⟩ := i
  simp only [instV] at *
  subst hl0
  rw [hpre, hnO] at hp
  rw [hin'] at hin
  have bo := beqF ho
  generalize instOk ids funcs _ = R at *
  generalize opsOf _ = l at *
  generalize hQ : l.all _ = Q1 at *
  clear hnO hin'
  have hR := Hd.mk hp
  have hQ' := Hd.mk hQ
  clear hp hQ hpre
  obtain ⟨n, hn⟩ : ∃ n, n = l.length := ⟨_, rfl⟩
  have hq : n = 0 ∨ n = 1 ∨ n = 2 ∨ n = 3 := by omega
  clear ho
  rw [← hn] at hR
  have hn' := Hd.mk hn
  clear hn hn3
  rcases hq with rfl | rfl | rfl | rfl
  all_goals
    go_enter Tryz.func171, Tryz.ntmps171
    go_wp2_with fail
    refine (hin _).mono ?_
    rintro e w' ⟨rfl, rfl⟩
    go_wp2_with fail
    refine (hops _ _ (hv0.out.mv (hbl _ _))).mono ?_
    rintro e w1 ⟨v', rfl, ho1, hb1⟩
    have hr1 : RI lm w1 v' l := (own_ints ho1 (by have := hn'.out; simp only [lm]; omega)).2
    obtain ⟨A1, c1, rfl, hcA, -, hr1'⟩ := hr1.sm
    rw [← hn'.out] at hr1'
    rw [← hn'.out]
    clear hcA
    clear ho1 hr1
    have hz1 := hb1.size
    simp at hz1
    have k0 := bat hb1 w.heap.size (by simp; omega)
    have k1 := bat hb1 (w.heap.size + 1) (by simp)
    simp at k0 k1
    have hbw := Hd.mk ((hbl _ _).then hb1)
    go_wp2_with fail
    have hcon := c_ConI _ l _ _ (fun id => !isIdB ids id) _ hr1'.out e1 (pb_isInst1 w1 (w.heap.size + 1) ids (by omega) (by rw [k1]; rfl) hi hi2)
    rw [any_not, hQ'.out] at hcon
    cases Q1 with
    | false =>
      refine hcon.mono ?_
      rintro e w2 ⟨rfl, hb2⟩
      clear hcon
      have e := hR.out
      simp at e
      subst e
      go_wp2
      go_ret
      exact ⟨rfl, hbw.out.then hb2⟩
    | true =>
      refine hcon.mono ?_
      rintro e w2 ⟨rfl, hb2⟩
      clear hcon
      have hz2 := hb2.size
      replace k0 := fun o => (bat hb2 w.heap.size (by omega) o).trans (k0 o)
      clear k1
      have hbw2 := Hd.mk (hbw.out.then hb2)
      go_wp2_with fail
      have hcon2 := c_ConI _ _ _ #[] (fun n => n != 0) _ (three' w2 a b c0 hn'.out (by omega)) e2 (pb_isInst2 _)
      rw [any_ne] at hcon2
      generalize hq3 : (List.drop _ [a, b, c0]).all _ = Q3 at hcon2
      have hR2 := hR.out
      rw [hq3] at hR2
      cases Q3 with
      | false =>
        refine hcon2.mono ?_
        rintro e w3 ⟨rfl, hb3⟩
        simp at hR2
        subst hR2
        go_wp2
        go_ret
        exact ⟨rfl, (hbw2.out.al hbw2.out.size _).then hb3⟩
      | true =>
        refine hcon2.mono ?_
        rintro e w3 ⟨rfl, hb3⟩
        replace k0 := fun o => (bat hb3 w.heap.size (by simp; omega) o).trans ((World.cell?_alloc_past _ _ _ (by omega)).trans (k0 o))
        have hbw3 := Hd.mk ((hbw2.out.al hbw2.out.size _).then hb3)
        go_wp2_with fail
        refine (hw0 _ _).mono ?_
        rintro e w4 ⟨rfl, hb4⟩
        have hbw4 := Hd.mk (hbw3.out.then hb4)
        have hz3 := hb3.size
        simp at hz3
        replace k0 := fun o => (bat hb4 w.heap.size (by omega) o).trans (k0 o)
        generalize wFits _ = Q4 at *
        cases Q4 with
        | false =>
          simp at hR2
          subst hR2
          go_wp2
          go_ret
          exact ⟨rfl, hbw4.out⟩
        | true =>
          simp at hR2
          go_wp2_with fail
          refine (hm0 _ _ _ hf hf2).mono ?_
          rintro e w5 ⟨rfl, hb5⟩
          go_wp2
          go_ret
          exact ⟨by rw [hR2]; rfl, hbw4.out.then hb5⟩
end Go.Proofs.YtkcgejbnhpccdaaGreat
