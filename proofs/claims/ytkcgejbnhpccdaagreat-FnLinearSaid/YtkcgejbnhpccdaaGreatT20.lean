import Derived.Test.YtkcgejbnhpccdaaGreatT02
import Derived.Test.YtkcgejbnhpccdaaGreatT19
import Derived.Test.YtkcgejbnhpccdaaGreatT08
import Derived.Test.YtkcgejbnhpccdaaGreatT04
import Derived.Test.YtkcgejbnhpccdaaGreatT18
import Derived.Deep.Slices
import Derived.Test.YtkcgejbnhpccdaaGreatT10
set_option linter.unusedSimpArgs false
set_option linter.unusedVariables false
namespace Go.Proofs.YtkcgejbnhpccdaaGreat
open Go.RowKit
def KB (_ : World) (x : Int) (cs : List Value) : Prop := cs = [.int .u8 x] ∧ 0 ≤ x ∧ x < 256
instance : KM KB := ⟨fun h _ => h⟩
theorem l_big (A : Option Addr) (n c : Nat) (w : World) (hn : (n : Int) ≤ 9223372036854775807) : Calls Tryz.prog 13 #[.slice A n c] w (Same (.bool (decide ((1048576 : Int) < n))) w) := by
  go_enter Tryz.func13, Tryz.ntmps13
  go_wp2
  go_ret
  exact ⟨rfl, rfl⟩
theorem rd_new {α : Type} {L sz : Nat} {K : World → α → List Value → Prop} {w : World} {b n : Nat} (xs : List α) (hn : n = xs.length) (hL : n ≤ L) (hb : b < w.heap.size) (h : ∀ i (hi : i < xs.length), ∃ cs, K w xs[i] cs ∧ cs.length = sz ∧ ∀ j (hj : j < cs.length), w.cell? ⟨b, i * sz + j, none⟩ = some cs[j]) : Rd L sz K w (.slice (some ⟨b, 0, none⟩) n n) xs := by
  subst hn
  exact ⟨_, _, rfl, Nat.le_refl _, hL, fun e => by simp at e, fun _ => ⟨b, 0, rfl, hb, fun i hi => by
    obtain ⟨cs, h1, h2, h3⟩ := h i hi
    exact ⟨cs, h1, h2, fun j hj => by rw [Nat.zero_add]; exact h3 j hj⟩⟩⟩
theorem rd_nilK {α : Type} {L sz : Nat} {K : World → α → List Value → Prop} {w : World} : Rd L sz K w (.slice none 0 0) ([] : List α) := ⟨none, 0, rfl, Nat.le_refl _, Nat.zero_le _, fun _ => rfl, fun h => absurd h (Nat.lt_irrefl _)⟩
theorem at_mid (A cs B : List Value) (j : Nat) (hj : j < cs.length) : (A ++ (cs ++ B)).toArray[A.length + j]? = some cs[j] := by
  rw [List.getElem?_toArray, List.getElem?_append_right (by omega), show A.length + j - A.length = j by omega, List.getElem?_append_left hj, List.getElem?_eq_getElem hj]
theorem info8 : (Tryz.prog.info? 5).map (fun i => (i.zero, i.size, i.bytes)) = some (some (.int .u8 0), 1, 1) := by kernel_rfl
theorem mk32 (W : World) : (Instr.makeSlice 22 (.int .i64 32) (.int .i64 32)).run Tryz.prog W = .ok (.slice (some ⟨W.heap.size, 0, none⟩) 32 32) (W.alloc (.cells (madeCells #[.int .u8 0] 32) 5)) :=
  mk_run 22 5 (.int .u8 0) 1 1 32 Tryz.underlying22 info8 (by omega) (by omega) W
def RetT8 (w : World) (e : Ending) (w' : World) : Prop := e = .returned (.bool true) ∧ Below w.heap.size w w'
structure Fr (E : Nat → Prop) (w w' : World) : Prop where
  os : w'.os = w.os
  tape : w'.tape = w.tape
  output : w'.output = w.output
  size : w.heap.size ≤ w'.heap.size
  block : ∀ b, b < w.heap.size → ¬ E b → w'.heap[b]? = w.heap[b]?
theorem Fr.refl (E : Nat → Prop) (w : World) : Fr E w w := ⟨rfl, rfl, rfl, Nat.le_refl _, fun _ _ _ => rfl⟩
theorem Fr.go {E E' : Nat → Prop} {a b c : World} (h : Fr E a b) (k : Fr E' b c) (hE : ∀ q, E' q → E q ∨ a.heap.size ≤ q) : Fr E a c :=
  ⟨k.os.trans h.os, k.tape.trans h.tape, k.output.trans h.output, Nat.le_trans h.size k.size, fun q h1 h2 => (k.block q (Nat.lt_of_lt_of_le h1 h.size) fun e => by
    rcases hE q e with h' | h'
    · exact h2 h'
    · omega).trans (h.block q h1 h2)⟩
theorem Fr.sub {E E' : Nat → Prop} {a b : World} (h : Fr E a b) (hE : ∀ q, E q → E' q) : Fr E' a b := ⟨h.os, h.tape, h.output, h.size, fun q h1 h2 => h.block q h1 fun e => h2 (hE q e)⟩
theorem Fr.of {a b : World} (E : Nat → Prop) (h : Below a.heap.size a b) : Fr E a b := ⟨h.os, h.tape, h.output, h.size, fun q h1 _ => h.block q h1⟩
theorem Fr.then {E : Nat → Prop} {a b c : World} (h : Fr E a b) (k : Below b.heap.size b c) : Fr E a c := h.go (Fr.of (fun _ => False) k) fun _ e => e.elim
theorem Fr.gb {a b : World} {r : Option Nat} (h : a.grownBy b r) : Fr (fun q => r = some q) a b := ⟨h.os, h.tape, h.output, h.size, fun q h1 h2 => h.block q h1 fun e => h2 e.symm⟩
theorem Fr.set (w : World) (g j : Nat) (u : Value) : Fr (fun q => q = g) w (w.setCell ⟨g, j, none⟩ u) := ⟨rfl, rfl, rfl, by simp [World.setCell], fun q _ h2 => Below.heap_setCell w ⟨g, j, none⟩ u q h2⟩
theorem Fr.below {E : Nat → Prop} {a b : World} (h : Fr E a b) {B : Nat} (hB : B ≤ a.heap.size) (hE : ∀ q, q < B → ¬ E q) : Below B a b := ⟨h.os, h.tape, h.output, h.size, fun q hq => h.block q (by omega) (hE q hq)⟩
def Bx (E : Nat → Prop) (Q : World → Prop) (w : World) : Prop := ∀ w', Fr E w w' → Q w'
theorem Bx.out {E : Nat → Prop} {Q : World → Prop} {w : World} (h : Bx E Q w) : Q w := h w (Fr.refl _ _)
theorem Bx.go {E E' : Nat → Prop} {Q : World → Prop} {w w' : World} (h : Bx E Q w) (hF : Fr E w w') (hE : ∀ q, E' q → E q ∨ w.heap.size ≤ q) : Bx E' Q w' := fun _ h2 => h _ (hF.go h2 hE)
theorem Bx.imp {E : Nat → Prop} {Q Q' : World → Prop} {w : World} (h : Bx E Q w) (hq : ∀ w, Q w → Q' w) : Bx E Q' w := fun w' h' => hq _ (h w' h')
theorem own_fr {E : Nat → Prop} {w w' : World} {base e sz n : Nat} {v : Value} {cs : List Value} (h : w.ownsRow base e sz v n cs) (hF : Fr E w w') (hE : ∀ k, v.ownBlock = some k → ¬ E k) : w'.ownsRow base e sz v n cs := by
  refine ⟨h.1, ?_⟩
  rcases h.2 with h' | ⟨g, cap, cur, hv, h1, h2, h3⟩
  · exact .inl h'
  · exact .inr ⟨g, cap, cur, hv, h1, (hF.block g (Array.getElem?_eq_some_iff.1 h2).1 (hE g (by rw [hv]; rfl))).trans h2, h3⟩
theorem own_blk {w : World} {base e sz n : Nat} {v : Value} {cs : List Value} (h : w.ownsRow base e sz v n cs) : ∀ k, v.ownBlock = some k → k < w.heap.size ∧ base ≤ k ∧ ∃ cur, w.heap[k]? = some (.cells cur e (0, 0)) := by
  intro k hk
  rcases h.2 with ⟨rfl, _⟩ | ⟨g, cap, cur, rfl, h1, h2, h3⟩
  · cases hk
  · cases hk; exact ⟨(Array.getElem?_eq_some_iff.1 h2).1, h1, cur, h2⟩
theorem own_two {w : World} {base base' e e' sz sz' n n' : Nat} {v v' : Value} {cs cs' : List Value} (h : w.ownsRow base e sz v n cs) (h' : w.ownsRow base' e' sz' v' n' cs') (hne : e ≠ e') : ∀ k, v.ownBlock = some k → v'.ownBlock ≠ some k := by
  intro k hk hk'
  obtain ⟨-, -, c, h1⟩ := own_blk h k hk
  obtain ⟨-, -, c', h2⟩ := own_blk h' k hk'
  rw [h1] at h2
  injection h2 with h2
  injection h2 with _ h2 _
  exact hne h2
def Elt (E : Nat → Prop) (sz n : Nat) (cells : List Value) (Q : List Value → World → Prop) (W : World) : Prop := ∀ i, i < n → ∃ cs, cs.length = sz ∧ (∀ j, j < sz → cells[i * sz + j]? = cs[j]?) ∧ Bx E (Q cs) W
theorem Elt.go {E E' : Nat → Prop} {sz n : Nat} {cells : List Value} {Q : List Value → World → Prop} {w w' : World} (h : Elt E sz n cells Q w) (hF : Fr E w w') (hE : ∀ q, E' q → E q ∨ w.heap.size ≤ q) : Elt E' sz n cells Q w' := fun i hi => by
  obtain ⟨cs, h1, h2, h3⟩ := h i hi
  exact ⟨cs, h1, h2, h3.go hF hE⟩
theorem Elt.nil {E : Nat → Prop} {sz : Nat} {cells : List Value} {Q : List Value → World → Prop} {w : World} : Elt E sz 0 cells Q w := fun _ hi => absurd hi (Nat.not_lt_zero _)
theorem Elt.app {E : Nat → Prop} {sz n : Nat} {cells : List Value} {Q : List Value → World → Prop} {w : World} (h : Elt E sz n cells Q w) (hl : cells.length = n * sz) (cs : List Value) (hc : cs.length = sz) (hq : Bx E (Q cs) w) : Elt E sz (n + 1) (cells ++ cs) Q w := fun i hi => by
  by_cases h' : i < n
  · obtain ⟨cs', h1, h2, h3⟩ := h i h'
    refine ⟨cs', h1, fun j hj => ?_, h3⟩
    have h4 : i * sz + j < n * sz := by
      have : (i + 1) * sz ≤ n * sz := Nat.mul_le_mul_right _ h'
      rw [Nat.add_mul] at this; omega
    rw [List.getElem?_append_left (by omega)]
    exact h2 j hj
  · obtain rfl : i = n := by omega
    refine ⟨cs, hc, fun j hj => ?_, hq⟩
    rw [List.getElem?_append_right (by omega), hl]
    congr 1
    omega
theorem Elt.rd {α : Type} [Inhabited α] {E : Nat → Prop} {base e sz n : Nat} {cells : List Value} {v : Value} {K : World → α → List Value → Prop} {P : α → Prop} {W : World} (ho : W.ownsRow base e sz v n cells) (h : Elt E sz n cells (fun cs w => ∃ x, P x ∧ K w x cs) W) (hv : ∀ k, v.ownBlock = some k → ¬ E k) (hz : 0 < sz) (hn : n ≤ lm) :
    Bx E (fun w => ∃ xs : List α, xs.length = n ∧ (∀ x ∈ xs, P x) ∧ Rd lm sz K w v xs) W := fun w hw => by
  have ho' := own_fr ho hw hv
  have hx : ∀ i, i < n → ∃ x, P x ∧ ∃ cs, K w x cs ∧ cs.length = sz ∧ ∀ j, j < sz → cells[i * sz + j]? = cs[j]? := fun i hi => by
    obtain ⟨cs, h1, h2, h3⟩ := h i hi
    obtain ⟨x, h4, h5⟩ := h3 w hw
    exact ⟨x, h4, cs, h5, h1, h2⟩
  obtain ⟨f, hf⟩ := Go.Deep.choose_lt hx
  refine ⟨(List.range n).map f, by simp, fun x hx => ?_, ?_⟩
  · obtain ⟨i, hi, rfl⟩ := List.mem_map.1 hx
    exact (hf i (List.mem_range.1 hi)).1
  rcases ho'.2 with ⟨rfl, rfl⟩ | ⟨g, cap, cur, rfl, h1, h2, h3, h4, h5, h6⟩
  · exact ⟨none, 0, by simp, by simp, by simp, fun _ => rfl, fun h => by simp at h⟩
  · refine ⟨some ⟨g, 0, none⟩, cap, by simp, by simpa using h3, by simpa using hn, fun h => by simp at h, fun _ => ⟨g, 0, rfl, (Array.getElem?_eq_some_iff.1 h2).1, fun i hi => ?_⟩⟩
    have hi' : i < n := by simpa using hi
    obtain ⟨-, cs, k1, k2, k3⟩ := hf i hi'
    refine ⟨cs, by simpa using k1, k2, fun j hj => ?_⟩
    have hlt : i * sz + j < n * sz := by
      have : (i + 1) * sz ≤ n * sz := Nat.mul_le_mul_right _ hi'
      rw [Nat.add_mul] at this; omega
    have h7 := World.ownsRow.cellAt ho' (i * sz + j) hlt
    rw [Nat.zero_add, h7, k3 j (by omega), List.getElem?_eq_getElem hj]
structure GD where
  vP : Value
  ps : List Int
  ret : Int
  vB : Value
  nB : Nat
  cB : List Value
  vPh : Value
  nPh : Nat
  cPh : List Value
  vIn : Value
  nIn : Nat
  cIn : List Value
  tm : XTerm
  next : Int
  vids : Value
  vws : Value
  nid : Nat
  ex : Nat → Prop
structure GC where
  lo : Nat
  fl : Nat
  gr : Nat
  gg : Nat
  vr : Value
  vp : Value
  nr : Nat
  pars : List (List Int)
def GD.cells (D : GD) (C : GC) : List Value := [.pointer (some ⟨C.gr, 0, none⟩), D.vP, .int .i64 D.ret, D.vB, D.vPh, D.vIn, .int .i64 D.tm.kind, .int .i64 D.tm.a, .int .i64 D.tm.x, .int .i64 D.tm.y, .int .i64 D.next, D.vids, D.vws, C.vr, C.vp]
def GE (C : GC) (D : GD) (b : Nat) : Prop := b < C.fl ∨ b = C.gg ∨ D.vP.ownBlock = some b ∨ D.vB.ownBlock = some b ∨ D.vPh.ownBlock = some b ∨ D.vIn.ownBlock = some b ∨ D.ex b
def GK (C : GC) (D : GD) (b : Nat) : Prop := b = C.gr ∨ b = C.gg ∨ D.vP.ownBlock = some b ∨ D.vB.ownBlock = some b ∨ D.vPh.ownBlock = some b ∨ D.vIn.ownBlock = some b
def GA (C : GC) (b : Nat) : Prop := b = C.gr ∨ C.fl ≤ b
def QI (v : Value) (n : Nat) (w : World) : Prop := ∃ xs : List Int, xs.length = n ∧ True ∧ RI lm w v xs
def QInst (cs : List Value) (w : World) : Prop := ∃ x : XInst, True ∧ KInst lm w x cs
def QPhi (cs : List Value) (w : World) : Prop := ∃ x : XPhi, True ∧ KPhi lm w x cs
def sizedB (x : XBlock) : Prop := x.phis.length ≤ 1000 ∧ x.insts.length ≤ 1000
def QBlock (cs : List Value) (w : World) : Prop := ∃ x : XBlock, sizedB x ∧ KBlock lm w x cs
def KL (w : World) (x : List Int) (cs : List Value) : Prop := ∃ v, cs = [v] ∧ RI lm w v x
instance : KM KL := ⟨fun ⟨v, h, r⟩ hb => ⟨v, h, r.mv hb⟩⟩
structure GS (C : GC) (D : GD) (W : World) : Prop where
  cell : W.heap[C.gg]? = some (.cells (D.cells C).toArray 141 (0, 0))
  rs : RdS C.lo W C.gr
  hgr : C.gr < C.fl
  hgg : C.fl ≤ C.gg
  oP : W.ownsRow C.fl 2 1 D.vP D.ps.length (D.ps.map (.int .i64))
  oB : W.ownsRow C.fl 32 6 D.vB D.nB D.cB
  oPh : W.ownsRow C.fl 165 2 D.vPh D.nPh D.cPh
  oIn : W.ownsRow C.fl 26 7 D.vIn D.nIn D.cIn
  eB : Elt (GE C D) 6 D.nB D.cB QBlock W
  ePh : Elt (GE C D) 2 D.nPh D.cPh QPhi W
  eIn : Elt (GE C D) 7 D.nIn D.cIn QInst W
  eI : Bx (GE C D) (QI D.vids D.nid) W
  eW : Bx (GE C D) (QI D.vws D.nid) W
  eR : Bx (GA C) (QI C.vr C.nr) W
  eA : Bx (GA C) (fun w => Rd lm 1 KL w C.vp C.pars) W
  wP : ∀ p ∈ D.ps, isW p
  lP : D.ps.length ≤ 4
  wR : isW D.ret
  n0 : 0 ≤ D.next
  n1 : D.next ≤ 900
  n2 : D.nIn ≤ 1000
  n3 : D.nPh ≤ 1000
  n4 : D.nid ≤ 1000
  n5 : D.nB ≤ 100
  n6 : C.nr ≤ 4
  wA : ∀ x ∈ C.pars, x.length ≤ 4 ∧ ∀ p ∈ x, isW p
  nA : C.pars.length = C.nr
  hex : ∀ b, D.ex b → C.fl ≤ b ∧ b < W.heap.size ∧ b ≠ C.gg ∧ D.vP.ownBlock ≠ some b ∧ D.vB.ownBlock ≠ some b ∧ D.vPh.ownBlock ≠ some b ∧ D.vIn.ownBlock ≠ some b
theorem GK.ga {C : GC} {D : GD} {W : World} (h : GS C D W) : ∀ b, GK C D b → GA C b := by
  rintro b (rfl | rfl | e | e | e | e)
  · exact .inl rfl
  · exact .inr h.hgg
  · exact .inr (own_block_ge h.oP b e)
  · exact .inr (own_block_ge h.oB b e)
  · exact .inr (own_block_ge h.oPh b e)
  · exact .inr (own_block_ge h.oIn b e)
theorem ne_of_cells {W : World} {b b' e e' : Nat} {a a' : Array Value} {f f' : Nat × Nat} (h : W.heap[b]? = some (.cells a e f)) (h' : W.heap[b']? = some (.cells a' e' f')) (hne : e ≠ e') : b ≠ b' := by
  rintro rfl
  rw [h] at h'
  injection h' with h'
  injection h' with _ h' _
  exact hne h'
theorem GS.out {C : GC} {D : GD} {W : World} (h : GS C D W) {base e sz n : Nat} {v : Value} {cs : List Value} (ho : W.ownsRow base e sz v n cs) (h1 : e ≠ 141) (h2 : e ≠ 112) : ∀ k, v.ownBlock = some k → k ≠ C.gg ∧ k ≠ C.gr := by
  intro k hk
  obtain ⟨-, -, cur, hc⟩ := own_blk ho k hk
  obtain ⟨-, A, n, c, p, hr, -⟩ := h.rs
  exact ⟨ne_of_cells hc h.cell h1, ne_of_cells hc hr h2⟩
structure GP (C : GC) (D D' : GD) (W W' : World) : Prop where
  gs : GS C D' W'
  fr : Fr (GE C D) W W'
  sub : ∀ b, GE C D' b → GE C D b ∨ W.heap.size ≤ b
  fk : Fr (GK C D) W W'
  subk : ∀ b, GK C D' b → GK C D b ∨ W.heap.size ≤ b
theorem GP.refl {C : GC} {D : GD} {W : World} (h : GS C D W) : GP C D D W W := ⟨h, Fr.refl _ _, fun _ h => .inl h, Fr.refl _ _, fun _ h => .inl h⟩
theorem GP.trans {C : GC} {D D' D'' : GD} {W W' W'' : World} (h : GP C D D' W W') (k : GP C D' D'' W' W'') : GP C D D'' W W'' :=
  ⟨k.gs, h.fr.go k.fr h.sub, fun b hb => by
    rcases k.sub b hb with h' | h'
    · exact h.sub b h'
    · exact .inr (Nat.le_trans h.fr.size h'), h.fk.go k.fk h.subk, fun b hb => by
    rcases k.subk b hb with h' | h'
    · exact h.subk b h'
    · exact .inr (Nat.le_trans h.fr.size h')⟩
theorem GS.mem {C : GC} {D : GD} {W W' : World} (h : GS C D W) (tm : XTerm) (ret next : Int) (vids vws : Value) (nid : Nat) (hF : Fr (fun q => q = C.gg ∨ q = C.gr) W W') (hrs : RdS C.lo W' C.gr)
    (hc : W'.heap[C.gg]? = some (.cells (GD.cells {D with tm := tm, ret := ret, next := next, vids := vids, vws := vws, nid := nid} C).toArray 141 (0, 0)))
    (hi : Bx (GE C D) (QI vids nid) W') (hw : Bx (GE C D) (QI vws nid) W') (hr : isW ret) (b1 : 0 ≤ next) (b2 : next ≤ 900) (b3 : nid ≤ 1000) : GP C D {D with tm := tm, ret := ret, next := next, vids := vids, vws := vws, nid := nid} W W' := by
  have hf : Fr (GE C D) W W' := hF.sub (by rintro q (rfl | rfl) <;> simp [GE, h.hgr])
  have no := fun {base e sz n : Nat} {v : Value} {cs : List Value} (ho : W.ownsRow base e sz v n cs) h1 h2 => own_fr ho hF (fun k hk => by have := h.out ho h1 h2 k hk; simp [this.1, this.2])
  have hG : Fr (GA C) W W' := hF.sub (by
    rintro q (rfl | rfl)
    · exact .inr h.hgg
    · exact .inl rfl)
  exact ⟨⟨hc, hrs, h.hgr, h.hgg, no h.oP (by decide) (by decide), no h.oB (by decide) (by decide), no h.oPh (by decide) (by decide), no h.oIn (by decide) (by decide),
    h.eB.go hf fun _ e => .inl e, h.ePh.go hf fun _ e => .inl e, h.eIn.go hf fun _ e => .inl e, hi, hw, h.eR.go hG fun _ e => .inl e, h.eA.go hG fun _ e => .inl e, h.wP, h.lP, hr, b1, b2, h.n2, h.n3, b3, h.n5, h.n6, h.wA, h.nA, fun b e => ⟨(h.hex b e).1, Nat.lt_of_lt_of_le (h.hex b e).2.1 hF.size, (h.hex b e).2.2⟩⟩, hf, fun _ e => .inl e, hF.sub (by rintro q (rfl | rfl) <;> simp [GK]), fun _ e => .inl e⟩
theorem GS.mv {C : GC} {D : GD} {W W' : World} (h : GS C D W) (hb : Below W.heap.size W W') : GP C D D W W' := by
  have hlt := (Array.getElem?_eq_some_iff.1 h.cell).1
  have hF : Fr (fun q => q = C.gg ∨ q = C.gr) W W' := Fr.of _ hb
  have hf : Fr (GE C D) W W' := Fr.of _ hb
  exact h.mem D.tm D.ret D.next D.vids D.vws D.nid hF (h.rs.mv (row := none) ⟨hb.os, hb.tape, hb.output, hb.size, fun k hk _ => hb.block k hk⟩ (by simp) (fun k hk => by cases hk)) ((hb.block _ hlt).trans h.cell) (h.eI.go hf fun _ e => .inl e) (h.eW.go hf fun _ e => .inl e) h.wR h.n0 h.n1 h.n4
theorem GS.rd {C : GC} {D : GD} {W W' : World} (h : GS C D W) (hg : W.grownBy W' (some C.gr)) (hrs : RdS C.lo W' C.gr) : GP C D D W W' := by
  have hlt := (Array.getElem?_eq_some_iff.1 h.cell).1
  have hne : C.gg ≠ C.gr := by have := h.hgr; have := h.hgg; omega
  have hF : Fr (fun q => q = C.gg ∨ q = C.gr) W W' := (Fr.gb hg).sub (by rintro q e; cases e; exact .inr rfl)
  have hf : Fr (GE C D) W W' := (Fr.gb hg).sub (by rintro q e; cases e; exact .inl h.hgr)
  exact h.mem D.tm D.ret D.next D.vids D.vws D.nid hF hrs ((hg.block _ hlt (by simpa using hne)).trans h.cell) (h.eI.go hf fun _ e => .inl e) (h.eW.go hf fun _ e => .inl e) h.wR h.n0 h.n1 h.n4
theorem fr_row {C : GC} {W W2 W3 : World} {r : Option Nat} (hg : W.grownBy W2 r) (hs : Fr (fun q => q = C.gg) W2 W3) : Fr (fun q => q = C.gg ∨ r = some q) W W3 :=
  ((Fr.gb hg).sub fun q e => .inr e).go hs fun q e => .inl (.inl e)
theorem GS.insts {C : GC} {D : GD} {W W2 W3 : World} (h : GS C D W) (v' : Value) (cs : List Value) (hg : W.grownBy W2 D.vIn.ownBlock) (ho : W2.ownsRow C.fl 26 7 v' (D.nIn + 1) (D.cIn ++ cs)) (hv : v'.ownBlock = D.vIn.ownBlock ∨ v'.ownBlock = some W.heap.size) (hq : Bx (GE C D) (QInst cs) W) (hcl : cs.length = 7)
    (hs : Fr (fun q => q = C.gg) W2 W3) (hc : W3.heap[C.gg]? = some (.cells (GD.cells {D with vIn := v', nIn := D.nIn + 1, cIn := D.cIn ++ cs} C).toArray 141 (0, 0))) (hn : D.nIn + 1 ≤ 1000) : GP C D {D with vIn := v', nIn := D.nIn + 1, cIn := D.cIn ++ cs} W W3 := by
  have hF := fr_row hg hs
  have hgl := (Array.getElem?_eq_some_iff.1 h.cell).1
  have hsub : ∀ b, GE C {D with vIn := v', nIn := D.nIn + 1, cIn := D.cIn ++ cs} b → GE C D b ∨ W.heap.size ≤ b := by
    intro b hb
    simp only [GE] at hb ⊢
    rcases hv with hv | hv
    · rw [hv] at hb; exact .inl hb
    · rw [hv] at hb
      rcases hb with e | e | e | e | e | e | e
      all_goals first
        | (injection e with e; exact .inr (by omega))
        | exact .inl (by simp [e])
  have hsubk : ∀ b, GK C {D with vIn := v', nIn := D.nIn + 1, cIn := D.cIn ++ cs} b → GK C D b ∨ W.heap.size ≤ b := by
    intro b hb
    simp only [GK] at hb ⊢
    rcases hv with hv | hv
    · rw [hv] at hb; exact .inl hb
    · rw [hv] at hb
      rcases hb with e | e | e | e | e | e
      all_goals first
        | (injection e with e; exact .inr (by omega))
        | exact .inl (by simp [e])
  have hfk : Fr (GK C D) W W3 := hF.sub (by rintro q (rfl | e) <;> simp [GK, *])
  have hf : Fr (GE C D) W W3 := hF.sub (by rintro q (rfl | e) <;> simp [GE, *])
  have hG : Fr (GA C) W W3 := hfk.sub (GK.ga h)
  have hrow := h.out h.oIn (by decide) (by decide)
  have hrg : C.gr ≠ C.gg := by have := h.hgr; have := h.hgg; omega
  have no := fun {base e sz n : Nat} {v : Value} {cs : List Value} (ho : W.ownsRow base e sz v n cs) (h1 : e ≠ 141) (h2 : e ≠ 112) (h3 : ∀ k, v.ownBlock = some k → D.vIn.ownBlock ≠ some k) => own_fr ho hF (fun k hk => by
    have := h.out ho h1 h2 k hk
    rintro (e | e)
    · exact this.1 e
    · exact h3 k hk e)
  have hrs : RdS C.lo W3 C.gr := by
    have hb : W3.heap[C.gr]? = W.heap[C.gr]? := hF.block _ h.rs.lt (by rintro (e | e); exact hrg e; exact (hrow _ e).2 rfl)
    obtain ⟨h1, A, n, c, p, h2, h3, h4, h5⟩ := h.rs
    refine ⟨h1, A, n, c, p, hb.trans h2, h3, h4, fun i hi => ?_⟩
    obtain ⟨b, off, q, k1, k2, k3, k4, k5⟩ := h5 i hi
    refine ⟨b, off, q, k1, k2, k3, k4, ?_⟩
    rw [← k5]
    have hbl : b < W.heap.size := by
      unfold World.cell? at k5
      split at k5
      · rename_i hh; exact (Array.getElem?_eq_some_iff.1 hh).1
      · cases k5
    refine World.cell?_of_block (hF.block b hbl ?_)
    rintro (e | e)
    · have := h.hgr; have := h.hgg; omega
    · have := own_block_ge h.oIn b e; have := h.hgr; omega
  refine ⟨⟨hc, hrs, h.hgr, h.hgg, no h.oP (by decide) (by decide) (own_two h.oP h.oIn (by decide)), no h.oB (by decide) (by decide) (own_two h.oB h.oIn (by decide)), no h.oPh (by decide) (by decide) (own_two h.oPh h.oIn (by decide)), own_fr ho hs (fun k hk => ?_),
    h.eB.go hf hsub, h.ePh.go hf hsub, ?_, h.eI.go hf hsub, h.eW.go hf hsub, h.eR.go hG fun _ e => .inl e, h.eA.go hG fun _ e => .inl e, h.wP, h.lP, h.wR, h.n0, h.n1, hn, h.n3, h.n4, h.n5, h.n6, h.wA, h.nA, fun b e => ?_⟩, hf, hsub, hfk, hsubk⟩
  · rcases hv with hv | hv
    · rw [hv] at hk; exact (hrow k hk).1
    · rw [hv] at hk; injection hk with hk; omega
  · exact (h.eIn.app h.oIn.1 cs hcl hq).go hf hsub
  · obtain ⟨e1, e2, e3, e4, e5, e6, e7⟩ := h.hex b e
    refine ⟨e1, Nat.lt_of_lt_of_le e2 hF.size, e3, e4, e5, e6, ?_⟩
    rcases hv with hv | hv
    · show v'.ownBlock ≠ some b
      rw [hv]; exact e7
    · show v'.ownBlock ≠ some b
      rw [hv]; intro e'; injection e' with e'; omega
theorem GS.phis {C : GC} {D : GD} {W W2 W3 : World} (h : GS C D W) (v' : Value) (cs : List Value) (hg : W.grownBy W2 D.vPh.ownBlock) (ho : W2.ownsRow C.fl 165 2 v' (D.nPh + 1) (D.cPh ++ cs)) (hv : v'.ownBlock = D.vPh.ownBlock ∨ v'.ownBlock = some W.heap.size) (hq : Bx (GE C D) (QPhi cs) W) (hcl : cs.length = 2)
    (hs : Fr (fun q => q = C.gg) W2 W3) (hc : W3.heap[C.gg]? = some (.cells (GD.cells {D with vPh := v', nPh := D.nPh + 1, cPh := D.cPh ++ cs} C).toArray 141 (0, 0))) (hn : D.nPh + 1 ≤ 1000) : GP C D {D with vPh := v', nPh := D.nPh + 1, cPh := D.cPh ++ cs} W W3 := by
  have hF := fr_row hg hs
  have hgl := (Array.getElem?_eq_some_iff.1 h.cell).1
  have hsub : ∀ b, GE C {D with vPh := v', nPh := D.nPh + 1, cPh := D.cPh ++ cs} b → GE C D b ∨ W.heap.size ≤ b := by
    intro b hb
    simp only [GE] at hb ⊢
    rcases hv with hv | hv
    · rw [hv] at hb; exact .inl hb
    · rw [hv] at hb
      rcases hb with e | e | e | e | e | e | e
      all_goals first
        | (injection e with e; exact .inr (by omega))
        | exact .inl (by simp [e])
  have hsubk : ∀ b, GK C {D with vPh := v', nPh := D.nPh + 1, cPh := D.cPh ++ cs} b → GK C D b ∨ W.heap.size ≤ b := by
    intro b hb
    simp only [GK] at hb ⊢
    rcases hv with hv | hv
    · rw [hv] at hb; exact .inl hb
    · rw [hv] at hb
      rcases hb with e | e | e | e | e | e
      all_goals first
        | (injection e with e; exact .inr (by omega))
        | exact .inl (by simp [e])
  have hfk : Fr (GK C D) W W3 := hF.sub (by rintro q (rfl | e) <;> simp [GK, *])
  have hf : Fr (GE C D) W W3 := hF.sub (by rintro q (rfl | e) <;> simp [GE, *])
  have hG : Fr (GA C) W W3 := hfk.sub (GK.ga h)
  have hrow := h.out h.oPh (by decide) (by decide)
  have hrg : C.gr ≠ C.gg := by have := h.hgr; have := h.hgg; omega
  have no := fun {base e sz n : Nat} {v : Value} {cs : List Value} (ho : W.ownsRow base e sz v n cs) (h1 : e ≠ 141) (h2 : e ≠ 112) (h3 : ∀ k, v.ownBlock = some k → D.vPh.ownBlock ≠ some k) => own_fr ho hF (fun k hk => by
    have := h.out ho h1 h2 k hk
    rintro (e | e)
    · exact this.1 e
    · exact h3 k hk e)
  have hrs : RdS C.lo W3 C.gr := by
    have hb : W3.heap[C.gr]? = W.heap[C.gr]? := hF.block _ h.rs.lt (by rintro (e | e); exact hrg e; exact (hrow _ e).2 rfl)
    obtain ⟨h1, A, n, c, p, h2, h3, h4, h5⟩ := h.rs
    refine ⟨h1, A, n, c, p, hb.trans h2, h3, h4, fun i hi => ?_⟩
    obtain ⟨b, off, q, k1, k2, k3, k4, k5⟩ := h5 i hi
    refine ⟨b, off, q, k1, k2, k3, k4, ?_⟩
    rw [← k5]
    have hbl : b < W.heap.size := by
      unfold World.cell? at k5
      split at k5
      · rename_i hh; exact (Array.getElem?_eq_some_iff.1 hh).1
      · cases k5
    refine World.cell?_of_block (hF.block b hbl ?_)
    rintro (e | e)
    · have := h.hgr; have := h.hgg; omega
    · have := own_block_ge h.oPh b e; have := h.hgr; omega
  refine ⟨⟨hc, hrs, h.hgr, h.hgg, no h.oP (by decide) (by decide) (own_two h.oP h.oPh (by decide)), no h.oB (by decide) (by decide) (own_two h.oB h.oPh (by decide)), own_fr ho hs (fun k hk => ?_), no h.oIn (by decide) (by decide) (own_two h.oIn h.oPh (by decide)),
    h.eB.go hf hsub, ?_, h.eIn.go hf hsub, h.eI.go hf hsub, h.eW.go hf hsub, h.eR.go hG fun _ e => .inl e, h.eA.go hG fun _ e => .inl e, h.wP, h.lP, h.wR, h.n0, h.n1, h.n2, hn, h.n4, h.n5, h.n6, h.wA, h.nA, fun b e => ?_⟩, hf, hsub, hfk, hsubk⟩
  · rcases hv with hv | hv
    · rw [hv] at hk; exact (hrow k hk).1
    · rw [hv] at hk; injection hk with hk; omega
  · exact (h.ePh.app h.oPh.1 cs hcl hq).go hf hsub
  · obtain ⟨e1, e2, e3, e4, e5, e6, e7⟩ := h.hex b e
    refine ⟨e1, Nat.lt_of_lt_of_le e2 hF.size, e3, e4, e5, ?_, e7⟩
    rcases hv with hv | hv
    · show v'.ownBlock ≠ some b
      rw [hv]; exact e6
    · show v'.ownBlock ≠ some b
      rw [hv]; intro e'; injection e' with e'; omega
def blkCells (D : GD) : List Value := [D.vPh, D.vIn, .int .i64 D.tm.kind, .int .i64 D.tm.a, .int .i64 D.tm.x, .int .i64 D.tm.y]
def closed (D : GD) (v' : Value) : GD := {D with vB := v', nB := D.nB + 1, cB := D.cB ++ blkCells D, vPh := .slice none 0 0, nPh := 0, cPh := [], vIn := .slice none 0 0, nIn := 0, cIn := [], tm := ⟨0, 0, 0, 0⟩}
theorem nil_own (W : World) (base e sz : Nat) : W.ownsRow base e sz (.slice none 0 0) 0 [] := ⟨by simp, .inl ⟨rfl, rfl⟩⟩
theorem GS.close {C : GC} {D : GD} {W W2 W3 : World} (h : GS C D W) (v' : Value) (hg : W.grownBy W2 D.vB.ownBlock) (ho : W2.ownsRow C.fl 32 6 v' (D.nB + 1) (D.cB ++ blkCells D)) (hv : v'.ownBlock = D.vB.ownBlock ∨ v'.ownBlock = some W.heap.size)
    (hs : Fr (fun q => q = C.gg) W2 W3) (hc : W3.heap[C.gg]? = some (.cells (GD.cells (closed D v') C).toArray 141 (0, 0))) (hn : D.nB + 1 ≤ 100) : GP C D (closed D v') W W3 ∧ Fr (fun q => q = C.gg ∨ D.vB.ownBlock = some q) W W3 := by
  have hF := fr_row hg hs
  have hsub : ∀ b, GE C (closed D v') b → GE C D b ∨ W.heap.size ≤ b := by
    intro b hb
    simp only [GE, closed] at hb ⊢
    rcases hv with hv | hv
    · rw [hv] at hb
      rcases hb with e | e | e | e | e | e | e
      all_goals first
        | (cases e; done)
        | exact .inl (by simp [e])
    · rw [hv] at hb
      rcases hb with e | e | e | e | e | e | e
      all_goals first
        | (cases e; done)
        | (injection e with e; exact .inr (by omega))
        | exact .inl (by simp [e])
  have hsubk : ∀ b, GK C (closed D v') b → GK C D b ∨ W.heap.size ≤ b := by
    intro b hb
    simp only [GK, closed] at hb ⊢
    rcases hv with hv | hv
    · rw [hv] at hb
      rcases hb with e | e | e | e | e | e
      all_goals first
        | (cases e; done)
        | exact .inl (by simp [e])
    · rw [hv] at hb
      rcases hb with e | e | e | e | e | e
      all_goals first
        | (cases e; done)
        | (injection e with e; exact .inr (by omega))
        | exact .inl (by simp [e])
  have hfk : Fr (GK C D) W W3 := hF.sub (by rintro q (rfl | e) <;> simp [GK, *])
  have hf : Fr (GE C D) W W3 := hF.sub (by rintro q (rfl | e) <;> simp [GE, *])
  have hG : Fr (GA C) W W3 := hfk.sub (GK.ga h)
  have hrow := h.out h.oB (by decide) (by decide)
  have hrg : C.gr ≠ C.gg := by have := h.hgr; have := h.hgg; omega
  have no := fun {base e sz n : Nat} {v : Value} {cs : List Value} (ho : W.ownsRow base e sz v n cs) (h1 : e ≠ 141) (h2 : e ≠ 112) (h3 : ∀ k, v.ownBlock = some k → D.vB.ownBlock ≠ some k) => own_fr ho hF (fun k hk => by
    have := h.out ho h1 h2 k hk
    rintro (e | e)
    · exact this.1 e
    · exact h3 k hk e)
  have hrs : RdS C.lo W3 C.gr := by
    have hb : W3.heap[C.gr]? = W.heap[C.gr]? := hF.block _ h.rs.lt (by rintro (e | e); exact hrg e; exact (hrow _ e).2 rfl)
    obtain ⟨h1, A, n, c, p, h2, h3, h4, h5⟩ := h.rs
    refine ⟨h1, A, n, c, p, hb.trans h2, h3, h4, fun i hi => ?_⟩
    obtain ⟨b, off, q, k1, k2, k3, k4, k5⟩ := h5 i hi
    refine ⟨b, off, q, k1, k2, k3, k4, ?_⟩
    rw [← k5]
    have hbl : b < W.heap.size := by
      unfold World.cell? at k5
      split at k5
      · rename_i hh; exact (Array.getElem?_eq_some_iff.1 hh).1
      · cases k5
    refine World.cell?_of_block (hF.block b hbl ?_)
    rintro (e | e)
    · have := h.hgr; have := h.hgg; omega
    · have := own_block_ge h.oB b e; have := h.hgr; omega
  have hoB : W3.ownsRow C.fl 32 6 v' (D.nB + 1) (D.cB ++ blkCells D) := own_fr ho hs (fun k hk => by
    rcases hv with hv | hv
    · rw [hv] at hk; exact (hrow k hk).1
    · rw [hv] at hk; injection hk with hk
      have := (Array.getElem?_eq_some_iff.1 h.cell).1
      omega)
  have hnb : ∀ {e sz n : Nat} {v : Value} {cs : List Value}, W.ownsRow C.fl e sz v n cs → e ≠ 141 → e ≠ 112 → e ≠ 32 → e ≠ 2 → (∀ k, v.ownBlock = some k → ¬ D.ex k) → ∀ k, v.ownBlock = some k → ¬ GE C (closed D v') k := by
    intro e sz n v cs hr h1 h2 h3 h4 h5 k hk hge
    have hx := h.out hr h1 h2 k hk
    have hlt := (own_blk hr k hk).1
    simp only [GE, closed] at hge
    rcases hge with e' | e' | e' | e' | e' | e' | e'
    · have := own_block_ge hr k hk; omega
    · exact hx.1 e'
    · exact own_two hr h.oP h4 k hk e'
    · rcases hv with hv | hv
      · rw [hv] at e'; exact own_two hr h.oB h3 k hk e'
      · rw [hv] at e'; injection e' with e'; omega
    · cases e'
    · cases e'
    · exact h5 k hk e'
  have hoP3 := no h.oPh (by decide) (by decide) (own_two h.oPh h.oB (by decide))
  have hoI3 := no h.oIn (by decide) (by decide) (own_two h.oIn h.oB (by decide))
  have hph := Elt.rd (K := KPhi lm) (P := fun _ => True) hoP3 (h.ePh.go hf hsub) (hnb h.oPh (by decide) (by decide) (by decide) (by decide) (fun k hk he => (h.hex k he).2.2.2.2.2.1 hk)) (by decide) (Nat.le_trans h.n3 (by decide))
  have hin := Elt.rd (K := KInst lm) (P := fun _ => True) hoI3 (h.eIn.go hf hsub) (hnb h.oIn (by decide) (by decide) (by decide) (by decide) (fun k hk he => (h.hex k he).2.2.2.2.2.2 hk)) (by decide) (Nat.le_trans h.n2 (by decide))
  have hqb : Bx (GE C (closed D v')) (QBlock (blkCells D)) W3 := fun w hw => by
    obtain ⟨ps, p1, -, p2⟩ := hph w hw
    obtain ⟨is, i1, -, i2⟩ := hin w hw
    exact ⟨⟨ps, is, D.tm⟩, ⟨by rw [p1]; exact h.n3, by rw [i1]; exact h.n2⟩, D.vPh, D.vIn, rfl, p2, i2⟩
  exact ⟨⟨⟨hc, hrs, h.hgr, h.hgg, no h.oP (by decide) (by decide) (own_two h.oP h.oB (by decide)), hoB, nil_own _ _ _ _, nil_own _ _ _ _,
    (h.eB.go hf hsub).app h.oB.1 _ rfl hqb, Elt.nil, Elt.nil, h.eI.go hf hsub, h.eW.go hf hsub, h.eR.go hG fun _ e => .inl e, h.eA.go hG fun _ e => .inl e, h.wP, h.lP, h.wR, h.n0, h.n1, Nat.zero_le _, Nat.zero_le _, h.n4, hn, h.n6, h.wA, h.nA, fun b e => ⟨(h.hex b e).1, Nat.lt_of_lt_of_le (h.hex b e).2.1 hF.size, (h.hex b e).2.2.1, (h.hex b e).2.2.2.1, (fun e' => by
    rcases hv with hv | hv
    · exact (h.hex b e).2.2.2.2.1 (by rw [← hv]; exact e')
    · have e'' : v'.ownBlock = some b := e'
      rw [hv] at e''; injection e'' with e''; have := (h.hex b e).2.1; omega), (fun e' => by cases e'), (fun e' => by cases e')⟩⟩, hf, hsub, hfk, hsubk⟩, hF⟩
theorem GS.par {C : GC} {D : GD} {W W2 W3 : World} (h : GS C D W) (v' : Value) (p : Int) (hp : isW p) (hg : W.grownBy W2 D.vP.ownBlock) (ho : W2.ownsRow C.fl 2 1 v' (D.ps ++ [p]).length ((D.ps ++ [p]).map (.int .i64))) (hv : v'.ownBlock = D.vP.ownBlock ∨ v'.ownBlock = some W.heap.size)
    (hs : Fr (fun q => q = C.gg) W2 W3) (hc : W3.heap[C.gg]? = some (.cells (GD.cells {D with vP := v', ps := D.ps ++ [p]} C).toArray 141 (0, 0))) (hn : D.ps.length + 1 ≤ 4) : GP C D {D with vP := v', ps := D.ps ++ [p]} W W3 := by
  have hF := fr_row hg hs
  have hsub : ∀ b, GE C {D with vP := v', ps := D.ps ++ [p]} b → GE C D b ∨ W.heap.size ≤ b := by
    intro b hb
    simp only [GE] at hb ⊢
    rcases hv with hv | hv
    · rw [hv] at hb; exact .inl hb
    · rw [hv] at hb
      rcases hb with e | e | e | e | e | e | e
      all_goals first
        | (injection e with e; exact .inr (by omega))
        | exact .inl (by simp [e])
  have hsubk : ∀ b, GK C {D with vP := v', ps := D.ps ++ [p]} b → GK C D b ∨ W.heap.size ≤ b := by
    intro b hb
    simp only [GK] at hb ⊢
    rcases hv with hv | hv
    · rw [hv] at hb; exact .inl hb
    · rw [hv] at hb
      rcases hb with e | e | e | e | e | e
      all_goals first
        | (injection e with e; exact .inr (by omega))
        | exact .inl (by simp [e])
  have hfk : Fr (GK C D) W W3 := hF.sub (by rintro q (rfl | e) <;> simp [GK, *])
  have hf : Fr (GE C D) W W3 := hF.sub (by rintro q (rfl | e) <;> simp [GE, *])
  have hG : Fr (GA C) W W3 := hfk.sub (GK.ga h)
  have hrow := h.out h.oP (by decide) (by decide)
  have hrg : C.gr ≠ C.gg := by have := h.hgr; have := h.hgg; omega
  have no := fun {base e sz n : Nat} {v : Value} {cs : List Value} (ho : W.ownsRow base e sz v n cs) (h1 : e ≠ 141) (h2 : e ≠ 112) (h3 : ∀ k, v.ownBlock = some k → D.vP.ownBlock ≠ some k) => own_fr ho hF (fun k hk => by
    have := h.out ho h1 h2 k hk
    rintro (e | e)
    · exact this.1 e
    · exact h3 k hk e)
  have hrs : RdS C.lo W3 C.gr := by
    have hb : W3.heap[C.gr]? = W.heap[C.gr]? := hF.block _ h.rs.lt (by rintro (e | e); exact hrg e; exact (hrow _ e).2 rfl)
    obtain ⟨h1, A, n, c, p, h2, h3, h4, h5⟩ := h.rs
    refine ⟨h1, A, n, c, p, hb.trans h2, h3, h4, fun i hi => ?_⟩
    obtain ⟨b, off, q, k1, k2, k3, k4, k5⟩ := h5 i hi
    refine ⟨b, off, q, k1, k2, k3, k4, ?_⟩
    rw [← k5]
    have hbl : b < W.heap.size := by
      unfold World.cell? at k5
      split at k5
      · rename_i hh; exact (Array.getElem?_eq_some_iff.1 hh).1
      · cases k5
    refine World.cell?_of_block (hF.block b hbl ?_)
    rintro (e | e)
    · have := h.hgr; have := h.hgg; omega
    · have := own_block_ge h.oP b e; have := h.hgr; omega
  refine ⟨⟨hc, hrs, h.hgr, h.hgg, own_fr ho hs (fun k hk => ?_), no h.oB (by decide) (by decide) (own_two h.oB h.oP (by decide)), no h.oPh (by decide) (by decide) (own_two h.oPh h.oP (by decide)), no h.oIn (by decide) (by decide) (own_two h.oIn h.oP (by decide)),
    h.eB.go hf hsub, h.ePh.go hf hsub, h.eIn.go hf hsub, h.eI.go hf hsub, h.eW.go hf hsub, h.eR.go hG fun _ e => .inl e, h.eA.go hG fun _ e => .inl e, fun q hq => ?_, by simpa using hn, h.wR, h.n0, h.n1, h.n2, h.n3, h.n4, h.n5, h.n6, h.wA, h.nA, fun b e => ⟨(h.hex b e).1, Nat.lt_of_lt_of_le (h.hex b e).2.1 hF.size, (h.hex b e).2.2.1, (fun e' => by
    rcases hv with hv | hv
    · exact (h.hex b e).2.2.2.1 (by rw [← hv]; exact e')
    · have e'' : v'.ownBlock = some b := e'
      rw [hv] at e''; injection e'' with e''; have := (h.hex b e).2.1; omega), (h.hex b e).2.2.2.2⟩⟩, hf, hsub, hfk, hsubk⟩
  · rcases hv with hv | hv
    · rw [hv] at hk; exact (hrow k hk).1
    · rw [hv] at hk; injection hk with hk
      have := (Array.getElem?_eq_some_iff.1 h.cell).1
      omega
  · rcases List.mem_append.1 hq with hq | hq
    · exact h.wP q hq
    · rw [List.mem_singleton.1 hq]; exact hp
def RetP (lo g : Nat) (most : Nat) (w : World) (e : Ending) (w' : World) : Prop := ∃ (v : Value) (l : List Int), e = .returned v ∧ l.length ≤ most ∧ w'.ownsRow w.heap.size 2 1 v l.length (l.map (Value.int .i64)) ∧ RdS lo w' g ∧ w.grownBy w' (some g)
set_option maxRecDepth 20000 in
set_option maxHeartbeats 4000000 in
theorem s_args (lo g : Nat) (A : Option Addr) (c : Nat) (ret : Int) (vB : Value) (ps : List Int) (w : World) (h : RdS lo w g) (hp : Bx (fun q => q = g) (fun w => RI lm w (.slice A ps.length c) ps) w) (hw : ∀ p ∈ ps, isW p) (hl4 : ps.length ≤ 4) : Calls Tryz.prog 53 #[.pointer (some ⟨g, 0, none⟩), .agg #[.slice A ps.length c, .int .i64 ret, vB]] w (RetP lo g 5 w) := by
  have h' := Hd.mk h
  have hgl := h.lt
  have hp' := Hd.mk hp
  have hw' := Hd.mk hw
  clear h hp hw
  obtain ⟨n, hn⟩ : ∃ n, n = ps.length := ⟨_, rfl⟩
  rw [← hn] at hp' hl4 ⊢
  have hn' := Hd.mk hn
  clear hn
  obtain ⟨wb, hwb⟩ : ∃ wb : World, wb = w.alloc (.cells #[.slice A n c, .int .i64 ret, vB] 35) := ⟨_, rfl⟩
  have hbb : Below w.heap.size w wb := by rw [hwb]; exact (Below.refl _ _).al (Nat.le_refl _) _
  have hzb : wb.heap.size = w.heap.size + 1 := by rw [hwb]; simp
  have b0 : wb.cell? ⟨w.heap.size, 0, none⟩ = some (.slice A n c) := by rw [hwb]; exact new_cell _ _ _ rfl 0 _ rfl
  have hwb' := Hd.mk hwb
  have hrb : RdS lo wb g := h'.out.mv (row := none) ⟨hbb.os, hbb.tape, hbb.output, hbb.size, fun k hk _ => hbb.block k hk⟩ (by simp) (fun k hk => by cases hk)
  have hGb : w.grownBy wb (some g) := ⟨hbb.os, hbb.tape, hbb.output, hbb.size, fun k hk _ => hbb.block k hk⟩
  have hG0 := Hd.mk (gb_al hGb (.cells #[] 2))
  have hr0 := Hd.mk (hrb.al (.cells #[] 2))
  have ho0 : Hd ((wb.alloc (.cells #[] 2)).ownsRow (w.heap.size + 1) 2 1 (.slice (some ⟨w.heap.size + 1, 0, none⟩) 0 0) 0 []) := ⟨own_empty wb (w.heap.size + 1) (w.heap.size + 1) 2 1 hzb.symm (by omega)⟩
  have c0 : (wb.alloc (.cells #[] 2)).cell? ⟨w.heap.size, 0, none⟩ = some (.slice A n c) := (bat ((Below.refl wb.heap.size wb).al (Nat.le_refl _) _) w.heap.size (by omega) 0).trans b0
  have c0' := Hd.mk c0
  have hzz : Hd (w.heap.size < (wb.alloc (.cells #[] 2)).heap.size) := ⟨by simp; omega⟩
  clear hwb hbb hrb hGb c0
  go_enter Tryz.func53, Tryz.ntmps53
  go_wp2
  rw [← hwb'.out]
  go_loopw [5, 6] (fun s5 s6 wr => ∃ (i : Nat) (l : List Int) (A5 : Option Addr) (c5 : Nat), i ≤ n ∧ l.length ≤ i ∧ s6 = .int .i64 i ∧ s5 = .slice A5 l.length c5 ∧ Hd (wr.ownsRow (w.heap.size + 1) 2 1 (.slice A5 l.length c5) l.length (l.map (Value.int .i64))) ∧ Hd (RdS lo wr g) ∧ Hd (w.grownBy wr (some g)) ∧ Hd (wr.cell? ⟨w.heap.size, 0, none⟩ = some (.slice A n c)) ∧ Hd (w.heap.size < wr.heap.size)) (fun _ s6 _ => n - (intOf s6).toNat)
  case atStart => exact ⟨0, [], some ⟨w.heap.size + 1, 0, none⟩, 0, Nat.zero_le _, Nat.le_refl _, rfl, rfl, ho0, hr0, hG0, c0', hzz⟩
  case round =>
    clear ho0 hr0 hG0 c0' hzz
    obtain ⟨i, l, A5, c5, hi, hl, rfl, rfl, ho, hr, hG, hc, hz⟩ := hrel
    have hzr := hG.out.size
    have j0 := hc.out
    by_cases hlt : i < n
    · have hri := hp'.out wr ((Fr.gb hG.out).sub (by rintro q e; injection e with e; exact e.symm))
      rw [hn'.out] at hri
      obtain ⟨b, off, cs, hA, hbl, hk1, hat⟩ := hri.in0 (Below.refl _ _) i (by have := hn'.out; omega)
      cases hA
      cases hk1
      have g0 := hat 0 _ rfl
      simp at g0
      clear hat hri
      have hwd := hw'.out _ (List.getElem_mem (l := ps) (n := i) (by have := hn'.out; omega))
      generalize ps[i]'_ = wd at *
      have hx := s_value lo g wd wr hr.out hwd
      have i0 : (0 : Int) ≤ (i : Int) := by omega
      have i1 : (i : Int) < (n : Int) := by omega
      go_wp2_with fail
      refine hx.mono ?_; rintro e w2 ⟨v, rfl, ⟨q, rfl⟩, hr2, hg2⟩
      have ho2 := Hd.mk (own_gb ho.out hg2 (.inr (RdS.ne hr.out ho.out)))
      have hG2 := Hd.mk (gb_trans hG.out hg2)
      have hc2 := Hd.mk ((World.cell?_of_block (a := ⟨w.heap.size, 0, none⟩) (hg2.block w.heap.size hz.out (by simp; omega))).trans hc.out)
      have hr2' := Hd.mk hr2
      have hz2 := hg2.size
      have hz9 : w.heap.size < w2.heap.size := by have := hz.out; omega
      clear hr2 hg2 hx ho hr hG hc j0 g0
      go_wp2_with (at_builtin; refine app_I rfl _ _ rfl (w.heap.size + 1) _ l [q] rfl ?h1 _ 1 1 rfl (rd_one _ _) ?h2 ?h3 ?h4)
      case h1 => exact own_mv ho2.out ((Below.refl _ _).al (Nat.le_refl _) _)
      case h2 => omega
      case h3 => simp; omega
      case h4 =>
        intro v' w4 ho4 hg4
        have hal := (Below.refl w2.heap.size w2).al (Nat.le_refl _) (.cells #[.int .i64 q] 2)
        have ho3 := own_mv ho2.out hal
        have hr3 := hr2'.out.al (.cells #[.int .i64 q] 2)
        have hr4 : RdS lo w4 g := hr3.mv hg4 (fun e => RdS.ne hr3 ho3 e.symm) (fun k hk => by have := own_block_ge ho3 k hk; have := hr2'.out.1; omega)
        have hG4 := gb_own (gb_al hG2.out (.cells #[.int .i64 q] 2)) hg4 (fun k hk => by have := own_block_ge ho3 k hk; omega)
        have hc4 := (World.cell?_of_block (a := ⟨w.heap.size, 0, none⟩) (hg4.block w.heap.size (by simp; omega) (fun e => by have := own_block_ge ho3 _ e.symm; omega))).trans ((bat hal w.heap.size hz9 0).trans hc2.out)
        have hz4 : w.heap.size < w4.heap.size := by have := hg4.size; simp at this; omega
        obtain ⟨A2, c2, rfl, -, -⟩ := own_shape ho4
        have ho5 := Hd.mk ho4
        have hr5 := Hd.mk hr4
        have hG5 := Hd.mk hG4
        have hc5 := Hd.mk hc4
        have hz5 := Hd.mk hz4
        clear ho4 hg4 ho3 hr3 hr4 hG4 ho2 hG2 hr2' hc4 hal
        go_wp2
        go_roundw
        case rel => exact ⟨i + 1, l ++ [q], A2, c2, by omega, by simp; omega, by go_num, by simp, ⟨by simpa using ho5.out⟩, hr5, hG5, hc5, hz5⟩
        case measure => simp [intOf]; omega
    · have hlt' : ¬ (i : Int) < (n : Int) := by omega
      have hx := s_once lo g 40 wr hr.out (by omega)
      go_wp2_with fail
      refine hx.mono ?_; rintro e w2 ⟨v, rfl, ⟨b, rfl⟩, hr2, hg2⟩
      have ho2 := Hd.mk (own_gb ho.out hg2 (.inr (RdS.ne hr.out ho.out)))
      have hG2 := Hd.mk (gb_trans hG.out hg2)
      have hr2' := Hd.mk hr2
      have hz2 := hg2.size
      have hz9 : w.heap.size < w2.heap.size := by have := hz.out; omega
      clear hr2 hg2 hx ho hr hG hc j0
      cases b
      · go_wp2
        go_ret
        exact ⟨_, l, rfl, by omega, own_lower ho2.out (by omega), hr2'.out, hG2.out⟩
      · go_wp2_with (at_builtin; refine app_I rfl _ _ rfl (w.heap.size + 1) _ l [0] rfl ?h1 _ 1 1 rfl (rd_one _ _) ?h2 ?h3 ?h4)
        case h1 => exact own_mv ho2.out ((Below.refl _ _).al (Nat.le_refl _) _)
        case h2 => omega
        case h3 => simp; omega
        case h4 =>
          intro v' w4 ho4 hg4
          have ho3 := own_mv ho2.out ((Below.refl w2.heap.size w2).al (Nat.le_refl _) (.cells #[.int .i64 0] 2))
          have hr3 := hr2'.out.al (.cells #[.int .i64 0] 2)
          have hr4 : RdS lo w4 g := hr3.mv hg4 (fun e => RdS.ne hr3 ho3 e.symm) (fun k hk => by have := own_block_ge ho3 k hk; have := hr2'.out.1; omega)
          have hG4 := gb_own (gb_al hG2.out (.cells #[.int .i64 0] 2)) hg4 (fun k hk => by have := own_block_ge ho3 k hk; omega)
          have ho5 := Hd.mk ho4
          have hr5 := Hd.mk hr4
          have hG5 := Hd.mk hG4
          clear ho4 hg4 ho3 hr3 hr4 hG4 ho2 hG2 hr2'
          go_wp2
          go_ret
          exact ⟨_, l ++ [0], rfl, by simp; omega, own_lower (by simpa using ho5.out) (by omega), hr5.out, hG5.out⟩
set_option maxHeartbeats 1000000 in
theorem s_near (lo g : Nat) (w : World) (h : RdS lo w g) : Calls Tryz.prog 120 #[.pointer (some ⟨g, 0, none⟩), .int .i64 0, .int .i64 3] w (RetRd lo g AnyI w) := by
  have hx := s_below lo g 8 w h (by omega)
  clear h
  go_enter Tryz.func120, Tryz.ntmps120
  go_wp2_with fail
  refine hx.mono ?_; rintro e w1 ⟨v, rfl, ⟨q, rfl, q1, q2⟩, hr, hg⟩
  have hw := s_word lo g w1 hr
  have hr' := Hd.mk hr
  have hg' := Hd.mk hg
  clear hr hg hx
  by_cases h0 : q = 0
  · subst h0
    go_wp2
    go_ret
    exact ⟨_, rfl, ⟨_, rfl⟩, hr'.out, hg'.out⟩
  have t0 := beqF h0
  by_cases h1 : q = 1
  · subst h1
    go_wp2
    go_ret
    exact ⟨_, rfl, ⟨_, rfl⟩, hr'.out, hg'.out⟩
  have t1 := beqF h1
  go_wp2_with fail
  refine hw.mono ?_; rintro e w2 ⟨v, rfl, ⟨x, rfl⟩, hr2, hg2⟩
  have hr2' := Hd.mk hr2
  have hg2' := Hd.mk (gb_trans hg'.out hg2)
  clear hr2 hg2 hr' hg'
  go_wp2
  go_ret
  exact ⟨_, rfl, ⟨_, rfl⟩, hr2'.out, hg2'.out⟩
set_option maxHeartbeats 1000000 in
theorem s_off (lo g : Nat) (w : World) (h : RdS lo w g) : Calls Tryz.prog 83 #[.pointer (some ⟨g, 0, none⟩), .int .i64 0, .int .i64 3] w (RetRd lo g AnyI w) := by
  have hx := s_once lo g 24 w h (by omega)
  clear h
  go_enter Tryz.func83, Tryz.ntmps83
  go_wp2_with fail
  refine hx.mono ?_; rintro e w1 ⟨v, rfl, ⟨b, rfl⟩, hr, hg⟩
  have hn := s_near lo g w1 hr
  have hr' := Hd.mk hr
  have hg' := Hd.mk hg
  clear hr hg hx
  cases b
  · go_wp2_with fail
    refine hn.mono ?_; rintro e w2 ⟨v, rfl, ⟨x, rfl⟩, hr2, hg2⟩
    have hr2' := Hd.mk hr2
    have hg2' := Hd.mk (gb_trans hg'.out hg2)
    clear hr2 hg2 hr' hg'
    go_wp2
    go_ret
    exact ⟨_, rfl, ⟨_, rfl⟩, hr2'.out, hg2'.out⟩
  · have hgl : g < w1.heap.size := hr'.out.lt
    go_wp2_with fail
    refine (s_below lo g 4 _ (hr'.out.al _) (by omega)).mono ?_; rintro e w2 ⟨v, rfl, ⟨q, rfl, q1, q2⟩, hr2, hg2⟩
    have hbk := hg2.block w1.heap.size (by simp) (fun e => by cases e; omega)
    have hh : w2.heap[w1.heap.size]? = some (.cells #[.int .i64 (-1), .int .i64 4, .int .i64 (-9223372036854775808), .int .i64 9223372036854775807] 2 (0, 0)) := by
      rw [hbk]; exact heap_new _ _ _ _ rfl
    obtain ⟨c1, -⟩ := row_facts hh
    have k0 := c1 0
    have k1 := c1 1
    have k2 := c1 2
    have k3 := c1 3
    simp at k0 k1 k2 k3
    have hr2' := Hd.mk hr2
    have hg2' := Hd.mk (gb_trans (gb_al hg'.out _) hg2)
    clear hr2 hg2 hr' hg' hbk hh c1
    have h4 : q = 0 ∨ q = 1 ∨ q = 2 ∨ q = 3 := by omega
    rcases h4 with rfl | rfl | rfl | rfl
    all_goals
      go_wp2
      go_ret
      exact ⟨_, rfl, ⟨_, rfl⟩, hr2'.out, hg2'.out⟩
def sameR (x y : XRes) : Bool := x.code == y.code && x.value == y.value && x.mem.toList == y.mem.toList && decide (x.out = y.out)
set_option maxHeartbeats 1000000 in
theorem c_Equal (v u : Value) (xs ys : List Int) (w : World) (hv : RI lm w v xs) (hu : RI lm w u ys) : Calls Tryz.prog 84 #[v, u] w (Ret (.bool (decide (xs = ys))) w) := by
  obtain ⟨A1, c1, rfl, -, hl1, hv0⟩ := hv.sm
  obtain ⟨A2, c2, rfl, -, hl2, hu0⟩ := hu.sm
  clear hv hu
  by_cases hlen : xs.length = ys.length
  rotate_left
  · rw [decide_eq_false (len_ne hlen)]
    have d : ((xs.length : Int) != (ys.length : Int)) = true := by simp; omega
    go_enter Tryz.func84, Tryz.ntmps84
    go_wp2
    go_ret
    exact ⟨rfl, Below.refl _ _⟩
  obtain ⟨n, hn⟩ : ∃ n, n = xs.length := ⟨_, rfl⟩
  have hn2 : n = ys.length := hn.trans hlen
  rw [← hn, ← hn2]
  rw [← hn] at hv0 hl1
  rw [← hn2] at hu0
  have hn' := Hd.mk hn
  have hn2' := Hd.mk hn2
  clear hn hn2 hlen hl2
  go_enter Tryz.func84, Tryz.ntmps84
  go_wp2
  go_loopw [13] (fun s13 wr => ∃ k : Nat, k ≤ n ∧ s13 = .int .i64 k ∧ Hd (xs.take k = ys.take k) ∧ Hd (Below w.heap.size w wr)) (fun s13 _ => n - (intOf s13).toNat)
  case atStart => exact ⟨0, Nat.zero_le _, rfl, ⟨by simp⟩, ⟨Below.refl _ _⟩⟩
  case round =>
    obtain ⟨k, hk, rfl, hall, hbr⟩ := hrel
    by_cases hlt : k < n
    · obtain ⟨b, off, cs, hA, hbl, hk1, hat⟩ := hv0.out.in0 hbr.out k (by have := hn'.out; omega)
      cases hA
      cases hk1
      have g0 := hat 0 _ rfl
      simp at g0
      clear hat
      obtain ⟨b2, off2, cs, hA, hbl2, hk1, hat⟩ := hu0.out.in0 hbr.out k (by have := hn2'.out; omega)
      cases hA
      cases hk1
      have f0 := hat 0 _ rfl
      simp at f0
      clear hat
      have hz : (k : Int) < (n : Int) := by omega
      have hz0 : (0 : Int) ≤ (k : Int) := by omega
      by_cases he : xs[k]'(by have := hn'.out; omega) = ys[k]'(by have := hn2'.out; omega)
      · have ht := Hd.mk (take_eq hall.out (by have := hn'.out; omega) (by have := hn2'.out; omega) he)
        generalize xs[k]'_ = x at *
        subst he
        go_wp2
        go_quiet (fail)
        go_wp2
        go_roundw
        case rel => exact ⟨k + 1, by omega, by go_num, ht, ⟨pw_drewN hbr.out _⟩⟩
        case measure => simp [intOf]; omega
      · have hne := Hd.mk (el_ne _ _ he)
        have d := bneT he
        generalize xs[k]'_ = x at *
        generalize ys[k]'_ = y at *
        clear he
        go_wp2
        go_quiet (fail)
        go_wp2
        go_ret
        exact ⟨by rw [decide_eq_false hne.out]; rfl, pw_drewN hbr.out _⟩
    · have e : k = n := by omega
      subst e
      go_wp2
      go_ret
      exact ⟨by rw [decide_eq_true (take_all hall.out hn'.out hn2'.out)]; rfl, hbr.out⟩
set_option maxHeartbeats 4000000 in
theorem c_isSeenAs (x y : XRes) (cs ds : List Value) (w : World) (hx : KRes w x cs) (hy : KRes w y ds) : Calls Tryz.prog 59 #[.agg cs.toArray, .agg ds.toArray] w (Ret (.bool (sameR x y)) w) := by
  obtain ⟨v1, rfl, r1⟩ := hx
  obtain ⟨u1, rfl, s1⟩ := hy
  have hbl := fun o o' => ((Below.refl w.heap.size w).al (Nat.le_refl _) o).al (by simp) o'
  obtain ⟨xcode, xvalue, xout, xmem, xsteps⟩ := x
  obtain ⟨ycode, yvalue, yout, ymem, ysteps⟩ := y
  simp only at *
  unfold sameR
  simp only
  have z1 := fun W hW => c_Equal v1 u1 xout yout W (r1.mv hW) (s1.mv hW)
  generalize decide (xout = yout) = b4 at *
  cases h1 : xcode == ycode with
  | false =>
    go_enter Tryz.func59, Tryz.ntmps59
    go_wp2
    go_ret
    exact ⟨rfl, hbl _ _⟩
  | true =>
    cases h2 : xvalue == yvalue with
    | false =>
      go_enter Tryz.func59, Tryz.ntmps59
      go_wp2
      go_ret
      exact ⟨rfl, hbl _ _⟩
    | true =>
      cases h3 : xmem.toList == ymem.toList with
      | false =>
        go_enter Tryz.func59, Tryz.ntmps59
        go_wp2
        go_ret
        exact ⟨rfl, hbl _ _⟩
      | true =>
        go_enter Tryz.func59, Tryz.ntmps59
        go_wp2_with fail
        refine (z1 _ (hbl _ _)).mono ?_; rintro e w1 ⟨rfl, hb1⟩
        go_wp2
        go_ret
        exact ⟨by simp, (hbl _ _).then hb1⟩
end Go.Proofs.YtkcgejbnhpccdaaGreat
