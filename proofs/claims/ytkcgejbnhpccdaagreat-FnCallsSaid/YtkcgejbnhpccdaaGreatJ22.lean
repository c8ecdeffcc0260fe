import Derived.Test.YtkcgejbnhpccdaaGreatJ10
import Derived.Test.YtkcgejbnhpccdaaGreatJ21
import Derived.Maps.AppendAt
set_option linter.unusedSimpArgs false
set_option linter.unusedVariables false
namespace Go.Proofs.YtkcgejbnhpccdaaGreat
open Go.RowKit
/-! ### a run's state, and what stays as it was beside it -/
/-- All blocks but two, and what was told out, are as they were. -/
structure Off (g gm : Nat) (o : Option Nat) (w w' : World) : Prop where
  os : w'.os = w.os
  tape : w'.tape = w.tape
  output : w'.output = w.output
  size : w.heap.size ≤ w'.heap.size
  block : ∀ b, b < w.heap.size → b ≠ g → b ≠ gm → o ≠ some b → w'.heap[b]? = w.heap[b]?
/-- A row lies where it lay, or in a new block. -/
def Nxt (w : World) (o o' : Option Nat) : Prop := o' = o ∨ ∀ b, o' = some b → w.heap.size ≤ b
theorem Off.refl (g gm : Nat) (o : Option Nat) (w : World) : Off g gm o w w := ⟨rfl, rfl, rfl, Nat.le_refl _, fun _ _ _ _ _ => rfl⟩
theorem Off.of {g gm : Nat} {o : Option Nat} {w w' : World} (h : Below w.heap.size w w') : Off g gm o w w' := ⟨h.os, h.tape, h.output, h.size, fun b hb _ _ _ => h.block b hb⟩
theorem Off.trans {g gm : Nat} {o o' : Option Nat} {a b c : World} (h : Off g gm o a b) (hn : Nxt a o o') (k : Off g gm o' b c) : Off g gm o a c :=
  ⟨k.os.trans h.os, k.tape.trans h.tape, k.output.trans h.output, Nat.le_trans h.size k.size, fun i hi h1 h2 h3 => (k.block i (Nat.lt_of_lt_of_le hi h.size) h1 h2 (by
    rcases hn with rfl | hn
    · exact h3
    · exact fun e => by have := hn i e; omega)).trans (h.block i hi h1 h2 h3)⟩
theorem Off.then {g gm : Nat} {o : Option Nat} {a b c : World} (h : Off g gm o a b) (k : Below b.heap.size b c) : Off g gm o a c := h.trans (.inl rfl) (.of k)
theorem Off.drew {g gm : Nat} {o : Option Nat} {a b : World} (h : Off g gm o a b) : Off g gm o a b.drew := ⟨h.os, h.tape, h.output, h.size, h.block⟩
theorem Off.drewN {g gm : Nat} {o : Option Nat} {a b : World} (h : Off g gm o a b) (n : Nat) : Off g gm o a (b.drewN n) := ⟨h.os, h.tape, h.output, h.size, h.block⟩
theorem Nxt.trans {a b : World} {o o' o'' : Option Nat} (h : Nxt a o o') (hs : a.heap.size ≤ b.heap.size) (k : Nxt b o' o'') : Nxt a o o'' := by
  rcases k with rfl | k
  · exact h
  · exact .inr fun i hi => Nat.le_trans hs (k i hi)
theorem Nxt.refl (w : World) (o : Option Nat) : Nxt w o o := .inl rfl
/-- A store into one of the two. -/
theorem Off.set {g gm b j : Nat} {o : Option Nat} {a w : World} (h : Off g gm o a w) (hb : b = g ∨ b = gm) (u : Value) : Off g gm o a (w.setCell ⟨b, j, none⟩ u) :=
  ⟨h.os, h.tape, h.output, by rw [setCell_size]; exact h.size, fun i hi h1 h2 h3 => (Below.heap_setCell w ⟨b, j, none⟩ u i (by show i ≠ b; rcases hb with rfl | rfl <;> assumption)).trans (h.block i hi h1 h2 h3)⟩
theorem Off.below {g gm B : Nat} {o : Option Nat} {w w' : World} (h : Off g gm o w w') (h1 : B ≤ g) (h2 : B ≤ gm) (h3 : ∀ b, o = some b → B ≤ b) (hB : B ≤ w.heap.size) : Below B w w' :=
  ⟨h.os, h.tape, h.output, h.size, fun b hb => h.block b (by omega) (by omega) (by omega) (fun e => by have := h3 b e; omega)⟩
/-- A new block of one's own is written. -/
theorem Off.setNew {g gm b j : Nat} {o : Option Nat} {a w : World} (h : Off g gm o a w) (hb : a.heap.size ≤ b) (u : Value) : Off g gm o a (w.setCell ⟨b, j, none⟩ u) :=
  ⟨h.os, h.tape, h.output, by rw [setCell_size]; exact h.size, fun i hi h1 h2 h3 => (Below.heap_setCell w ⟨b, j, none⟩ u i (by show i ≠ b; omega)).trans (h.block i hi h1 h2 h3)⟩
theorem Off.grown {g gm : Nat} {o r : Option Nat} {a w w' : World} (h : Off g gm o a w) (hg : w.grownBy w' r) (hr : ∀ b, r = some b → b = g ∨ b = gm ∨ o = some b ∨ a.heap.size ≤ b) : Off g gm o a w' :=
  ⟨hg.os.trans h.os, hg.tape.trans h.tape, hg.output.trans h.output, Nat.le_trans h.size hg.size, fun i hi h1 h2 h3 => (hg.block i (Nat.lt_of_lt_of_le hi h.size) (fun e => by
    rcases hr i e.symm with h | h | h | h
    · exact h1 h
    · exact h2 h
    · exact h3 h
    · omega)).trans (h.block i hi h1 h2 h3)⟩
/-- One number appended to a row of one's own: where the row lies then. -/
theorem step_app_at {ops : Array Oper} {o : Oper} {a : Act} {W : World} {K : Act → World → Prop} {Q : Exit → Act → World → Prop} {E : Prop} (hgd : o.guard = none) (s x : Operand)
    (ho : o.op = .call { callee := .builtin .append, args := #[s, x], argTypes := #[24, 24] }) (base : Nat) (v : Value) (xs ys : List Int) (hs : a.eval s = v)
    (hown : W.ownsRow base 2 1 v xs.length (xs.map (Value.int .i64))) (ad : Addr) (n c : Nat) (hx : a.eval x = .slice (some ad) n c) (hr : RI lm W (.slice (some ad) n c) ys) (hl : xs.length ≤ 1099511627776) (hb : base ≤ W.heap.size)
    (hK : ∀ v' w', w'.ownsRow base 2 1 v' (xs ++ ys).length ((xs ++ ys).map (Value.int .i64)) → W.grownBy w' v.ownBlock → (v'.ownBlock = v.ownBlock ∨ v'.ownBlock = some W.heap.size) → K (a.put o.dst v') w') :
    if Region.wanted o (yielded ops a.tmps) = true then Oper.wp Tryz.prog o a W K Q else E := by
  have hw : Region.wanted o (yielded ops a.tmps) = true := by simp [Region.wanted, hgd]
  rw [if_pos hw]
  obtain ⟨i0, hi, hz0, hz1, hz2⟩ := info_parts infoI
  obtain ⟨rfl, hle, hn, hsrc⟩ := hr.src
  obtain ⟨v', w', hrun, r1, r2, _, r4⟩ := run_append_own_at (P := Tryz.prog) W base 24 o.type 2 i0 (.int .i64 0) 1 8 Tryz.underlying24 hi hz0 hz1 hz2 rfl (by decide) v xs.length _ hown ad ys.length c (ys.map (Value.int .i64)) (by simp) (hsrc ad rfl) (by simp [Value.oneCell']) (by unfold maxLen; omega) (by omega) hb
  unfold Oper.wp
  simp [execOp, ho, resolve, invoke, builtin, hs, hx, hrun, Result.andThen]
  exact hK v' w' (by simpa using r1) r2 r4
theorem app_at {ops : Array Oper} {rest : List Oper} {o : Oper} {a : Act} {Q : Exit → Act → World → Prop} {W : World} (hgd : o.guard = none) (s x : Operand)
    (ho : o.op = .call { callee := .builtin .append, args := #[s, x], argTypes := #[24, 24] }) (base : Nat) (v : Value) (xs ys : List Int) (hs : a.eval s = v)
    (hown : W.ownsRow base 2 1 v xs.length (xs.map (Value.int .i64))) (ad : Addr) (n c : Nat) (hx : a.eval x = .slice (some ad) n c) (hr : RI lm W (.slice (some ad) n c) ys) (hl : xs.length ≤ 1099511627776) (hb : base ≤ W.heap.size)
    (hK : ∀ v' w', w'.ownsRow base 2 1 v' (xs ++ ys).length ((xs ++ ys).map (Value.int .i64)) → W.grownBy w' v.ownBlock → (v'.ownBlock = v.ownBlock ∨ v'.ownBlock = some W.heap.size) → wpList Tryz.prog ops Q rest (a.put o.dst v') w') : wpList Tryz.prog ops Q (o :: rest) a W := by
  refine wpList_plain hgd fun K hK' => ?_
  obtain ⟨i0, hi, hz0, hz1, hz2⟩ := info_parts infoI
  obtain ⟨rfl, hle, hn, hsrc⟩ := hr.src
  obtain ⟨v', w', hrun, r1, r2, _, r4⟩ := run_append_own_at (P := Tryz.prog) W base 24 o.type 2 i0 (.int .i64 0) 1 8 Tryz.underlying24 hi hz0 hz1 hz2 rfl (by decide) v xs.length _ hown ad ys.length c (ys.map (Value.int .i64)) (by simp) (hsrc ad rfl) (by simp [Value.oneCell']) (by unfold maxLen; omega) (by omega) hb
  unfold Oper.wp
  simp [execOp, ho, resolve, invoke, builtin, hs, hx, hrun, Result.andThen]
  exact hK' _ _ (hK v' w' (by simpa using r1) r2 r4)
/-- A row of one's own beside a block that may have turned. -/
theorem own_offb {W W' : World} {lo b e sz n : Nat} {v : Value} {cs : List Value} (h : W.ownsRow lo e sz v n cs) (hb : Off b b none W W') (hl : b < lo) : W'.ownsRow lo e sz v n cs := by
  refine ⟨h.1, ?_⟩
  rcases h.2 with h' | ⟨g, cap, cur, hv, h1, h2, h3⟩
  · exact .inl h'
  · exact .inr ⟨g, cap, cur, hv, h1, (hb.block g (Array.getElem?_eq_some_iff.1 h2).1 (by omega) (by omega) (by simp)).trans h2, h3⟩
/-- A block that is none of those. -/
structure Asd (g gm : Nat) (o : Option Nat) (b : Nat) (w : World) : Prop where
  lt : b < w.heap.size
  g : b ≠ g
  gm : b ≠ gm
  o : o ≠ some b
theorem Off.at {g gm b : Nat} {o : Option Nat} {w w' : World} (h : Off g gm o w w') (ha : Asd g gm o b w) : w'.heap[b]? = w.heap[b]? := h.block b ha.lt ha.g ha.gm ha.o
theorem Off.cell {g gm b : Nat} {o : Option Nat} {w w' : World} (h : Off g gm o w w') (ha : Asd g gm o b w) (j : Nat) : w'.cell? ⟨b, j, none⟩ = w.cell? ⟨b, j, none⟩ := World.cell?_of_block (a := ⟨b, j, none⟩) (h.at ha)
theorem Asd.mv {g gm b : Nat} {o o' : Option Nat} {w w' : World} (ha : Asd g gm o b w) (hs : w.heap.size ≤ w'.heap.size) (hn : Nxt w o o') : Asd g gm o' b w' :=
  ⟨Nat.lt_of_lt_of_le ha.lt hs, ha.g, ha.gm, by
    rcases hn with rfl | hn
    · exact ha.o
    · exact fun e => by have := hn b e; have := ha.lt; omega⟩
/-- The state in block g: its memory in block gm. -/
def SI (mv : Value) (fuel : Nat) (g gm lo : Nat) (d : Int) (s : RS) (A : Option Addr) (c : Nat) (W : World) : Prop := ∃ cm,
  W.heap[g]? = some (.cells #[mv, .slice (some ⟨gm, 0, none⟩) 32 cm, .slice A s.out.length c, .int .i64 fuel, .int .i64 s.steps, .int .i64 d] 103 (0, 0)) ∧
  ByR W gm s.mem ∧ W.ownsRow lo 2 1 (.slice A s.out.length c) s.out.length (s.out.map (Value.int .i64)) ∧ g < lo ∧ gm < lo ∧ lo ≤ W.heap.size ∧ g ≠ gm
abbrev blk (A : Option Addr) : Option Nat := A.map (·.block)
theorem blk_eq (A : Option Addr) (n c : Nat) : (Value.slice A n c).ownBlock = blk A := by cases A <;> rfl
theorem SI.mv {mv : Value} {fuel g gm lo : Nat} {d : Int} {s : RS} {A : Option Addr} {c : Nat} {W W' : World} (h : SI mv fuel g gm lo d s A c W) (hb : Below W.heap.size W W') : SI mv fuel g gm lo d s A c W' := by
  obtain ⟨cm, h1, h2, h3, i1, i2, i3, h4⟩ := h
  exact ⟨cm, (hb.block g (Array.getElem?_eq_some_iff.1 h1).1).trans h1, h2.mv (hb.block gm h2.lt), own_mv h3 hb, i1, i2, Nat.le_trans i3 hb.size, h4⟩
theorem SI.drew {mv : Value} {fuel g gm lo : Nat} {d : Int} {s : RS} {A : Option Addr} {c : Nat} {W : World} (h : SI mv fuel g gm lo d s A c W) : SI mv fuel g gm lo d s A c W.drew := h
theorem SI.drewN {mv : Value} {fuel g gm lo : Nat} {d : Int} {s : RS} {A : Option Addr} {c : Nat} {W : World} (h : SI mv fuel g gm lo d s A c W) (n : Nat) : SI mv fuel g gm lo d s A c (W.drewN n) := h
theorem SI.blk {mv : Value} {fuel g gm lo : Nat} {d : Int} {s : RS} {A : Option Addr} {c : Nat} {W : World} (h : SI mv fuel g gm lo d s A c W) : ∀ b, blk A = some b → lo ≤ b ∧ b < W.heap.size := by
  obtain ⟨cm, h1, h2, h3, i1, i2, i3, h4⟩ := h
  intro b hb
  have hk := own_block_ge h3
  refine ⟨hk b (by rw [blk_eq]; exact hb), ?_⟩
  rcases h3.2 with ⟨e, _⟩ | ⟨g', cap, cur, hv, hl, hx, h''⟩
  · injection e with e1 e2 e3; subst e1; cases hb
  · injection hv with e1 e2 e3; subst e1; cases hb; exact (Array.getElem?_eq_some_iff.1 hx).1
theorem SI.cells {mv : Value} {fuel g gm lo : Nat} {d : Int} {s : RS} {A : Option Addr} {c : Nat} {W : World} (h : SI mv fuel g gm lo d s A c W) : ∃ cm, W.cell? ⟨g, 0, none⟩ = some mv ∧ W.cell? ⟨g, 1, none⟩ = some (.slice (some ⟨gm, 0, none⟩) 32 cm) ∧ W.cell? ⟨g, 2, none⟩ = some (.slice A s.out.length c) ∧
    W.cell? ⟨g, 3, none⟩ = some (.int .i64 fuel) ∧ W.cell? ⟨g, 4, none⟩ = some (.int .i64 s.steps) ∧ W.cell? ⟨g, 5, none⟩ = some (.int .i64 d) ∧ (∀ j, W.frozen? ⟨g, j, none⟩ = false) ∧ g < W.heap.size ∧ gm < W.heap.size ∧ g ≠ gm := by
  obtain ⟨cm, h1, h2, h3, i1, i2, i3, h4⟩ := h
  obtain ⟨c0, f0⟩ := row_facts h1
  exact ⟨cm, c0 0, c0 1, c0 2, c0 3, c0 4, c0 5, f0, (Array.getElem?_eq_some_iff.1 h1).1, h2.lt, h4⟩
theorem SI.setSteps {mv : Value} {fuel g gm lo : Nat} {d : Int} {s : RS} {A : Option Addr} {c : Nat} {W : World} (h : SI mv fuel g gm lo d s A c W) (k : Nat) : SI mv fuel g gm lo d ⟨s.mem, s.out, k⟩ A c (W.setCell ⟨g, 4, none⟩ (.int .i64 k)) := by
  obtain ⟨cm, h1, h2, h3, i1, i2, i3, h4⟩ := h
  exact ⟨cm, by simpa using heap_set (j := 4) (u := .int .i64 k) h1, h2.mv (Below.heap_setCell _ _ _ _ h4.symm), own_far h3 i1, i1, i2, by rw [setCell_size]; exact i3, h4⟩
theorem SI.setDeep {mv : Value} {fuel g gm lo : Nat} {d : Int} {s : RS} {A : Option Addr} {c : Nat} {W : World} (h : SI mv fuel g gm lo d s A c W) (k : Int) : SI mv fuel g gm lo k s A c (W.setCell ⟨g, 5, none⟩ (.int .i64 k)) := by
  obtain ⟨cm, h1, h2, h3, i1, i2, i3, h4⟩ := h
  exact ⟨cm, by simpa using heap_set (j := 5) (u := .int .i64 k) h1, h2.mv (Below.heap_setCell _ _ _ _ h4.symm), own_far h3 i1, i1, i2, by rw [setCell_size]; exact i3, h4⟩
theorem SI.setMem {mv : Value} {fuel g gm lo : Nat} {d : Int} {s : RS} {A : Option Addr} {c : Nat} {W : World} (h : SI mv fuel g gm lo d s A c W) (k : Nat) (v : Int) : SI mv fuel g gm lo d ⟨s.mem.set k v, s.out, s.steps⟩ A c (W.setCell ⟨gm, k, none⟩ (.int .u8 v)) := by
  obtain ⟨cm, h1, h2, h3, i1, i2, i3, h4⟩ := h
  exact ⟨cm, heap_off h1 h4, h2.set k v, own_far h3 i2, i1, i2, by rw [setCell_size]; exact i3, h4⟩
/-- A store elsewhere. -/
theorem SI.setOff {mv : Value} {fuel g gm lo b j : Nat} {d : Int} {s : RS} {A : Option Addr} {c : Nat} {W : World} (h : SI mv fuel g gm lo d s A c W) (hb : Asd g gm (Go.Proofs.YtkcgejbnhpccdaaGreat.blk A) b W) (u : Value) : SI mv fuel g gm lo d s A c (W.setCell ⟨b, j, none⟩ u) := by
  obtain ⟨cm, h1, h2, h3, i1, i2, i3, h4⟩ := h
  refine ⟨cm, heap_off h1 hb.g.symm, h2.mv (Below.heap_setCell _ _ _ _ hb.gm.symm), ?_, i1, i2, by rw [setCell_size]; exact i3, h4⟩
  refine ⟨h3.1, ?_⟩
  rcases h3.2 with h' | ⟨g', cap, cur, hv, hl', hx, h''⟩
  · exact .inl h'
  · exact .inr ⟨g', cap, cur, hv, hl', heap_off hx (fun e => hb.o (by injection hv with e1 e2 e3; subst e1; rw [← e]; rfl)), h''⟩
/-- What is told out has grown, and is written into the state. -/
theorem SI.setOut {mv v' : Value} {fuel g gm lo n : Nat} {d : Int} {s : RS} {A : Option Addr} {c : Nat} {W W' : World} {xs : List Int} (h : SI mv fuel g gm lo d s A c W) (hg : W.grownBy W' (Value.slice A s.out.length c).ownBlock) (h' : W'.ownsRow lo 2 1 v' n (xs.map (Value.int .i64))) (hn : n = xs.length) :
    ∃ A' c', v' = .slice A' xs.length c' ∧ SI mv fuel g gm lo d ⟨s.mem, xs, s.steps⟩ A' c' (W'.setCell ⟨g, 2, none⟩ v') := by
  subst hn
  obtain ⟨cm, h1, h2, h3, i1, i2, i3, h4⟩ := h
  have hk := own_block_ge h3
  have old : ∀ b, b < lo → b < W.heap.size → W'.heap[b]? = W.heap[b]? := fun b hb hw => hg.block b hw (fun e => by
    have := hk b (by first | exact e | exact e.symm)
    omega)
  obtain ⟨A2, c2, rfl, -, -⟩ := own_shape h'
  refine ⟨A2, c2, rfl, cm, ?_, ?_, own_far h' i1, i1, i2, by rw [setCell_size]; exact Nat.le_trans i3 hg.size, h4⟩
  · have := heap_set (j := 2) (u := .slice A2 xs.length c2) ((old g i1 (by omega)).trans h1)
    simpa using this
  · exact (h2.mv (old gm i2 (by omega))).mv (Below.heap_setCell _ _ _ _ (fun e => h4 e.symm))
/-- A step counted, if there is one. -/
def SteppedR (mv : Value) (fuel g gm lo : Nat) (d : Int) (s : RS) (A : Option Addr) (c : Nat) (w : World) (e : Ending) (w' : World) : Prop :=
  e = .returned (.bool (decide (s.steps ≠ fuel))) ∧ SI mv fuel g gm lo d (if s.steps = fuel then s else ⟨s.mem, s.out, s.steps + 1⟩) A c w' ∧ Off g gm (blk A) w w'
set_option maxRecDepth 20000 in
set_option maxHeartbeats 4000000 in
theorem c_stepR (mv : Value) (fuel g gm lo : Nat) (d : Int) (s : RS) (A : Option Addr) (c : Nat) (W : World) (h : SI mv fuel g gm lo d s A c W) (hf : fuel ≤ 2000) (hs : s.steps ≤ fuel) :
    Calls Tryz.prog 96 #[.pointer (some ⟨g, 0, none⟩)] W (SteppedR mv fuel g gm lo d s A c W) := by
  have h' := Hd.mk h
  obtain ⟨cm, k0, k1, k2, k3, k4, k5, kf, kg, kgm, kne⟩ := h.cells
  have f4 := kf 4
  clear h kf
  by_cases e : s.steps = fuel
  · have d1 : ((s.steps : Int) == (fuel : Int)) = true := by simp; omega
    have hv := Hd.mk (show decide (s.steps ≠ fuel) = false by simpa using e)
    have hp := Hd.mk e
    clear e
    go_enter Tryz.func96, Tryz.ntmps96
    go_wp2
    go_quiet (fail)
    go_wp2
    go_ret
    exact ⟨by rw [hv.out]; rfl, by rw [if_pos hp.out]; exact h'.out.drewN _, (Off.refl _ _ _ _).drewN _⟩
  · have d1 : ((s.steps : Int) == (fuel : Int)) = false := by simp; omega
    have hv := Hd.mk (show decide (s.steps ≠ fuel) = true by simpa using e)
    have hp := Hd.mk e
    have ew : IntKind.i64.wrap ((s.steps : Int) + 1) = ((s.steps + 1 : Nat) : Int) := by rw [IntWalk.i64_in _ (by omega)]; simp
    have ew' := ew
    simp only [Int.natCast_add, Int.cast_ofNat_Int] at ew'
    clear e
    go_enter Tryz.func96, Tryz.ntmps96
    go_wp2
    go_quiet (fail)
    go_wp2
    have hst := Hd.mk ((h'.out.drewN nq).setSteps (s.steps + 1))
    have hof : Hd (Off g gm (blk A) W ((W.drewN nq).setCell ⟨g, 4, none⟩ (.int .i64 ((s.steps + 1 : Nat) : Int)))) := ⟨((Off.refl _ _ _ _).drewN _).set (.inl rfl) _⟩
    go_ret
    exact ⟨by rw [hv.out]; rfl, by rw [if_neg hp.out]; exact hst.out, hof.out⟩
end Go.Proofs.YtkcgejbnhpccdaaGreat
