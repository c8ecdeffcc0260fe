import Derived.Test.YtkcgejbnhpccdaaGreatP08
import Derived.Test.YtkcgejbnhpccdaaGreatP15
import Derived.Maps.AppendAt
import Derived.Laws.CopyOwn
import Derived.Test.YtkcgejbnhpccdaaGreatP16
set_option linter.unusedSimpArgs false
set_option linter.unusedVariables false
namespace Go.Proofs.YtkcgejbnhpccdaaGreat
open Go.RowKit
structure Off (g gm : Nat) (o : Option Nat) (w w' : World) : Prop where
  os : w'.os = w.os
  tape : w'.tape = w.tape
  output : w'.output = w.output
  size : w.heap.size ≤ w'.heap.size
  block : ∀ b, b < w.heap.size → b ≠ g → b ≠ gm → o ≠ some b → w'.heap[b]? = w.heap[b]?
def Nxt (w : World) (o o' : Option Nat) : Prop := o' = o ∨ ∀ b, o' = some b → w.heap.size ≤ b
theorem Off.refl (g gm : Nat) (o : Option Nat) (w : World) : Off g gm o w w := ⟨rfl, rfl, rfl, Nat.le_refl _, fun _ _ _ _ _ => rfl⟩
theorem Off.of {g gm : Nat} {o : Option Nat} {w w' : World} (h : Below w.heap.size w w') : Off g gm o w w' := ⟨h.os, h.tape, h.output, h.size, fun b hb _ _ _ => h.block b hb⟩
theorem Off.trans {g gm : Nat} {o o' : Option Nat} {a b c : World} (h : Off g gm o a b) (hn : Nxt a o o') (k : Off g gm o' b c) : Off g gm o a c :=
  ⟨k.os.trans h.os, k.tape.trans h.tape, k.output.trans h.output, Nat.le_trans h.size k.size, fun i hi h1 h2 h3 => (k.block i (Nat.lt_of_lt_of_le hi h.size) h1 h2 (by
    rcases hn with rfl | hn
    · exact h3
    · exact fun e => by have := hn i e; omega)).trans (h.block i hi h1 h2 h3)⟩
theorem Off.then {g gm : Nat} {o : Option Nat} {a b c : World} (h : Off g gm o a b) (k : Below b.heap.size b c) : Off g gm o a c := h.trans (.inl rfl) (.of k)
theorem Off.drew {g gm : Nat} {o : Option Nat} {a b : World} (h : Off g gm o a b) : Off g gm o a b.drew := ⟨h.os, h.tape, h.output, h.size, h.block⟩
theorem Off.drewN {g gm : Nat} {o : Option Nat} {a b : World} (h : Off g gm o a b) (n : Nat) : Off g gm o a (b.drewN n) := ⟨h.os, h.tape, h.output, h.size, h.block⟩
theorem Nxt.trans {a b : World} {o o' o'' : Option Nat} (h : Nxt a o o') (hs : a.heap.size ≤ b.heap.size) (k : Nxt b o' o'') : Nxt a o o'' := by
  rcases k with rfl | k
  · exact h
  · exact .inr fun i hi => Nat.le_trans hs (k i hi)
theorem Nxt.refl (w : World) (o : Option Nat) : Nxt w o o := .inl rfl
theorem Off.set {g gm b j : Nat} {o : Option Nat} {a w : World} (h : Off g gm o a w) (hb : b = g ∨ b = gm) (u : Value) : Off g gm o a (w.setCell ⟨b, j, none⟩ u) :=
  ⟨h.os, h.tape, h.output, by rw [setCell_size]; exact h.size, fun i hi h1 h2 h3 => (Below.heap_setCell w ⟨b, j, none⟩ u i (by show i ≠ b; rcases hb with rfl | rfl <;> assumption)).trans (h.block i hi h1 h2 h3)⟩
theorem Off.below {g gm B : Nat} {o : Option Nat} {w w' : World} (h : Off g gm o w w') (h1 : B ≤ g) (h2 : B ≤ gm) (h3 : ∀ b, o = some b → B ≤ b) (hB : B ≤ w.heap.size) : Below B w w' :=
  ⟨h.os, h.tape, h.output, h.size, fun b hb => h.block b (by omega) (by omega) (by omega) (fun e => by have := h3 b e; omega)⟩
theorem Off.setNew {g gm b j : Nat} {o : Option Nat} {a w : World} (h : Off g gm o a w) (hb : a.heap.size ≤ b) (u : Value) : Off g gm o a (w.setCell ⟨b, j, none⟩ u) :=
  ⟨h.os, h.tape, h.output, by rw [setCell_size]; exact h.size, fun i hi h1 h2 h3 => (Below.heap_setCell w ⟨b, j, none⟩ u i (by show i ≠ b; omega)).trans (h.block i hi h1 h2 h3)⟩
theorem Off.grown {g gm : Nat} {o r : Option Nat} {a w w' : World} (h : Off g gm o a w) (hg : w.grownBy w' r) (hr : ∀ b, r = some b → b = g ∨ b = gm ∨ o = some b ∨ a.heap.size ≤ b) : Off g gm o a w' :=
  ⟨hg.os.trans h.os, hg.tape.trans h.tape, hg.output.trans h.output, Nat.le_trans h.size hg.size, fun i hi h1 h2 h3 => (hg.block i (Nat.lt_of_lt_of_le hi h.size) (fun e => by
    rcases hr i e.symm with h | h | h | h
    · exact h1 h
    · exact h2 h
    · exact h3 h
    · omega)).trans (h.block i hi h1 h2 h3)⟩
theorem step_app_at {ops : Array Oper} {o : Oper} {a : Act} {W : World} {K : Act → World → Prop} {Q : Exit → Act → World → Prop} {E : Prop} (hgd : o.guard = none) (s x : Operand)
    (ho : o.op = .call { callee := .builtin .append, args := #[s, x], argTypes := #[24, 24] }) (base : Nat) (v : Value) (xs ys : List Int) (hs : a.eval s = v)
    (hown : W.ownsRow base 2 1 v xs.length (xs.map (Value.int .i64))) (ad : Addr) (n c : Nat) (hx : a.eval x = .slice (some ad) n c) (hr : RI lm W (.slice (some ad) n c) ys) (hl : xs.length ≤ 1099511627776) (hb : base ≤ W.heap.size)
    (hK : ∀ v' w', w'.ownsRow base 2 1 v' (xs ++ ys).length ((xs ++ ys).map (Value.int .i64)) → W.grownBy w' v.ownBlock → (v'.ownBlock = v.ownBlock ∨ v'.ownBlock = some W.heap.size) → K (a.put o.dst v') w') :
    if Region.wanted o (yielded ops a.tmps) = true then Oper.wp Tryz.prog o a W K Q else E := by
  have hw : Region.wanted o (yielded ops a.tmps) = true := by simp [Region.wanted, hgd]
  rw [if_pos hw]
  obtain ⟨i0, hi, hz0, hz1, hz2⟩ := info_parts infoI
  obtain ⟨rfl, hle, hn, hsrc⟩ := hr.src
  obtain ⟨v', w', hrun, r1, r2, _, r4⟩ := run_append_own_at (P := Tryz.prog) W base 24 o.type 2 i0 (.int .i64 0) 1 8 Tryz.underlying24 hi hz0 hz1 hz2 rfl (by decide) v xs.length _ hown ad ys.length c (ys.map (Value.int .i64)) (by simp) (hsrc ad rfl) (by simp [Value.oneCell']) (by unfold maxLen; omega) (by omega) hb
  unfold Oper.wp
  simp [execOp, ho, resolve, invoke, builtin, hs, hx, hrun, Result.andThen]
  exact hK v' w' (by simpa using r1) r2 r4
theorem app_at {ops : Array Oper} {rest : List Oper} {o : Oper} {a : Act} {Q : Exit → Act → World → Prop} {W : World} (hgd : o.guard = none) (s x : Operand)
    (ho : o.op = .call { callee := .builtin .append, args := #[s, x], argTypes := #[24, 24] }) (base : Nat) (v : Value) (xs ys : List Int) (hs : a.eval s = v)
    (hown : W.ownsRow base 2 1 v xs.length (xs.map (Value.int .i64))) (ad : Addr) (n c : Nat) (hx : a.eval x = .slice (some ad) n c) (hr : RI lm W (.slice (some ad) n c) ys) (hl : xs.length ≤ 1099511627776) (hb : base ≤ W.heap.size)
    (hK : ∀ v' w', w'.ownsRow base 2 1 v' (xs ++ ys).length ((xs ++ ys).map (Value.int .i64)) → W.grownBy w' v.ownBlock → (v'.ownBlock = v.ownBlock ∨ v'.ownBlock = some W.heap.size) → wpList Tryz.prog ops Q rest (a.put o.dst v') w') : wpList Tryz.prog ops Q (o :: rest) a W := by
  refine wpList_plain hgd fun K hK' => ?_
  obtain ⟨i0, hi, hz0, hz1, hz2⟩ := info_parts infoI
  obtain ⟨rfl, hle, hn, hsrc⟩ := hr.src
  obtain ⟨v', w', hrun, r1, r2, _, r4⟩ := run_append_own_at (P := Tryz.prog) W base 24 o.type 2 i0 (.int .i64 0) 1 8 Tryz.underlying24 hi hz0 hz1 hz2 rfl (by decide) v xs.length _ hown ad ys.length c (ys.map (Value.int .i64)) (by simp) (hsrc ad rfl) (by simp [Value.oneCell']) (by unfold maxLen; omega) (by omega) hb
  unfold Oper.wp
  simp [execOp, ho, resolve, invoke, builtin, hs, hx, hrun, Result.andThen]
  exact hK' _ _ (hK v' w' (by simpa using r1) r2 r4)
theorem own_offb {W W' : World} {lo b e sz n : Nat} {v : Value} {cs : List Value} (h : W.ownsRow lo e sz v n cs) (hb : Off b b none W W') (hl : b < lo) : W'.ownsRow lo e sz v n cs := by
  refine ⟨h.1, ?_⟩
  rcases h.2 with h' | ⟨g, cap, cur, hv, h1, h2, h3⟩
  · exact .inl h'
  · exact .inr ⟨g, cap, cur, hv, h1, (hb.block g (Array.getElem?_eq_some_iff.1 h2).1 (by omega) (by omega) (by simp)).trans h2, h3⟩
structure Asd (g gm : Nat) (o : Option Nat) (b : Nat) (w : World) : Prop where
  lt : b < w.heap.size
  g : b ≠ g
  gm : b ≠ gm
  o : o ≠ some b
theorem Off.at {g gm b : Nat} {o : Option Nat} {w w' : World} (h : Off g gm o w w') (ha : Asd g gm o b w) : w'.heap[b]? = w.heap[b]? := h.block b ha.lt ha.g ha.gm ha.o
theorem Off.cell {g gm b : Nat} {o : Option Nat} {w w' : World} (h : Off g gm o w w') (ha : Asd g gm o b w) (j : Nat) : w'.cell? ⟨b, j, none⟩ = w.cell? ⟨b, j, none⟩ := World.cell?_of_block (a := ⟨b, j, none⟩) (h.at ha)
theorem Asd.mv {g gm b : Nat} {o o' : Option Nat} {w w' : World} (ha : Asd g gm o b w) (hs : w.heap.size ≤ w'.heap.size) (hn : Nxt w o o') : Asd g gm o' b w' :=
  ⟨Nat.lt_of_lt_of_le ha.lt hs, ha.g, ha.gm, by
    rcases hn with rfl | hn
    · exact ha.o
    · exact fun e => by have := hn b e; have := ha.lt; omega⟩
def SI (mv : Value) (fuel : Nat) (g gm lo : Nat) (d : Int) (s : RS) (A : Option Addr) (c : Nat) (W : World) : Prop := ∃ cm,
  W.heap[g]? = some (.cells #[mv, .slice (some ⟨gm, 0, none⟩) 32 cm, .slice A s.out.length c, .int .i64 fuel, .int .i64 s.steps, .int .i64 d] 103 (0, 0)) ∧
  ByR W gm s.mem ∧ W.ownsRow lo 2 1 (.slice A s.out.length c) s.out.length (s.out.map (Value.int .i64)) ∧ g < lo ∧ gm < lo ∧ lo ≤ W.heap.size ∧ g ≠ gm
abbrev blk (A : Option Addr) : Option Nat := A.map (·.block)
theorem blk_eq (A : Option Addr) (n c : Nat) : (Value.slice A n c).ownBlock = blk A := by cases A <;> rfl
theorem SI.mv {mv : Value} {fuel g gm lo : Nat} {d : Int} {s : RS} {A : Option Addr} {c : Nat} {W W' : World} (h : SI mv fuel g gm lo d s A c W) (hb : Below W.heap.size W W') : SI mv fuel g gm lo d s A c W' := by
  obtain ⟨cm, h1, h2, h3, i1, i2, i3, h4⟩ := h
  exact ⟨cm, (hb.block g (Array.getElem?_eq_some_iff.1 h1).1).trans h1, h2.mv (hb.block gm h2.lt), own_mv h3 hb, i1, i2, Nat.le_trans i3 hb.size, h4⟩
theorem SI.drew {mv : Value} {fuel g gm lo : Nat} {d : Int} {s : RS} {A : Option Addr} {c : Nat} {W : World} (h : SI mv fuel g gm lo d s A c W) : SI mv fuel g gm lo d s A c W.drew := h
theorem SI.drewN {mv : Value} {fuel g gm lo : Nat} {d : Int} {s : RS} {A : Option Addr} {c : Nat} {W : World} (h : SI mv fuel g gm lo d s A c W) (n : Nat) : SI mv fuel g gm lo d s A c (W.drewN n) := h
theorem SI.blk {mv : Value} {fuel g gm lo : Nat} {d : Int} {s : RS} {A : Option Addr} {c : Nat} {W : World} (h : SI mv fuel g gm lo d s A c W) : ∀ b, blk A = some b → lo ≤ b ∧ b < W.heap.size := by
  obtain ⟨cm, h1, h2, h3, i1, i2, i3, h4⟩ := h
  intro b hb
  have hk := own_block_ge h3
  refine ⟨hk b (by rw [blk_eq]; exact hb), ?_⟩
  rcases h3.2 with ⟨e, _⟩ | ⟨g', cap, cur, hv, hl, hx, h''⟩
  · injection e with e1 e2 e3; subst e1; cases hb
  · injection hv with e1 e2 e3; subst e1; cases hb; exact (Array.getElem?_eq_some_iff.1 hx).1
theorem SI.cells {mv : Value} {fuel g gm lo : Nat} {d : Int} {s : RS} {A : Option Addr} {c : Nat} {W : World} (h : SI mv fuel g gm lo d s A c W) : ∃ cm, W.cell? ⟨g, 0, none⟩ = some mv ∧ W.cell? ⟨g, 1, none⟩ = some (.slice (some ⟨gm, 0, none⟩) 32 cm) ∧ W.cell? ⟨g, 2, none⟩ = some (.slice A s.out.length c) ∧
    W.cell? ⟨g, 3, none⟩ = some (.int .i64 fuel) ∧ W.cell? ⟨g, 4, none⟩ = some (.int .i64 s.steps) ∧ W.cell? ⟨g, 5, none⟩ = some (.int .i64 d) ∧ (∀ j, W.frozen? ⟨g, j, none⟩ = false) ∧ g < W.heap.size ∧ gm < W.heap.size ∧ g ≠ gm := by
  obtain ⟨cm, h1, h2, h3, i1, i2, i3, h4⟩ := h
  obtain ⟨c0, f0⟩ := row_facts h1
  exact ⟨cm, c0 0, c0 1, c0 2, c0 3, c0 4, c0 5, f0, (Array.getElem?_eq_some_iff.1 h1).1, h2.lt, h4⟩
theorem SI.setSteps {mv : Value} {fuel g gm lo : Nat} {d : Int} {s : RS} {A : Option Addr} {c : Nat} {W : World} (h : SI mv fuel g gm lo d s A c W) (k : Nat) : SI mv fuel g gm lo d ⟨s.mem, s.out, k⟩ A c (W.setCell ⟨g, 4, none⟩ (.int .i64 k)) := by
  obtain ⟨cm, h1, h2, h3, i1, i2, i3, h4⟩ := h
  exact ⟨cm, by simpa using heap_set (j := 4) (u := .int .i64 k) h1, h2.mv (Below.heap_setCell _ _ _ _ h4.symm), own_far h3 i1, i1, i2, by rw [setCell_size]; exact i3, h4⟩
theorem SI.setDeep {mv : Value} {fuel g gm lo : Nat} {d : Int} {s : RS} {A : Option Addr} {c : Nat} {W : World} (h : SI mv fuel g gm lo d s A c W) (k : Int) : SI mv fuel g gm lo k s A c (W.setCell ⟨g, 5, none⟩ (.int .i64 k)) := by
  obtain ⟨cm, h1, h2, h3, i1, i2, i3, h4⟩ := h
  exact ⟨cm, by simpa using heap_set (j := 5) (u := .int .i64 k) h1, h2.mv (Below.heap_setCell _ _ _ _ h4.symm), own_far h3 i1, i1, i2, by rw [setCell_size]; exact i3, h4⟩
theorem SI.setMem {mv : Value} {fuel g gm lo : Nat} {d : Int} {s : RS} {A : Option Addr} {c : Nat} {W : World} (h : SI mv fuel g gm lo d s A c W) (k : Nat) (v : Int) : SI mv fuel g gm lo d ⟨s.mem.set k v, s.out, s.steps⟩ A c (W.setCell ⟨gm, k, none⟩ (.int .u8 v)) := by
  obtain ⟨cm, h1, h2, h3, i1, i2, i3, h4⟩ := h
  exact ⟨cm, heap_off h1 h4, h2.set k v, own_far h3 i2, i1, i2, by rw [setCell_size]; exact i3, h4⟩
theorem SI.setOff {mv : Value} {fuel g gm lo b j : Nat} {d : Int} {s : RS} {A : Option Addr} {c : Nat} {W : World} (h : SI mv fuel g gm lo d s A c W) (hb : Asd g gm (Go.Proofs.YtkcgejbnhpccdaaGreat.blk A) b W) (u : Value) : SI mv fuel g gm lo d s A c (W.setCell ⟨b, j, none⟩ u) := by
  obtain ⟨cm, h1, h2, h3, i1, i2, i3, h4⟩ := h
  refine ⟨cm, heap_off h1 hb.g.symm, h2.mv (Below.heap_setCell _ _ _ _ hb.gm.symm), ?_, i1, i2, by rw [setCell_size]; exact i3, h4⟩
  refine ⟨h3.1, ?_⟩
  rcases h3.2 with h' | ⟨g', cap, cur, hv, hl', hx, h''⟩
  · exact .inl h'
  · exact .inr ⟨g', cap, cur, hv, hl', heap_off hx (fun e => hb.o (by injection hv with e1 e2 e3; subst e1; rw [← e]; rfl)), h''⟩
theorem SI.setOut {mv v' : Value} {fuel g gm lo n : Nat} {d : Int} {s : RS} {A : Option Addr} {c : Nat} {W W' : World} {xs : List Int} (h : SI mv fuel g gm lo d s A c W) (hg : W.grownBy W' (Value.slice A s.out.length c).ownBlock) (h' : W'.ownsRow lo 2 1 v' n (xs.map (Value.int .i64))) (hn : n = xs.length) :
    ∃ A' c', v' = .slice A' xs.length c' ∧ SI mv fuel g gm lo d ⟨s.mem, xs, s.steps⟩ A' c' (W'.setCell ⟨g, 2, none⟩ v') := by
  subst hn
  obtain ⟨cm, h1, h2, h3, i1, i2, i3, h4⟩ := h
  have hk := own_block_ge h3
  have old : ∀ b, b < lo → b < W.heap.size → W'.heap[b]? = W.heap[b]? := fun b hb hw => hg.block b hw (fun e => by
    have := hk b (by first | exact e | exact e.symm)
    omega)
  obtain ⟨A2, c2, rfl, -, -⟩ := own_shape h'
  refine ⟨A2, c2, rfl, cm, ?_, ?_, own_far h' i1, i1, i2, by rw [setCell_size]; exact Nat.le_trans i3 hg.size, h4⟩
  · have := heap_set (j := 2) (u := .slice A2 xs.length c2) ((old g i1 (by omega)).trans h1)
    simpa using this
  · exact (h2.mv (old gm i2 (by omega))).mv (Below.heap_setCell _ _ _ _ (fun e => h4 e.symm))
def SteppedR (mv : Value) (fuel g gm lo : Nat) (d : Int) (s : RS) (A : Option Addr) (c : Nat) (w : World) (e : Ending) (w' : World) : Prop :=
  e = .returned (.bool (decide (s.steps ≠ fuel))) ∧ SI mv fuel g gm lo d (if s.steps = fuel then s else ⟨s.mem, s.out, s.steps + 1⟩) A c w' ∧ Off g gm (blk A) w w'
set_option maxRecDepth 20000 in
set_option maxHeartbeats 4000000 in
theorem c_stepR (mv : Value) (fuel g gm lo : Nat) (d : Int) (s : RS) (A : Option Addr) (c : Nat) (W : World) (h : SI mv fuel g gm lo d s A c W) (hf : fuel ≤ 2000) (hs : s.steps ≤ fuel) :
    Calls Tryz.prog 96 #[.pointer (some ⟨g, 0, none⟩)] W (SteppedR mv fuel g gm lo d s A c W) := by
  have h' := Hd.mk h
  obtain ⟨cm, k0, k1, k2, k3, k4, k5, kf, kg, kgm, kne⟩ := h.cells
  have f4 := kf 4
  clear h kf
  by_cases e : s.steps = fuel
  · have d1 : ((s.steps : Int) == (fuel : Int)) = true := by simp; omega
    have hv := Hd.mk (show decide (s.steps ≠ fuel) = false by simpa using e)
    have hp := Hd.mk e
    clear e
    go_enter Tryz.func96, Tryz.ntmps96
    go_wp2
    go_quiet (fail)
    go_wp2
    go_ret
    exact ⟨by rw [hv.out]; rfl, by rw [if_pos hp.out]; exact h'.out.drewN _, (Off.refl _ _ _ _).drewN _⟩
  · have d1 : ((s.steps : Int) == (fuel : Int)) = false := by simp; omega
    have hv := Hd.mk (show decide (s.steps ≠ fuel) = true by simpa using e)
    have hp := Hd.mk e
    have ew : IntKind.i64.wrap ((s.steps : Int) + 1) = ((s.steps + 1 : Nat) : Int) := by rw [IntWalk.i64_in _ (by omega)]; simp
    have ew' := ew
    simp only [Int.natCast_add, Int.cast_ofNat_Int] at ew'
    clear e
    go_enter Tryz.func96, Tryz.ntmps96
    go_wp2
    go_quiet (fail)
    go_wp2
    have hst := Hd.mk ((h'.out.drewN nq).setSteps (s.steps + 1))
    have hof : Hd (Off g gm (blk A) W ((W.drewN nq).setCell ⟨g, 4, none⟩ (.int .i64 ((s.steps + 1 : Nat) : Int)))) := ⟨((Off.refl _ _ _ _).drewN _).set (.inl rfl) _⟩
    go_ret
    exact ⟨by rw [hv.out]; rfl, by rw [if_neg hp.out]; exact hst.out, hof.out⟩
theorem first_le (f : XFunc) (b : Nat) (hb : b < f.blocks.length) : firstOf f b + f.blocks[b].phis.length + f.blocks[b].insts.length ≤ countOf f := by
  have h1 := countIn_snoc f.params.length f.blocks b hb
  have h2 : ∀ (n : Int) (l : List XBlock), n ≤ countIn n l := by
    intro n l
    unfold countIn
    have : 0 ≤ (l.map sizeB).sum := by
      induction l with
      | nil => simp
      | cons b l ih => have := sizeB_nn b; simp only [List.map_cons, List.sum_cons]; omega
    omega
  have h3 : countOf f = countIn (countIn f.params.length (f.blocks.take (b + 1))) (f.blocks.drop (b + 1)) := by
    unfold countOf countIn
    rw [Int.add_assoc, ← List.sum_append, ← List.map_append, List.take_append_drop]
  have h4 := h2 (countIn f.params.length (f.blocks.take (b + 1))) (f.blocks.drop (b + 1))
  unfold firstOf
  rw [Int.toNat_natCast]
  unfold sizeB at h1
  omega
theorem idx_mem (x : Int) : ∀ l : List Int, x ∈ l → ∃ k : Nat, k < l.length ∧ idx (fun y => x == y) l = k
  | [], h => by cases h
  | y :: r, h => by
    unfold idx
    by_cases e : x = y
    · exact ⟨0, by simp, by simp [e]⟩
    · obtain ⟨k, hk, hi⟩ := idx_mem x r (by rcases List.mem_cons.1 h with h | h; exact absurd h e; exact h)
      refine ⟨k + 1, by simp; omega, ?_⟩
      rw [if_neg (by simpa using e), hi, if_neg (by omega)]; rfl
theorem putAt_splice (r : List Int) : ∀ (l : List Int) (k : Nat), k + r.length ≤ l.length → putAt l k r = splice l k r := by
  induction r with
  | nil => intro l k h; simp [putAt, splice]
  | cons x r ih =>
    intro l k h
    simp only [List.length_cons] at h
    rw [putAt, ih _ _ (by simp; omega)]
    unfold splice
    rw [List.take_set, List.take_succ_eq_append_getElem (by omega), List.set_append_right _ _ (by simp; omega)]
    simp only [List.length_take, Nat.min_eq_left (show k ≤ l.length by omega), Nat.sub_self, List.set_cons_zero, List.append_assoc, List.cons_append, List.nil_append, List.length_cons]
    rw [List.drop_set_of_lt (by omega), show k + 1 + r.length = k + (r.length + 1) by omega]
theorem map_splice {α β : Type} (g : α → β) (l r : List α) (k : Nat) : (splice l k r).map g = splice (l.map g) k (r.map g) := by simp [splice]
theorem copy_I {w : World} {ops : Array Oper} {rest : List Oper} {o : Oper} {a : Act} {Q : Exit → Act → World → Prop} (hgd : o.guard = none) (d s : Operand)
    (ho : o.op = .call { callee := .builtin .copy, args := #[d, s], argTypes := #[24, 24] }) (dp : Option Addr) (dLen dCap : Nat) (hd : a.eval d = .slice dp dLen dCap) (A : Option Addr) (n c : Nat) (hs : a.eval s = .slice A n c)
    (ys : List Int) (hr : RI lm w (.slice A n c) ys) (g off : Nat) (vals : List Int) (hg : w.heap[g]? = some (.cells (vals.map (Value.int .i64)).toArray 2 (0, 0))) (hle : ys.length ≤ dLen) (hpos : 0 < ys.length → dp = some ⟨g, off, none⟩) (hfit : off + ys.length ≤ vals.length)
    (h : ∀ w', Hd (w'.heap[g]? = some (.cells ((putAt vals off ys).map (Value.int .i64)).toArray 2 (0, 0))) → Hd (Off g g none w w') → wpList Tryz.prog ops Q rest (a.put o.dst (goInt ys.length)) w') : wpList Tryz.prog ops Q (o :: rest) a w := by
  obtain ⟨rfl, hl, hn, hsrc⟩ := hr.src
  have hsz : (Tryz.prog.info? 2).map (·.size) = some 1 := by
    have := infoI
    cases hq : Tryz.prog.info? 2 with
    | none => rw [hq] at this; cases this
    | some i => rw [hq] at this; simp at this; simp [this]
  rw [putAt_splice ys vals off hfit, map_splice] at h
  by_cases h0 : ys.length = 0
  · obtain rfl : ys = [] := List.eq_nil_of_length_eq_zero h0
    refine wpList_copy_nothing hgd d s 24 24 ho 2 Tryz.underlying24 hsz dp A dLen dCap 0 c hd hs (by simp) ?_
    exact h w ⟨by simpa [splice] using hg⟩ ⟨Off.refl _ _ _ _⟩
  · obtain rfl := hpos (by omega)
    cases A with
    | none => exact absurd (hn rfl) (by rintro rfl; exact h0 rfl)
    | some ad =>
      have hm : (ys.map (Value.int .i64)).length = Nat.min ys.length dLen := by rw [List.length_map]; exact (Nat.min_eq_left hle).symm
      refine wpList_copy_own hgd d s 24 24 ho 2 Tryz.underlying24 hsz g off dLen dCap ad ys.length c hd hs _ 2 hg (ys.map (Value.int .i64)) hm (hsrc ad rfl) (by simpa using hfit) (by simp [Value.oneCell']) ?_
      have := h (w.setRow g (splice (vals.map (Value.int .i64)) off (ys.map (Value.int .i64))).toArray) ⟨setRow_heap w g _ _ _ _ hg⟩ ⟨⟨rfl, rfl, rfl, by simp [World.setRow], fun b hb h1 _ _ => setRow_other w g b _ h1⟩⟩
      simpa [splice] using this
def FR (pv bv : Value) (ret : Int) (gx gv n : Nat) (vals : List Int) (W : World) : Prop :=
  W.heap[gx]? = some (.cells #[pv, .int .i64 ret, bv, .slice (some ⟨gv, 0, none⟩) n n] 127 (0, 0)) ∧ W.heap[gv]? = some (.cells (vals.map (Value.int .i64)).toArray 2 (0, 0)) ∧ gx ≠ gv
theorem FR.mv {pv bv : Value} {ret : Int} {gx gv n : Nat} {vals : List Int} {W W' : World} (h : FR pv bv ret gx gv n vals W) (hb : Below W.heap.size W W') : FR pv bv ret gx gv n vals W' :=
  ⟨(hb.block gx (Array.getElem?_eq_some_iff.1 h.1).1).trans h.1, (hb.block gv (Array.getElem?_eq_some_iff.1 h.2.1).1).trans h.2.1, h.2.2⟩
theorem FR.off {pv bv : Value} {ret : Int} {gx gv n g gm : Nat} {o : Option Nat} {vals : List Int} {W W' : World} (h : FR pv bv ret gx gv n vals W) (hb : Off g gm o W W') (hx : Asd g gm o gx W) (hv : Asd g gm o gv W) : FR pv bv ret gx gv n vals W' :=
  ⟨(hb.at hx).trans h.1, (hb.at hv).trans h.2.1, h.2.2⟩
theorem FR.drewN {pv bv : Value} {ret : Int} {gx gv n : Nat} {vals : List Int} {W : World} (h : FR pv bv ret gx gv n vals W) (k : Nat) : FR pv bv ret gx gv n vals (W.drewN k) := h
theorem FR.drew {pv bv : Value} {ret : Int} {gx gv n : Nat} {vals : List Int} {W : World} (h : FR pv bv ret gx gv n vals W) : FR pv bv ret gx gv n vals W.drew := h
theorem FR.cells {pv bv : Value} {ret : Int} {gx gv n : Nat} {vals : List Int} {W : World} (h : FR pv bv ret gx gv n vals W) : W.cell? ⟨gx, 0, none⟩ = some pv ∧ W.cell? ⟨gx, 1, none⟩ = some (.int .i64 ret) ∧ W.cell? ⟨gx, 2, none⟩ = some bv ∧ W.cell? ⟨gx, 3, none⟩ = some (.slice (some ⟨gv, 0, none⟩) n n) ∧ gx < W.heap.size ∧ gv < W.heap.size := by
  obtain ⟨c0, -⟩ := row_facts h.1
  exact ⟨c0 0, c0 1, c0 2, c0 3, (Array.getElem?_eq_some_iff.1 h.1).1, (Array.getElem?_eq_some_iff.1 h.2.1).1⟩
theorem FR.val {pv bv : Value} {ret : Int} {gx gv n : Nat} {vals : List Int} {W : World} (h : FR pv bv ret gx gv n vals W) (k : Int) (h0 : 0 ≤ k) (h1 : k < vals.length) : W.cell? ⟨gv, k.toNat, none⟩ = some (.int .i64 (vl vals k)) ∧ W.frozen? ⟨gv, k.toNat, none⟩ = false := by
  obtain ⟨c0, f0⟩ := row_facts h.2.1
  refine ⟨?_, f0 _⟩
  rw [c0, List.getElem?_toArray, List.getElem?_map]
  unfold vl
  rw [List.getElem?_eq_getElem (by omega), List.getD_eq_getElem?_getD, List.getElem?_eq_getElem (by omega)]; rfl
theorem FR.set {pv bv : Value} {ret : Int} {gx gv n : Nat} {vals : List Int} {W : World} (h : FR pv bv ret gx gv n vals W) (k : Nat) (v : Int) : FR pv bv ret gx gv n (vals.set k v) (W.setCell ⟨gv, k, none⟩ (.int .i64 v)) := by
  refine ⟨heap_off h.1 h.2.2, ?_, h.2.2⟩
  have := heap_set (j := k) (u := .int .i64 v) h.2.1
  simpa [List.map_set] using this
theorem SI.far {mv : Value} {fuel g gm lo gv : Nat} {d : Int} {s : RS} {A : Option Addr} {c : Nat} {W W' : World} (h : SI mv fuel g gm lo d s A c W) (hb : Off gv gv none W W') (hv : Asd g gm (Go.Proofs.YtkcgejbnhpccdaaGreat.blk A) gv W) : SI mv fuel g gm lo d s A c W' := by
  obtain ⟨cm, h1, h2, h3, i1, i2, i3, h4⟩ := h
  refine ⟨cm, (hb.block g (Array.getElem?_eq_some_iff.1 h1).1 hv.g.symm hv.g.symm (by simp)).trans h1, h2.mv (hb.block gm h2.lt hv.gm.symm hv.gm.symm (by simp)), ?_, i1, i2, Nat.le_trans i3 hb.size, h4⟩
  refine ⟨h3.1, ?_⟩
  rcases h3.2 with h' | ⟨g', cap, cur, hv', hl', hx, h''⟩
  · exact .inl h'
  · have hne : g' ≠ gv := fun e => hv.o (by injection hv' with e1 e2 e3; subst e1; rw [← e]; rfl)
    exact .inr ⟨g', cap, cur, hv', hl', (hb.block g' (Array.getElem?_eq_some_iff.1 hx).1 hne hne (by simp)).trans hx, h''⟩
def KRes (w : World) (x : XRes) (cs : List Value) : Prop := ∃ v, cs = [.int .i64 x.code, .int .i64 x.value, v, .string x.mem, .int .i64 x.steps] ∧ RI lm w v x.out
deriving instance DecidableEq for XRes
theorem bytes_beq' (a b : ByteArray) : (a.toList == b.toList) = decide (a = b) := by
  rw [ByteArray.toList_eq, ByteArray.toList_eq]
  by_cases h : a = b
  · subst h; simp
  · have : ¬ a.data.toList = b.data.toList := fun e => h (ByteArray.ext (Array.toList_inj.1 e))
    rw [decide_eq_false h, beq_eq_false_iff_ne]; exact this
def sameR (x y : XRes) : Bool := x.code == y.code && x.value == y.value && x.mem.toList == y.mem.toList && decide (x.out = y.out)
set_option maxHeartbeats 1000000 in
theorem c_Equal (v u : Value) (xs ys : List Int) (w : World) (hv : RI lm w v xs) (hu : RI lm w u ys) : Calls Tryz.prog 84 #[v, u] w (Ret (.bool (decide (xs = ys))) w) := by
  obtain ⟨A1, c1, rfl, -, hl1, hv0⟩ := hv.sm
  obtain ⟨A2, c2, rfl, -, hl2, hu0⟩ := hu.sm
  clear hv hu
  by_cases hlen : xs.length = ys.length
  rotate_left
  · rw [decide_eq_false (len_ne hlen)]
    have d : ((xs.length : Int) != (ys.length : Int)) = true := by simp; omega
    go_enter Tryz.func84, Tryz.ntmps84
    go_wp2
    go_ret
    exact ⟨rfl, Below.refl _ _⟩
  obtain ⟨n, hn⟩ : ∃ n, n = xs.length := ⟨_, rfl⟩
  have hn2 : n = ys.length := hn.trans hlen
  rw [← hn, ← hn2]
  rw [← hn] at hv0 hl1
  rw [← hn2] at hu0
  have hn' := Hd.mk hn
  have hn2' := Hd.mk hn2
  clear hn hn2 hlen hl2
  go_enter Tryz.func84, Tryz.ntmps84
  go_wp2
  go_loopw [13] (fun s13 wr => ∃ k : Nat, k ≤ n ∧ s13 = .int .i64 k ∧ Hd (xs.take k = ys.take k) ∧ Hd (Below w.heap.size w wr)) (fun s13 _ => n - (intOf s13).toNat)
  case atStart => exact ⟨0, Nat.zero_le _, rfl, ⟨by simp⟩, ⟨Below.refl _ _⟩⟩
  case round =>
    obtain ⟨k, hk, rfl, hall, hbr⟩ := hrel
    by_cases hlt : k < n
    · obtain ⟨b, off, cs, hA, hbl, hk1, hat⟩ := hv0.out.in0 hbr.out k (by have := hn'.out; omega)
      cases hA
      cases hk1
      have g0 := hat 0 _ rfl
      simp at g0
      clear hat
      obtain ⟨b2, off2, cs, hA, hbl2, hk1, hat⟩ := hu0.out.in0 hbr.out k (by have := hn2'.out; omega)
      cases hA
      cases hk1
      have f0 := hat 0 _ rfl
      simp at f0
      clear hat
      have hz : (k : Int) < (n : Int) := by omega
      have hz0 : (0 : Int) ≤ (k : Int) := by omega
      by_cases he : xs[k]'(by have := hn'.out; omega) = ys[k]'(by have := hn2'.out; omega)
      · have ht := Hd.mk (take_eq hall.out (by have := hn'.out; omega) (by have := hn2'.out; omega) he)
        generalize xs[k]'_ = x at *
        subst he
        go_wp2
        go_quiet (fail)
        go_wp2
        go_roundw
        case rel => exact ⟨k + 1, by omega, by go_num, ht, ⟨pw_drewN hbr.out _⟩⟩
        case measure => simp [intOf]; omega
      · have hne := Hd.mk (el_ne _ _ he)
        have d := bneT he
        generalize xs[k]'_ = x at *
        generalize ys[k]'_ = y at *
        clear he
        go_wp2
        go_quiet (fail)
        go_wp2
        go_ret
        exact ⟨by rw [decide_eq_false hne.out]; rfl, pw_drewN hbr.out _⟩
    · have e : k = n := by omega
      subst e
      go_wp2
      go_ret
      exact ⟨by rw [decide_eq_true (take_all hall.out hn'.out hn2'.out)]; rfl, hbr.out⟩
set_option maxHeartbeats 4000000 in
theorem c_isSeenAs (x y : XRes) (cs ds : List Value) (w : World) (hx : KRes w x cs) (hy : KRes w y ds) : Calls Tryz.prog 59 #[.agg cs.toArray, .agg ds.toArray] w (Ret (.bool (sameR x y)) w) := by
  obtain ⟨v1, rfl, r1⟩ := hx
  obtain ⟨u1, rfl, s1⟩ := hy
  have hbl := fun o o' => ((Below.refl w.heap.size w).al (Nat.le_refl _) o).al (by simp) o'
  obtain ⟨xcode, xvalue, xout, xmem, xsteps⟩ := x
  obtain ⟨ycode, yvalue, yout, ymem, ysteps⟩ := y
  simp only at *
  unfold sameR
  simp only
  have z1 := fun W hW => c_Equal v1 u1 xout yout W (r1.mv hW) (s1.mv hW)
  generalize decide (xout = yout) = b4 at *
  cases h1 : xcode == ycode with
  | false =>
    go_enter Tryz.func59, Tryz.ntmps59
    go_wp2
    go_ret
    exact ⟨rfl, hbl _ _⟩
  | true =>
    cases h2 : xvalue == yvalue with
    | false =>
      go_enter Tryz.func59, Tryz.ntmps59
      go_wp2
      go_ret
      exact ⟨rfl, hbl _ _⟩
    | true =>
      cases h3 : xmem.toList == ymem.toList with
      | false =>
        go_enter Tryz.func59, Tryz.ntmps59
        go_wp2
        go_ret
        exact ⟨rfl, hbl _ _⟩
      | true =>
        go_enter Tryz.func59, Tryz.ntmps59
        go_wp2_with fail
        refine (z1 _ (hbl _ _)).mono ?_; rintro e w1 ⟨rfl, hb1⟩
        go_wp2
        go_ret
        exact ⟨by simp, (hbl _ _).then hb1⟩
set_option maxRecDepth 20000 in
set_option maxHeartbeats 4000000 in
theorem s_l19Same (x y : XRes) (cs ds : List Value) (w : World) (hx : KRes w x cs) (hy : KRes w y ds) : Calls Tryz.prog 60 #[.agg cs.toArray, .agg ds.toArray] w (Ret (.bool (sameR x y)) w) := by
  obtain ⟨v1, rfl, r1⟩ := hx
  obtain ⟨u1, rfl, s1⟩ := hy
  have hbl := fun o o' => ((Below.refl w.heap.size w).al (Nat.le_refl _) o).al (by simp) o'
  obtain ⟨xcode, xvalue, xout, xmem, xsteps⟩ := x
  obtain ⟨ycode, yvalue, yout, ymem, ysteps⟩ := y
  simp only at *
  unfold sameR
  simp only
  obtain ⟨A1, c1, rfl, -, hl1, hv0⟩ := r1.sm
  obtain ⟨A2, c2, rfl, -, hl2, hu0⟩ := s1.sm
  clear r1 s1
  cases h1 : xcode == ycode with
  | false =>
    have d1 : (xcode != ycode) = true := by unfold bne; rw [h1]; rfl
    go_enter Tryz.func60, Tryz.ntmps60
    go_wp2
    go_ret
    exact ⟨by simp, hbl _ _⟩
  | true =>
    have d1 : (xcode != ycode) = false := by unfold bne; rw [h1]; rfl
    cases h2 : xvalue == yvalue with
    | false =>
      have d2 : (xvalue != yvalue) = true := by unfold bne; rw [h2]; rfl
      go_enter Tryz.func60, Tryz.ntmps60
      go_wp2
      go_ret
      exact ⟨by simp, hbl _ _⟩
    | true =>
      have d2 : (xvalue != yvalue) = false := by unfold bne; rw [h2]; rfl
      cases h3 : xmem.toList == ymem.toList with
      | false =>
        have d3 : (xmem.toList != ymem.toList) = true := by unfold bne; rw [h3]; rfl
        go_enter Tryz.func60, Tryz.ntmps60
        go_wp2
        go_ret
        exact ⟨by simp, hbl _ _⟩
      | true =>
        have d3 : (xmem.toList != ymem.toList) = false := by unfold bne; rw [h3]; rfl
        by_cases hlen : xout.length = yout.length
        rotate_left
        · have d : ((xout.length : Int) != (yout.length : Int)) = true := by simp; omega
          rw [decide_eq_false (len_ne hlen)]
          go_enter Tryz.func60, Tryz.ntmps60
          go_wp2
          go_ret
          exact ⟨by simp, hbl _ _⟩
        obtain ⟨n, hn⟩ : ∃ n, n = xout.length := ⟨_, rfl⟩
        have hn2 : n = yout.length := hn.trans hlen
        rw [← hn, ← hn2]
        rw [← hn] at hv0 hl1
        rw [← hn2] at hu0
        have hn' := Hd.mk hn
        have hn2' := Hd.mk hn2
        obtain ⟨W0, hW0⟩ : ∃ W0 : World, W0 = (w.alloc (.cells #[.int .i64 xcode, .int .i64 xvalue, .slice A1 n c1, .string xmem, .int .i64 xsteps] 40)).alloc (.cells #[.int .i64 ycode, .int .i64 yvalue, .slice A2 n c2, .string ymem, .int .i64 ysteps] 40) := ⟨_, rfl⟩
        have hB0 : Hd (Below w.heap.size w W0) := ⟨by rw [hW0]; exact hbl _ _⟩
        have hz0 : w.heap.size + 1 < W0.heap.size := by rw [hW0]; simp
        have hz00 : w.heap.size < W0.heap.size := by omega
        have x2 : Hd (W0.cell? ⟨w.heap.size, 2, none⟩ = some (.slice A1 n c1)) := ⟨by rw [hW0]; simp⟩
        have y2 : Hd (W0.cell? ⟨w.heap.size + 1, 2, none⟩ = some (.slice A2 n c2)) := ⟨by rw [hW0]; simp⟩
        have hW0' := Hd.mk hW0
        generalize hRR : decide (xout = yout) = RR
        have hRR' := Hd.mk hRR
        clear hn hn2 hlen hl2 hW0 hbl hRR
        go_enter Tryz.func60, Tryz.ntmps60
        go_wp2
        rw [← hW0'.out]
        go_loopw [5] (fun s5 wr => ∃ k : Nat, k ≤ n ∧ s5 = .int .i64 k ∧ Hd (xout.take k = yout.take k) ∧ Hd (Below W0.heap.size W0 wr)) (fun s5 _ => n - (intOf s5).toNat)
        case atStart => exact ⟨0, Nat.zero_le _, rfl, ⟨by simp⟩, ⟨Below.refl _ _⟩⟩
        case round =>
          obtain ⟨k, hk, rfl, hall, hbr0⟩ := hrel
          have hbr := Hd.mk (hB0.out.then hbr0.out)
          have x2w := (bat hbr0.out w.heap.size hz00 2).trans x2.out
          have y2w := (bat hbr0.out (w.heap.size + 1) hz0 2).trans y2.out
          by_cases hlt : k < n
          · obtain ⟨b, off, cs, hA, hbl, hk1, hat⟩ := hv0.out.in0 hbr.out k (by have := hn'.out; omega)
            cases hA
            cases hk1
            have g0 := hat 0 _ rfl
            simp at g0
            clear hat
            obtain ⟨b2, off2, cs, hA, hbl2, hk1, hat⟩ := hu0.out.in0 hbr.out k (by have := hn2'.out; omega)
            cases hA
            cases hk1
            have f0 := hat 0 _ rfl
            simp at f0
            clear hat
            have hz : (k : Int) < (n : Int) := by omega
            have hzz : (0 : Int) ≤ (k : Int) := by omega
            by_cases he : xout[k]'(by have := hn'.out; omega) = yout[k]'(by have := hn2'.out; omega)
            · have ht := Hd.mk (take_eq hall.out (by have := hn'.out; omega) (by have := hn2'.out; omega) he)
              generalize xout[k]'_ = x at *
              subst he
              go_wp2
              go_quiet (fail)
              go_wp2
              go_roundw
              case rel => exact ⟨k + 1, by omega, by go_num, ht, ⟨pw_drewN hbr0.out _⟩⟩
              case measure => simp [intOf]; omega
            · have hne := Hd.mk (el_ne _ _ he)
              have hv : RR = false := by rw [← hRR'.out, decide_eq_false hne.out]
              subst hv
              have d := bneT he
              generalize xout[k]'_ = x at *
              generalize yout[k]'_ = y at *
              clear he
              go_wp2
              go_quiet (fail)
              go_wp2
              go_ret
              exact ⟨by simp, pw_drewN hbr.out _⟩
          · have e : k = n := by omega
            subst e
            have hv : RR = true := by rw [← hRR'.out, decide_eq_true (take_all hall.out hn'.out hn2'.out)]
            subst hv
            go_wp2
            go_ret
            exact ⟨by simp, hbr.out⟩
end Go.Proofs.YtkcgejbnhpccdaaGreat
