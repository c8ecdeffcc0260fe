import Derived.Test.YtkcgejbnhpccdaaGreatT10
import Derived.Test.YtkcgejbnhpccdaaGreatT17
import Derived.Maps.AppendAt
import Derived.Laws.CopyOwn
import Derived.Test.YtkcgejbnhpccdaaGreatT03
set_option linter.unusedSimpArgs false
set_option linter.unusedVariables false
namespace Go.Proofs.YtkcgejbnhpccdaaGreat
open Go.RowKit
structure Off (g gm : Nat) (o : Option Nat) (w w' : World) : Prop where
  os : w'.os = w.os
  tape : w'.tape = w.tape
  output : w'.output = w.output
  size : w.heap.size ≤ w'.heap.size
  block : ∀ b, b < w.heap.size → b ≠ g → b ≠ gm → o ≠ some b → w'.heap[b]? = w.heap[b]?
def Nxt (w : World) (o o' : Option Nat) : Prop := o' = o ∨ ∀ b, o' = some b → w.heap.size ≤ b
theorem Off.refl (g gm : Nat) (o : Option Nat) (w : World) : Off g gm o w w := ⟨rfl, rfl, rfl, Nat.le_refl _, fun _ _ _ _ _ => rfl⟩
theorem Off.of {g gm : Nat} {o : Option Nat} {w w' : World} (h : Below w.heap.size w w') : Off g gm o w w' := ⟨h.os, h.tape, h.output, h.size, fun b hb _ _ _ => h.block b hb⟩
theorem Off.trans {g gm : Nat} {o o' : Option Nat} {a b c : World} (h : Off g gm o a b) (hn : Nxt a o o') (k : Off g gm o' b c) : Off g gm o a c :=
  ⟨k.os.trans h.os, k.tape.trans h.tape, k.output.trans h.output, Nat.le_trans h.size k.size, fun i hi h1 h2 h3 => (k.block i (Nat.lt_of_lt_of_le hi h.size) h1 h2 (by
    rcases hn with rfl | hn
    · exact h3
    · exact fun e => by have := hn i e; omega)).trans (h.block i hi h1 h2 h3)⟩
theorem Off.then {g gm : Nat} {o : Option Nat} {a b c : World} (h : Off g gm o a b) (k : Below b.heap.size b c) : Off g gm o a c := h.trans (.inl rfl) (.of k)
theorem Off.drew {g gm : Nat} {o : Option Nat} {a b : World} (h : Off g gm o a b) : Off g gm o a b.drew := ⟨h.os, h.tape, h.output, h.size, h.block⟩
theorem Off.drewN {g gm : Nat} {o : Option Nat} {a b : World} (h : Off g gm o a b) (n : Nat) : Off g gm o a (b.drewN n) := ⟨h.os, h.tape, h.output, h.size, h.block⟩
theorem Nxt.trans {a b : World} {o o' o'' : Option Nat} (h : Nxt a o o') (hs : a.heap.size ≤ b.heap.size) (k : Nxt b o' o'') : Nxt a o o'' := by
  rcases k with rfl | k
  · exact h
  · exact .inr fun i hi => Nat.le_trans hs (k i hi)
theorem Nxt.refl (w : World) (o : Option Nat) : Nxt w o o := .inl rfl
theorem Off.set {g gm b j : Nat} {o : Option Nat} {a w : World} (h : Off g gm o a w) (hb : b = g ∨ b = gm) (u : Value) : Off g gm o a (w.setCell ⟨b, j, none⟩ u) :=
  ⟨h.os, h.tape, h.output, by rw [setCell_size]; exact h.size, fun i hi h1 h2 h3 => (Below.heap_setCell w ⟨b, j, none⟩ u i (by show i ≠ b; rcases hb with rfl | rfl <;> assumption)).trans (h.block i hi h1 h2 h3)⟩
theorem Off.below {g gm B : Nat} {o : Option Nat} {w w' : World} (h : Off g gm o w w') (h1 : B ≤ g) (h2 : B ≤ gm) (h3 : ∀ b, o = some b → B ≤ b) (hB : B ≤ w.heap.size) : Below B w w' :=
  ⟨h.os, h.tape, h.output, h.size, fun b hb => h.block b (by omega) (by omega) (by omega) (fun e => by have := h3 b e; omega)⟩
theorem Off.setNew {g gm b j : Nat} {o : Option Nat} {a w : World} (h : Off g gm o a w) (hb : a.heap.size ≤ b) (u : Value) : Off g gm o a (w.setCell ⟨b, j, none⟩ u) :=
  ⟨h.os, h.tape, h.output, by rw [setCell_size]; exact h.size, fun i hi h1 h2 h3 => (Below.heap_setCell w ⟨b, j, none⟩ u i (by show i ≠ b; omega)).trans (h.block i hi h1 h2 h3)⟩
theorem Off.grown {g gm : Nat} {o r : Option Nat} {a w w' : World} (h : Off g gm o a w) (hg : w.grownBy w' r) (hr : ∀ b, r = some b → b = g ∨ b = gm ∨ o = some b ∨ a.heap.size ≤ b) : Off g gm o a w' :=
  ⟨hg.os.trans h.os, hg.tape.trans h.tape, hg.output.trans h.output, Nat.le_trans h.size hg.size, fun i hi h1 h2 h3 => (hg.block i (Nat.lt_of_lt_of_le hi h.size) (fun e => by
    rcases hr i e.symm with h | h | h | h
    · exact h1 h
    · exact h2 h
    · exact h3 h
    · omega)).trans (h.block i hi h1 h2 h3)⟩
theorem step_app_at {ops : Array Oper} {o : Oper} {a : Act} {W : World} {K : Act → World → Prop} {Q : Exit → Act → World → Prop} {E : Prop} (hgd : o.guard = none) (s x : Operand)
    (ho : o.op = .call { callee := .builtin .append, args := #[s, x], argTypes := #[24, 24] }) (base : Nat) (v : Value) (xs ys : List Int) (hs : a.eval s = v)
    (hown : W.ownsRow base 2 1 v xs.length (xs.map (Value.int .i64))) (ad : Addr) (n c : Nat) (hx : a.eval x = .slice (some ad) n c) (hr : RI lm W (.slice (some ad) n c) ys) (hl : xs.length ≤ 1099511627776) (hb : base ≤ W.heap.size)
    (hK : ∀ v' w', w'.ownsRow base 2 1 v' (xs ++ ys).length ((xs ++ ys).map (Value.int .i64)) → W.grownBy w' v.ownBlock → (v'.ownBlock = v.ownBlock ∨ v'.ownBlock = some W.heap.size) → K (a.put o.dst v') w') :
    if Region.wanted o (yielded ops a.tmps) = true then Oper.wp Tryz.prog o a W K Q else E := by
  have hw : Region.wanted o (yielded ops a.tmps) = true := by simp [Region.wanted, hgd]
  rw [if_pos hw]
  obtain ⟨i0, hi, hz0, hz1, hz2⟩ := info_parts infoI
  obtain ⟨rfl, hle, hn, hsrc⟩ := hr.src
  obtain ⟨v', w', hrun, r1, r2, _, r4⟩ := run_append_own_at (P := Tryz.prog) W base 24 o.type 2 i0 (.int .i64 0) 1 8 Tryz.underlying24 hi hz0 hz1 hz2 rfl (by decide) v xs.length _ hown ad ys.length c (ys.map (Value.int .i64)) (by simp) (hsrc ad rfl) (by simp [Value.oneCell']) (by unfold maxLen; omega) (by omega) hb
  unfold Oper.wp
  simp [execOp, ho, resolve, invoke, builtin, hs, hx, hrun, Result.andThen]
  exact hK v' w' (by simpa using r1) r2 r4
theorem app_at {ops : Array Oper} {rest : List Oper} {o : Oper} {a : Act} {Q : Exit → Act → World → Prop} {W : World} (hgd : o.guard = none) (s x : Operand)
    (ho : o.op = .call { callee := .builtin .append, args := #[s, x], argTypes := #[24, 24] }) (base : Nat) (v : Value) (xs ys : List Int) (hs : a.eval s = v)
    (hown : W.ownsRow base 2 1 v xs.length (xs.map (Value.int .i64))) (ad : Addr) (n c : Nat) (hx : a.eval x = .slice (some ad) n c) (hr : RI lm W (.slice (some ad) n c) ys) (hl : xs.length ≤ 1099511627776) (hb : base ≤ W.heap.size)
    (hK : ∀ v' w', w'.ownsRow base 2 1 v' (xs ++ ys).length ((xs ++ ys).map (Value.int .i64)) → W.grownBy w' v.ownBlock → (v'.ownBlock = v.ownBlock ∨ v'.ownBlock = some W.heap.size) → wpList Tryz.prog ops Q rest (a.put o.dst v') w') : wpList Tryz.prog ops Q (o :: rest) a W := by
  refine wpList_plain hgd fun K hK' => ?_
  obtain ⟨i0, hi, hz0, hz1, hz2⟩ := info_parts infoI
  obtain ⟨rfl, hle, hn, hsrc⟩ := hr.src
  obtain ⟨v', w', hrun, r1, r2, _, r4⟩ := run_append_own_at (P := Tryz.prog) W base 24 o.type 2 i0 (.int .i64 0) 1 8 Tryz.underlying24 hi hz0 hz1 hz2 rfl (by decide) v xs.length _ hown ad ys.length c (ys.map (Value.int .i64)) (by simp) (hsrc ad rfl) (by simp [Value.oneCell']) (by unfold maxLen; omega) (by omega) hb
  unfold Oper.wp
  simp [execOp, ho, resolve, invoke, builtin, hs, hx, hrun, Result.andThen]
  exact hK' _ _ (hK v' w' (by simpa using r1) r2 r4)
theorem own_offb {W W' : World} {lo b e sz n : Nat} {v : Value} {cs : List Value} (h : W.ownsRow lo e sz v n cs) (hb : Off b b none W W') (hl : b < lo) : W'.ownsRow lo e sz v n cs := by
  refine ⟨h.1, ?_⟩
  rcases h.2 with h' | ⟨g, cap, cur, hv, h1, h2, h3⟩
  · exact .inl h'
  · exact .inr ⟨g, cap, cur, hv, h1, (hb.block g (Array.getElem?_eq_some_iff.1 h2).1 (by omega) (by omega) (by simp)).trans h2, h3⟩
structure Asd (g gm : Nat) (o : Option Nat) (b : Nat) (w : World) : Prop where
  lt : b < w.heap.size
  g : b ≠ g
  gm : b ≠ gm
  o : o ≠ some b
theorem Off.at {g gm b : Nat} {o : Option Nat} {w w' : World} (h : Off g gm o w w') (ha : Asd g gm o b w) : w'.heap[b]? = w.heap[b]? := h.block b ha.lt ha.g ha.gm ha.o
theorem Off.cell {g gm b : Nat} {o : Option Nat} {w w' : World} (h : Off g gm o w w') (ha : Asd g gm o b w) (j : Nat) : w'.cell? ⟨b, j, none⟩ = w.cell? ⟨b, j, none⟩ := World.cell?_of_block (a := ⟨b, j, none⟩) (h.at ha)
theorem Asd.mv {g gm b : Nat} {o o' : Option Nat} {w w' : World} (ha : Asd g gm o b w) (hs : w.heap.size ≤ w'.heap.size) (hn : Nxt w o o') : Asd g gm o' b w' :=
  ⟨Nat.lt_of_lt_of_le ha.lt hs, ha.g, ha.gm, by
    rcases hn with rfl | hn
    · exact ha.o
    · exact fun e => by have := hn b e; have := ha.lt; omega⟩
def SI (mv : Value) (fuel : Nat) (g gm lo : Nat) (d : Int) (s : RS) (A : Option Addr) (c : Nat) (W : World) : Prop := ∃ cm,
  W.heap[g]? = some (.cells #[mv, .slice (some ⟨gm, 0, none⟩) 32 cm, .slice A s.out.length c, .int .i64 fuel, .int .i64 s.steps, .int .i64 d] 103 (0, 0)) ∧
  ByR W gm s.mem ∧ W.ownsRow lo 2 1 (.slice A s.out.length c) s.out.length (s.out.map (Value.int .i64)) ∧ g < lo ∧ gm < lo ∧ lo ≤ W.heap.size ∧ g ≠ gm
abbrev blk (A : Option Addr) : Option Nat := A.map (·.block)
theorem blk_eq (A : Option Addr) (n c : Nat) : (Value.slice A n c).ownBlock = blk A := by cases A <;> rfl
theorem SI.mv {mv : Value} {fuel g gm lo : Nat} {d : Int} {s : RS} {A : Option Addr} {c : Nat} {W W' : World} (h : SI mv fuel g gm lo d s A c W) (hb : Below W.heap.size W W') : SI mv fuel g gm lo d s A c W' := by
  obtain ⟨cm, h1, h2, h3, i1, i2, i3, h4⟩ := h
  exact ⟨cm, (hb.block g (Array.getElem?_eq_some_iff.1 h1).1).trans h1, h2.mv (hb.block gm h2.lt), own_mv h3 hb, i1, i2, Nat.le_trans i3 hb.size, h4⟩
theorem SI.drew {mv : Value} {fuel g gm lo : Nat} {d : Int} {s : RS} {A : Option Addr} {c : Nat} {W : World} (h : SI mv fuel g gm lo d s A c W) : SI mv fuel g gm lo d s A c W.drew := h
theorem SI.drewN {mv : Value} {fuel g gm lo : Nat} {d : Int} {s : RS} {A : Option Addr} {c : Nat} {W : World} (h : SI mv fuel g gm lo d s A c W) (n : Nat) : SI mv fuel g gm lo d s A c (W.drewN n) := h
theorem SI.blk {mv : Value} {fuel g gm lo : Nat} {d : Int} {s : RS} {A : Option Addr} {c : Nat} {W : World} (h : SI mv fuel g gm lo d s A c W) : ∀ b, blk A = some b → lo ≤ b ∧ b < W.heap.size := by
  obtain ⟨cm, h1, h2, h3, i1, i2, i3, h4⟩ := h
  intro b hb
  have hk := own_block_ge h3
  refine ⟨hk b (by rw [blk_eq]; exact hb), ?_⟩
  rcases h3.2 with ⟨e, _⟩ | ⟨g', cap, cur, hv, hl, hx, h''⟩
  · injection e with e1 e2 e3; subst e1; cases hb
  · injection hv with e1 e2 e3; subst e1; cases hb; exact (Array.getElem?_eq_some_iff.1 hx).1
theorem SI.cells {mv : Value} {fuel g gm lo : Nat} {d : Int} {s : RS} {A : Option Addr} {c : Nat} {W : World} (h : SI mv fuel g gm lo d s A c W) : ∃ cm, W.cell? ⟨g, 0, none⟩ = some mv ∧ W.cell? ⟨g, 1, none⟩ = some (.slice (some ⟨gm, 0, none⟩) 32 cm) ∧ W.cell? ⟨g, 2, none⟩ = some (.slice A s.out.length c) ∧
    W.cell? ⟨g, 3, none⟩ = some (.int .i64 fuel) ∧ W.cell? ⟨g, 4, none⟩ = some (.int .i64 s.steps) ∧ W.cell? ⟨g, 5, none⟩ = some (.int .i64 d) ∧ (∀ j, W.frozen? ⟨g, j, none⟩ = false) ∧ g < W.heap.size ∧ gm < W.heap.size ∧ g ≠ gm := by
  obtain ⟨cm, h1, h2, h3, i1, i2, i3, h4⟩ := h
  obtain ⟨c0, f0⟩ := row_facts h1
  exact ⟨cm, c0 0, c0 1, c0 2, c0 3, c0 4, c0 5, f0, (Array.getElem?_eq_some_iff.1 h1).1, h2.lt, h4⟩
theorem SI.setSteps {mv : Value} {fuel g gm lo : Nat} {d : Int} {s : RS} {A : Option Addr} {c : Nat} {W : World} (h : SI mv fuel g gm lo d s A c W) (k : Nat) : SI mv fuel g gm lo d ⟨s.mem, s.out, k⟩ A c (W.setCell ⟨g, 4, none⟩ (.int .i64 k)) := by
  obtain ⟨cm, h1, h2, h3, i1, i2, i3, h4⟩ := h
  exact ⟨cm, by simpa using heap_set (j := 4) (u := .int .i64 k) h1, h2.mv (Below.heap_setCell _ _ _ _ h4.symm), own_far h3 i1, i1, i2, by rw [setCell_size]; exact i3, h4⟩
theorem SI.setDeep {mv : Value} {fuel g gm lo : Nat} {d : Int} {s : RS} {A : Option Addr} {c : Nat} {W : World} (h : SI mv fuel g gm lo d s A c W) (k : Int) : SI mv fuel g gm lo k s A c (W.setCell ⟨g, 5, none⟩ (.int .i64 k)) := by
  obtain ⟨cm, h1, h2, h3, i1, i2, i3, h4⟩ := h
  exact ⟨cm, by simpa using heap_set (j := 5) (u := .int .i64 k) h1, h2.mv (Below.heap_setCell _ _ _ _ h4.symm), own_far h3 i1, i1, i2, by rw [setCell_size]; exact i3, h4⟩
theorem SI.setMem {mv : Value} {fuel g gm lo : Nat} {d : Int} {s : RS} {A : Option Addr} {c : Nat} {W : World} (h : SI mv fuel g gm lo d s A c W) (k : Nat) (v : Int) : SI mv fuel g gm lo d ⟨s.mem.set k v, s.out, s.steps⟩ A c (W.setCell ⟨gm, k, none⟩ (.int .u8 v)) := by
  obtain ⟨cm, h1, h2, h3, i1, i2, i3, h4⟩ := h
  exact ⟨cm, heap_off h1 h4, h2.set k v, own_far h3 i2, i1, i2, by rw [setCell_size]; exact i3, h4⟩
theorem SI.setOff {mv : Value} {fuel g gm lo b j : Nat} {d : Int} {s : RS} {A : Option Addr} {c : Nat} {W : World} (h : SI mv fuel g gm lo d s A c W) (hb : Asd g gm (Go.Proofs.YtkcgejbnhpccdaaGreat.blk A) b W) (u : Value) : SI mv fuel g gm lo d s A c (W.setCell ⟨b, j, none⟩ u) := by
  obtain ⟨cm, h1, h2, h3, i1, i2, i3, h4⟩ := h
  refine ⟨cm, heap_off h1 hb.g.symm, h2.mv (Below.heap_setCell _ _ _ _ hb.gm.symm), ?_, i1, i2, by rw [setCell_size]; exact i3, h4⟩
  refine ⟨h3.1, ?_⟩
  rcases h3.2 with h' | ⟨g', cap, cur, hv, hl', hx, h''⟩
  · exact .inl h'
  · exact .inr ⟨g', cap, cur, hv, hl', heap_off hx (fun e => hb.o (by injection hv with e1 e2 e3; subst e1; rw [← e]; rfl)), h''⟩
theorem SI.setOut {mv v' : Value} {fuel g gm lo n : Nat} {d : Int} {s : RS} {A : Option Addr} {c : Nat} {W W' : World} {xs : List Int} (h : SI mv fuel g gm lo d s A c W) (hg : W.grownBy W' (Value.slice A s.out.length c).ownBlock) (h' : W'.ownsRow lo 2 1 v' n (xs.map (Value.int .i64))) (hn : n = xs.length) :
    ∃ A' c', v' = .slice A' xs.length c' ∧ SI mv fuel g gm lo d ⟨s.mem, xs, s.steps⟩ A' c' (W'.setCell ⟨g, 2, none⟩ v') := by
  subst hn
  obtain ⟨cm, h1, h2, h3, i1, i2, i3, h4⟩ := h
  have hk := own_block_ge h3
  have old : ∀ b, b < lo → b < W.heap.size → W'.heap[b]? = W.heap[b]? := fun b hb hw => hg.block b hw (fun e => by
    have := hk b (by first | exact e | exact e.symm)
    omega)
  obtain ⟨A2, c2, rfl, -, -⟩ := own_shape h'
  refine ⟨A2, c2, rfl, cm, ?_, ?_, own_far h' i1, i1, i2, by rw [setCell_size]; exact Nat.le_trans i3 hg.size, h4⟩
  · have := heap_set (j := 2) (u := .slice A2 xs.length c2) ((old g i1 (by omega)).trans h1)
    simpa using this
  · exact (h2.mv (old gm i2 (by omega))).mv (Below.heap_setCell _ _ _ _ (fun e => h4 e.symm))
def SteppedR (mv : Value) (fuel g gm lo : Nat) (d : Int) (s : RS) (A : Option Addr) (c : Nat) (w : World) (e : Ending) (w' : World) : Prop :=
  e = .returned (.bool (decide (s.steps ≠ fuel))) ∧ SI mv fuel g gm lo d (if s.steps = fuel then s else ⟨s.mem, s.out, s.steps + 1⟩) A c w' ∧ Off g gm (blk A) w w'
set_option maxRecDepth 20000 in
set_option maxHeartbeats 4000000 in
theorem c_stepR (mv : Value) (fuel g gm lo : Nat) (d : Int) (s : RS) (A : Option Addr) (c : Nat) (W : World) (h : SI mv fuel g gm lo d s A c W) (hf : fuel ≤ 2000) (hs : s.steps ≤ fuel) :
    Calls Tryz.prog 96 #[.pointer (some ⟨g, 0, none⟩)] W (SteppedR mv fuel g gm lo d s A c W) := by
  have h' := Hd.mk h
  obtain ⟨cm, k0, k1, k2, k3, k4, k5, kf, kg, kgm, kne⟩ := h.cells
  have f4 := kf 4
  clear h kf
  by_cases e : s.steps = fuel
  · have d1 : ((s.steps : Int) == (fuel : Int)) = true := by simp; omega
    have hv := Hd.mk (show decide (s.steps ≠ fuel) = false by simpa using e)
    have hp := Hd.mk e
    clear e
    go_enter Tryz.func96, Tryz.ntmps96
    go_wp2
    go_quiet (fail)
    go_wp2
    go_ret
    exact ⟨by rw [hv.out]; rfl, by rw [if_pos hp.out]; exact h'.out.drewN _, (Off.refl _ _ _ _).drewN _⟩
  · have d1 : ((s.steps : Int) == (fuel : Int)) = false := by simp; omega
    have hv := Hd.mk (show decide (s.steps ≠ fuel) = true by simpa using e)
    have hp := Hd.mk e
    have ew : IntKind.i64.wrap ((s.steps : Int) + 1) = ((s.steps + 1 : Nat) : Int) := by rw [IntWalk.i64_in _ (by omega)]; simp
    have ew' := ew
    simp only [Int.natCast_add, Int.cast_ofNat_Int] at ew'
    clear e
    go_enter Tryz.func96, Tryz.ntmps96
    go_wp2
    go_quiet (fail)
    go_wp2
    have hst := Hd.mk ((h'.out.drewN nq).setSteps (s.steps + 1))
    have hof : Hd (Off g gm (blk A) W ((W.drewN nq).setCell ⟨g, 4, none⟩ (.int .i64 ((s.steps + 1 : Nat) : Int)))) := ⟨((Off.refl _ _ _ _).drewN _).set (.inl rfl) _⟩
    go_ret
    exact ⟨by rw [hv.out]; rfl, by rw [if_neg hp.out]; exact hst.out, hof.out⟩
theorem first_le (f : XFunc) (b : Nat) (hb : b < f.blocks.length) : firstOf f b + f.blocks[b].phis.length + f.blocks[b].insts.length ≤ countOf f := by
  have h1 := countIn_snoc f.params.length f.blocks b hb
  have h2 : ∀ (n : Int) (l : List XBlock), n ≤ countIn n l := by
    intro n l
    unfold countIn
    have : 0 ≤ (l.map sizeB).sum := by
      induction l with
      | nil => simp
      | cons b l ih => have := sizeB_nn b; simp only [List.map_cons, List.sum_cons]; omega
    omega
  have h3 : countOf f = countIn (countIn f.params.length (f.blocks.take (b + 1))) (f.blocks.drop (b + 1)) := by
    unfold countOf countIn
    rw [Int.add_assoc, ← List.sum_append, ← List.map_append, List.take_append_drop]
  have h4 := h2 (countIn f.params.length (f.blocks.take (b + 1))) (f.blocks.drop (b + 1))
  unfold firstOf
  rw [Int.toNat_natCast]
  unfold sizeB at h1
  omega
theorem idx_mem (x : Int) : ∀ l : List Int, x ∈ l → ∃ k : Nat, k < l.length ∧ idx (fun y => x == y) l = k
  | [], h => by cases h
  | y :: r, h => by
    unfold idx
    by_cases e : x = y
    · exact ⟨0, by simp, by simp [e]⟩
    · obtain ⟨k, hk, hi⟩ := idx_mem x r (by rcases List.mem_cons.1 h with h | h; exact absurd h e; exact h)
      refine ⟨k + 1, by simp; omega, ?_⟩
      rw [if_neg (by simpa using e), hi, if_neg (by omega)]; rfl
theorem putAt_splice (r : List Int) : ∀ (l : List Int) (k : Nat), k + r.length ≤ l.length → putAt l k r = splice l k r := by
  induction r with
  | nil => intro l k h; simp [putAt, splice]
  | cons x r ih =>
    intro l k h
    simp only [List.length_cons] at h
    rw [putAt, ih _ _ (by simp; omega)]
    unfold splice
    rw [List.take_set, List.take_succ_eq_append_getElem (by omega), List.set_append_right _ _ (by simp; omega)]
    simp only [List.length_take, Nat.min_eq_left (show k ≤ l.length by omega), Nat.sub_self, List.set_cons_zero, List.append_assoc, List.cons_append, List.nil_append, List.length_cons]
    rw [List.drop_set_of_lt (by omega), show k + 1 + r.length = k + (r.length + 1) by omega]
theorem map_splice {α β : Type} (g : α → β) (l r : List α) (k : Nat) : (splice l k r).map g = splice (l.map g) k (r.map g) := by simp [splice]
theorem copy_I {w : World} {ops : Array Oper} {rest : List Oper} {o : Oper} {a : Act} {Q : Exit → Act → World → Prop} (hgd : o.guard = none) (d s : Operand)
    (ho : o.op = .call { callee := .builtin .copy, args := #[d, s], argTypes := #[24, 24] }) (dp : Option Addr) (dLen dCap : Nat) (hd : a.eval d = .slice dp dLen dCap) (A : Option Addr) (n c : Nat) (hs : a.eval s = .slice A n c)
    (ys : List Int) (hr : RI lm w (.slice A n c) ys) (g off : Nat) (vals : List Int) (hg : w.heap[g]? = some (.cells (vals.map (Value.int .i64)).toArray 2 (0, 0))) (hle : ys.length ≤ dLen) (hpos : 0 < ys.length → dp = some ⟨g, off, none⟩) (hfit : off + ys.length ≤ vals.length)
    (h : ∀ w', Hd (w'.heap[g]? = some (.cells ((putAt vals off ys).map (Value.int .i64)).toArray 2 (0, 0))) → Hd (Off g g none w w') → wpList Tryz.prog ops Q rest (a.put o.dst (goInt ys.length)) w') : wpList Tryz.prog ops Q (o :: rest) a w := by
  obtain ⟨rfl, hl, hn, hsrc⟩ := hr.src
  have hsz : (Tryz.prog.info? 2).map (·.size) = some 1 := by
    have := infoI
    cases hq : Tryz.prog.info? 2 with
    | none => rw [hq] at this; cases this
    | some i => rw [hq] at this; simp at this; simp [this]
  rw [putAt_splice ys vals off hfit, map_splice] at h
  by_cases h0 : ys.length = 0
  · obtain rfl : ys = [] := List.eq_nil_of_length_eq_zero h0
    refine wpList_copy_nothing hgd d s 24 24 ho 2 Tryz.underlying24 hsz dp A dLen dCap 0 c hd hs (by simp) ?_
    exact h w ⟨by simpa [splice] using hg⟩ ⟨Off.refl _ _ _ _⟩
  · obtain rfl := hpos (by omega)
    cases A with
    | none => exact absurd (hn rfl) (by rintro rfl; exact h0 rfl)
    | some ad =>
      have hm : (ys.map (Value.int .i64)).length = Nat.min ys.length dLen := by rw [List.length_map]; exact (Nat.min_eq_left hle).symm
      refine wpList_copy_own hgd d s 24 24 ho 2 Tryz.underlying24 hsz g off dLen dCap ad ys.length c hd hs _ 2 hg (ys.map (Value.int .i64)) hm (hsrc ad rfl) (by simpa using hfit) (by simp [Value.oneCell']) ?_
      have := h (w.setRow g (splice (vals.map (Value.int .i64)) off (ys.map (Value.int .i64))).toArray) ⟨setRow_heap w g _ _ _ _ hg⟩ ⟨⟨rfl, rfl, rfl, by simp [World.setRow], fun b hb h1 _ _ => setRow_other w g b _ h1⟩⟩
      simpa [splice] using this
def FR (pv bv : Value) (ret : Int) (gx gv n : Nat) (vals : List Int) (W : World) : Prop :=
  W.heap[gx]? = some (.cells #[pv, .int .i64 ret, bv, .slice (some ⟨gv, 0, none⟩) n n] 127 (0, 0)) ∧ W.heap[gv]? = some (.cells (vals.map (Value.int .i64)).toArray 2 (0, 0)) ∧ gx ≠ gv
theorem FR.mv {pv bv : Value} {ret : Int} {gx gv n : Nat} {vals : List Int} {W W' : World} (h : FR pv bv ret gx gv n vals W) (hb : Below W.heap.size W W') : FR pv bv ret gx gv n vals W' :=
  ⟨(hb.block gx (Array.getElem?_eq_some_iff.1 h.1).1).trans h.1, (hb.block gv (Array.getElem?_eq_some_iff.1 h.2.1).1).trans h.2.1, h.2.2⟩
theorem FR.off {pv bv : Value} {ret : Int} {gx gv n g gm : Nat} {o : Option Nat} {vals : List Int} {W W' : World} (h : FR pv bv ret gx gv n vals W) (hb : Off g gm o W W') (hx : Asd g gm o gx W) (hv : Asd g gm o gv W) : FR pv bv ret gx gv n vals W' :=
  ⟨(hb.at hx).trans h.1, (hb.at hv).trans h.2.1, h.2.2⟩
theorem FR.drewN {pv bv : Value} {ret : Int} {gx gv n : Nat} {vals : List Int} {W : World} (h : FR pv bv ret gx gv n vals W) (k : Nat) : FR pv bv ret gx gv n vals (W.drewN k) := h
theorem FR.drew {pv bv : Value} {ret : Int} {gx gv n : Nat} {vals : List Int} {W : World} (h : FR pv bv ret gx gv n vals W) : FR pv bv ret gx gv n vals W.drew := h
theorem FR.cells {pv bv : Value} {ret : Int} {gx gv n : Nat} {vals : List Int} {W : World} (h : FR pv bv ret gx gv n vals W) : W.cell? ⟨gx, 0, none⟩ = some pv ∧ W.cell? ⟨gx, 1, none⟩ = some (.int .i64 ret) ∧ W.cell? ⟨gx, 2, none⟩ = some bv ∧ W.cell? ⟨gx, 3, none⟩ = some (.slice (some ⟨gv, 0, none⟩) n n) ∧ gx < W.heap.size ∧ gv < W.heap.size := by
  obtain ⟨c0, -⟩ := row_facts h.1
  exact ⟨c0 0, c0 1, c0 2, c0 3, (Array.getElem?_eq_some_iff.1 h.1).1, (Array.getElem?_eq_some_iff.1 h.2.1).1⟩
theorem FR.val {pv bv : Value} {ret : Int} {gx gv n : Nat} {vals : List Int} {W : World} (h : FR pv bv ret gx gv n vals W) (k : Int) (h0 : 0 ≤ k) (h1 : k < vals.length) : W.cell? ⟨gv, k.toNat, none⟩ = some (.int .i64 (vl vals k)) ∧ W.frozen? ⟨gv, k.toNat, none⟩ = false := by
  obtain ⟨c0, f0⟩ := row_facts h.2.1
  refine ⟨?_, f0 _⟩
  rw [c0, List.getElem?_toArray, List.getElem?_map]
  unfold vl
  rw [List.getElem?_eq_getElem (by omega), List.getD_eq_getElem?_getD, List.getElem?_eq_getElem (by omega)]; rfl
theorem FR.set {pv bv : Value} {ret : Int} {gx gv n : Nat} {vals : List Int} {W : World} (h : FR pv bv ret gx gv n vals W) (k : Nat) (v : Int) : FR pv bv ret gx gv n (vals.set k v) (W.setCell ⟨gv, k, none⟩ (.int .i64 v)) := by
  refine ⟨heap_off h.1 h.2.2, ?_, h.2.2⟩
  have := heap_set (j := k) (u := .int .i64 v) h.2.1
  simpa [List.map_set] using this
theorem SI.far {mv : Value} {fuel g gm lo gv : Nat} {d : Int} {s : RS} {A : Option Addr} {c : Nat} {W W' : World} (h : SI mv fuel g gm lo d s A c W) (hb : Off gv gv none W W') (hv : Asd g gm (Go.Proofs.YtkcgejbnhpccdaaGreat.blk A) gv W) : SI mv fuel g gm lo d s A c W' := by
  obtain ⟨cm, h1, h2, h3, i1, i2, i3, h4⟩ := h
  refine ⟨cm, (hb.block g (Array.getElem?_eq_some_iff.1 h1).1 hv.g.symm hv.g.symm (by simp)).trans h1, h2.mv (hb.block gm h2.lt hv.gm.symm hv.gm.symm (by simp)), ?_, i1, i2, Nat.le_trans i3 hb.size, h4⟩
  refine ⟨h3.1, ?_⟩
  rcases h3.2 with h' | ⟨g', cap, cur, hv', hl', hx, h''⟩
  · exact .inl h'
  · have hne : g' ≠ gv := fun e => hv.o (by injection hv' with e1 e2 e3; subst e1; rw [← e]; rfl)
    exact .inr ⟨g', cap, cur, hv', hl', (hb.block g' (Array.getElem?_eq_some_iff.1 hx).1 hne hne (by simp)).trans hx, h''⟩
structure Chg (lo hi : Nat) (w w' : World) : Prop where
  below : Below lo w w'
  out : ∀ (b : Nat), b < w.heap.size → b < lo ∨ hi ≤ b → w'.heap[b]? = w.heap[b]?
  cell : ∀ (b : Nat) (arr : Array Value) (e : TypeId), w.heap[b]? = some (Obj.cells arr e (0, 0)) → ∃ arr' : Array Value, w'.heap[b]? = some (.cells arr' e (0, 0)) ∧ ∀ (o : Nat) (u : Value), arr[o]? = some u → arr'[o]? = some u ∨ ((∃ i, u = .int .i64 i) ∧ ∃ i, arr'[o]? = some (.int .i64 i))
theorem Chg.size {lo hi : Nat} {w w' : World} (h : Chg lo hi w w') : w.heap.size ≤ w'.heap.size := h.below.size
theorem Chg.refl (lo hi : Nat) (w : World) : Chg lo hi w w := ⟨Below.refl _ _, fun _ _ _ => rfl, fun _ arr _ h => ⟨arr, h, fun _ _ h => .inl h⟩⟩
theorem Chg.trans {lo hi : Nat} {a b c : World} (h : Chg lo hi a b) (k : Chg lo hi b c) : Chg lo hi a c := by
  refine ⟨h.below.trans k.below, fun i h1 h2 => (k.out i (Nat.lt_of_lt_of_le h1 h.size) h2).trans (h.out i h1 h2), fun i arr e h1 => ?_⟩
  obtain ⟨arr1, h2, h3⟩ := h.cell i arr e h1
  obtain ⟨arr2, h4, h5⟩ := k.cell i arr1 e h2
  refine ⟨arr2, h4, fun o u hu => ?_⟩
  rcases h3 o u hu with h6 | ⟨h6, i', h7⟩
  · exact h5 o u h6
  · rcases h5 o _ h7 with h8 | ⟨-, h8⟩
    · exact .inr ⟨h6, i', h8⟩
    · exact .inr ⟨h6, h8⟩
theorem Chg.of_below {lo hi : Nat} {w w' : World} (hlo : lo ≤ w.heap.size) (h : Below w.heap.size w w') : Chg lo hi w w' :=
  ⟨h.mono hlo, fun b h1 _ => h.block b h1, fun b arr e h1 => ⟨arr, (h.block b (Array.getElem?_eq_some_iff.1 h1).1).trans h1, fun _ _ h => .inl h⟩⟩
theorem Chg.alloc {lo hi : Nat} {a w : World} (h : Chg lo hi a w) (hlo : lo ≤ w.heap.size) (o : Obj) : Chg lo hi a (w.alloc o) := h.trans (.of_below hlo ((Below.refl _ _).al (Nat.le_refl _) o))
theorem Chg.drew {lo hi : Nat} {a w : World} (h : Chg lo hi a w) : Chg lo hi a w.drew := ⟨h.below.drew, h.out, h.cell⟩
theorem Chg.setCell {lo hi : Nat} {w : World} {b e o : Nat} {arr : Array Value} {i i' : Int} (h : w.heap[b]? = some (.cells arr e (0, 0))) (hb : lo ≤ b ∧ b < hi) (ho : arr[o]? = some (.int .i64 i)) : Chg lo hi w (w.setCell ⟨b, o, none⟩ (.int .i64 i')) := by
  refine ⟨(Below.refl _ _).setCell (p := ⟨b, o, none⟩) hb.1 _, fun g _ hg => Below.heap_setCell w ⟨b, o, none⟩ _ g (by simp; omega), fun g arr1 e1 h1 => ?_⟩
  by_cases hg : g = b
  · subst hg
    obtain ⟨rfl, rfl⟩ : arr1 = arr ∧ e1 = e := by rw [h] at h1; cases h1; exact ⟨rfl, rfl⟩
    refine ⟨_, heap_set h, fun j u hu => ?_⟩
    by_cases hj : j = o
    · subst hj
      rw [ho] at hu
      cases hu
      exact .inr ⟨⟨_, rfl⟩, _, by rw [Array.getElem?_setIfInBounds]; simp [(Array.getElem?_eq_some_iff.1 ho).1]; rfl⟩
    · exact .inl (by rw [Array.getElem?_setIfInBounds, if_neg (fun h => hj h.symm)]; exact hu)
  · exact ⟨arr1, heap_off h1 hg, fun _ _ h => .inl h⟩
def Sl {α : Type} (lo hi sz : Nat) (K : World → α → List Value → Prop) (w : World) (v : Value) (xs : List α) : Prop :=
  ∃ A c, v = .slice A xs.length c ∧ xs.length ≤ c ∧ xs.length ≤ lm ∧ (0 < xs.length → ∃ (b : Nat) (arr : Array Value) (e : TypeId), A = some ⟨b, 0, none⟩ ∧ lo ≤ b ∧ b < hi ∧ w.heap[b]? = some (.cells arr e (0, 0)) ∧ ∀ i (h : i < xs.length), ∃ cs, K w xs[i] cs ∧ cs.length = sz ∧ ∀ j u, cs[j]? = some u → arr[i * sz + j]? = some u)
class KC {α : Type} (K : World → α → List Value → Prop) : Prop where
  mv : ∀ {w w' : World} {lo hi : Nat} {x : α} {cs cs' : List Value}, K w x cs → Chg lo hi w w' → cs'.length = cs.length → (∀ (j : Nat) (u : Value), cs[j]? = some u → cs'[j]? = some u ∨ ((∃ i, u = .int .i64 i) ∧ ∃ i, cs'[j]? = some (.int .i64 i))) → K w' x cs'
theorem Sl.mv {α : Type} {lo hi sz l' h' : Nat} {K : World → α → List Value → Prop} [KC K] {w w' : World} {v : Value} {xs : List α} (h : Sl lo hi sz K w v xs) (hc : Chg l' h' w w') : Sl lo hi sz K w' v xs := by
  obtain ⟨A, c, rfl, hcc, hl, h1⟩ := h
  refine ⟨A, c, rfl, hcc, hl, fun h0 => ?_⟩
  obtain ⟨b, arr, e, rfl, hb1, hb2, hh, hat⟩ := h1 h0
  obtain ⟨arr', hh', har⟩ := hc.cell b arr e hh
  refine ⟨b, arr', e, rfl, hb1, hb2, hh', fun i hi => ?_⟩
  obtain ⟨cs, hk, hcl, hcs⟩ := hat i hi
  have hget : ∀ j, j < sz → ∃ u, arr'[i * sz + j]? = some u ∧ ∀ q, cs[j]? = some q → u = q ∨ ((∃ i, q = .int .i64 i) ∧ ∃ i, u = .int .i64 i) := fun j hj => by
    have hq : cs[j]? = some cs[j] := List.getElem?_eq_getElem (by omega)
    rcases har _ _ (hcs j _ hq) with h2 | ⟨h2, i', h3⟩
    · exact ⟨_, h2, fun q hq' => by rw [hq] at hq'; cases hq'; exact .inl rfl⟩
    · exact ⟨_, h3, fun q hq' => by rw [hq] at hq'; cases hq'; exact .inr ⟨h2, _, rfl⟩⟩
  refine ⟨(List.range sz).map fun j => (arr'[i * sz + j]?).getD (.bool false), KC.mv hk hc (by simp [hcl]) (fun j u hu => ?_), by simp, fun j u hu => ?_⟩
  · have hj : j < sz := by have := (List.getElem?_eq_some_iff.1 hu).1; omega
    obtain ⟨u', h2, h3⟩ := hget j hj
    have e : ((List.range sz).map fun j => (arr'[i * sz + j]?).getD (.bool false))[j]? = some u' := by simp [hj, h2]
    rw [e]
    rcases h3 u hu with rfl | ⟨h4, i', rfl⟩
    · exact .inl rfl
    · exact .inr ⟨h4, _, rfl⟩
  · have hj : j < sz := by have := (List.getElem?_eq_some_iff.1 hu).1; simpa using this
    obtain ⟨u', h2, h3⟩ := hget j hj
    simp [hj, h2] at hu
    rw [h2, hu]
theorem Sl.sh {α : Type} {lo hi sz : Nat} {K : World → α → List Value → Prop} {w : World} {v : Value} {xs : List α} (h : Sl lo hi sz K w v xs) : ∃ A c, v = .slice A xs.length c ∧ xs.length ≤ c ∧ xs.length ≤ 1048576 ∧ Hd (Sl lo hi sz K w v xs) := by
  have h' := h
  obtain ⟨A, c, rfl, h1, h2, _⟩ := h
  exact ⟨A, c, rfl, h1, h2, ⟨h'⟩⟩
theorem Sl.at_ {α : Type} {lo hi sz : Nat} {K : World → α → List Value → Prop} {w : World} {A : Option Addr} {n c : Nat} {xs : List α} (h : Sl lo hi sz K w (.slice A n c) xs) (k : Nat) (hk : k < xs.length) :
    ∃ (b : Nat) (arr : Array Value) (e : TypeId) (cs : List Value), A = some ⟨b, 0, none⟩ ∧ lo ≤ b ∧ b < hi ∧ w.heap[b]? = some (.cells arr e (0, 0)) ∧ K w xs[k] cs ∧ cs.length = sz ∧ ∀ j u, cs[j]? = some u → arr[k * sz + j]? = some u := by
  obtain ⟨A', c', hv, hcc, hl, h1⟩ := h
  cases hv
  obtain ⟨b, arr, e, rfl, hb1, hb2, hh, hat⟩ := h1 (by omega)
  obtain ⟨cs, h2, h3, h4⟩ := hat k hk
  exact ⟨b, arr, e, cs, rfl, hb1, hb2, hh, h2, h3, h4⟩
def SInt (_ : World) (_ : Int) (cs : List Value) : Prop := ∃ i, cs = [.int .i64 i]
theorem int1 {cs' : List Value} {u : Value} {j : Nat} (h : cs'[j]? = some u ∨ ((∃ i, u = .int .i64 i) ∧ ∃ i, cs'[j]? = some (.int .i64 i))) (hu : ∃ i, u = .int .i64 i) : ∃ i, cs'[j]? = some (.int .i64 i) := by
  rcases h with h | h
  · obtain ⟨i, rfl⟩ := hu; exact ⟨i, h⟩
  · exact h.2
theorem fix1 {cs' : List Value} {u : Value} {j : Nat} (h : cs'[j]? = some u ∨ ((∃ i, u = .int .i64 i) ∧ ∃ i, cs'[j]? = some (.int .i64 i))) (hu : ∀ i, u ≠ .int .i64 i) : cs'[j]? = some u := by
  rcases h with h | ⟨⟨i, h⟩, _⟩
  · exact h
  · exact absurd h (hu i)
theorem cs1 {cs : List Value} {a : Value} (h : cs.length = 1) (h0 : cs[0]? = some a) : cs = [a] := by
  match cs, h with
  | [x], _ => simp at h0; rw [h0]
instance : KC SInt := ⟨fun ⟨i, h⟩ _ hl hc => by
  subst h
  obtain ⟨i', h'⟩ := int1 (hc 0 _ rfl) ⟨_, rfl⟩
  exact ⟨i', cs1 hl h'⟩⟩
abbrev SlI (lo hi : Nat) := Sl lo hi 1 SInt
def SPhi (lo hi : Nat) (w : World) (x : XPhi) (cs : List Value) : Prop := ∃ i v, cs = [.int .i64 i, v] ∧ SlI lo hi w v x.ins
theorem Sl.ne {α : Type} {lo hi sz : Nat} {K : World → α → List Value → Prop} {w : World} {v : Value} {xs : List α} (h : Sl lo hi sz K w v xs) (i : Int) : v ≠ .int .i64 i := by
  obtain ⟨A, c, rfl, _⟩ := h; simp
theorem cs2 {cs : List Value} {a b : Value} (h : cs.length = 2) (h0 : cs[0]? = some a) (h1 : cs[1]? = some b) : cs = [a, b] := by
  match cs, h with
  | [x, y], _ => simp at h0 h1; rw [h0, h1]
theorem cs6 {cs : List Value} {a b c d e f : Value} (h : cs.length = 6) (h0 : cs[0]? = some a) (h1 : cs[1]? = some b) (h2 : cs[2]? = some c) (h3 : cs[3]? = some d) (h4 : cs[4]? = some e) (h5 : cs[5]? = some f) : cs = [a, b, c, d, e, f] := by
  match cs, h with
  | [x1, x2, x3, x4, x5, x6], _ => simp at h0 h1 h2 h3 h4 h5; rw [h0, h1, h2, h3, h4, h5]
theorem cs7 {cs : List Value} {a b c d e f g : Value} (h : cs.length = 7) (h0 : cs[0]? = some a) (h1 : cs[1]? = some b) (h2 : cs[2]? = some c) (h3 : cs[3]? = some d) (h4 : cs[4]? = some e) (h5 : cs[5]? = some f) (h6 : cs[6]? = some g) : cs = [a, b, c, d, e, f, g] := by
  match cs, h with
  | [x1, x2, x3, x4, x5, x6, x7], _ => simp at h0 h1 h2 h3 h4 h5 h6; rw [h0, h1, h2, h3, h4, h5, h6]
instance {lo hi : Nat} : KC (SPhi lo hi) := ⟨fun ⟨i, v, h, r⟩ hch hl hc => by
  subst h
  obtain ⟨i', h0⟩ := int1 (hc 0 _ rfl) ⟨_, rfl⟩
  exact ⟨i', v, cs2 hl h0 (fix1 (hc 1 _ rfl) r.ne), r.mv hch⟩⟩
abbrev SlPhi (lo hi : Nat) := Sl lo hi 2 (SPhi lo hi)
def SInst (lo hi : Nat) (w : World) (x : XInst) (cs : List Value) : Prop := ∃ a b c d e f v, cs = [.int .i64 a, .int .i64 b, .int .i64 c, .int .i64 d, .int .i64 e, .int .i64 f, v] ∧ SlI lo hi w v x.args
instance {lo hi : Nat} : KC (SInst lo hi) := ⟨fun ⟨a, b, c, d, e, f, v, h, r⟩ hch hl hc => by
  subst h
  obtain ⟨i0, h0⟩ := int1 (hc 0 _ rfl) ⟨_, rfl⟩
  obtain ⟨i1, h1⟩ := int1 (hc 1 _ rfl) ⟨_, rfl⟩
  obtain ⟨i2, h2⟩ := int1 (hc 2 _ rfl) ⟨_, rfl⟩
  obtain ⟨i3, h3⟩ := int1 (hc 3 _ rfl) ⟨_, rfl⟩
  obtain ⟨i4, h4⟩ := int1 (hc 4 _ rfl) ⟨_, rfl⟩
  obtain ⟨i5, h5⟩ := int1 (hc 5 _ rfl) ⟨_, rfl⟩
  exact ⟨i0, i1, i2, i3, i4, i5, v, cs7 hl h0 h1 h2 h3 h4 h5 (fix1 (hc 6 _ rfl) r.ne), r.mv hch⟩⟩
abbrev SlInst (lo hi : Nat) := Sl lo hi 7 (SInst lo hi)
def SBlock (lo hi : Nat) (w : World) (x : XBlock) (cs : List Value) : Prop := ∃ v v' a b c d, cs = [v, v', .int .i64 a, .int .i64 b, .int .i64 c, .int .i64 d] ∧ SlPhi lo hi w v x.phis ∧ SlInst lo hi w v' x.insts
instance {lo hi : Nat} : KC (SBlock lo hi) := ⟨fun ⟨v, v', a, b, c, d, h, r, s⟩ hch hl hc => by
  subst h
  obtain ⟨i2, h2⟩ := int1 (hc 2 _ rfl) ⟨_, rfl⟩
  obtain ⟨i3, h3⟩ := int1 (hc 3 _ rfl) ⟨_, rfl⟩
  obtain ⟨i4, h4⟩ := int1 (hc 4 _ rfl) ⟨_, rfl⟩
  obtain ⟨i5, h5⟩ := int1 (hc 5 _ rfl) ⟨_, rfl⟩
  exact ⟨v, v', i2, i3, i4, i5, cs6 hl (fix1 (hc 0 _ rfl) r.ne) (fix1 (hc 1 _ rfl) s.ne) h2 h3 h4 h5, r.mv hch, s.mv hch⟩⟩
abbrev SlBlock (lo hi : Nat) := Sl lo hi 6 (SBlock lo hi)
def SFunc (lo hi : Nat) (w : World) (x : XFunc) (cs : List Value) : Prop := ∃ v i v', cs = [v, .int .i64 i, v'] ∧ SlI lo hi w v x.params ∧ SlBlock lo hi w v' x.blocks
end Go.Proofs.YtkcgejbnhpccdaaGreat
