import Derived.Test.YtkcgejbnhpccdaaGreatT07
import Derived.Test.YtkcgejbnhpccdaaGreatT08
import Derived.Orders
import Derived.Test.YtkcgejbnhpccdaaGreatT09
set_option linter.unusedSimpArgs false
set_option linter.unusedVariables false
namespace Go.Proofs.YtkcgejbnhpccdaaGreat
open Go.RowKit
structure RS where
  mem : List Int
  out : List Int
  steps : Nat
def putAt (l : List Int) (k : Nat) : List Int → List Int
  | [] => l
  | x :: r => putAt (l.set k x) (k + 1) r
theorem putAt_len (r : List Int) : ∀ (l : List Int) (k : Nat), (putAt l k r).length = l.length := by
  induction r with
  | nil => intro l k; rfl
  | cons x r ih => intro l k; rw [putAt, ih]; simp
def vl (vals : List Int) (k : Int) : Int := vals.getD k.toNat 0
abbrev Callee := Int → List Int → RS → (Int × Int) × RS
def doI (call : Callee) (f : XFunc) (i : XInst) (vals : List Int) (s : RS) : (Int × Int) × RS :=
  if bin i.op then (if (binV i.op i.w (vl vals i.a) (vl vals i.b)).2 = 0 then (((binV i.op i.w (vl vals i.a) (vl vals i.b)).1, 0), s) else ((0, 1), s))
  else if cst i.op then (((castV i.op (typeOf f i.a) i.w (vl vals i.a)).1, 0), s)
  else if i.op = 21 then ((i.imm, 0), s)
  else if i.op = 22 then ((if vl vals i.a = 1 then vl vals i.b else vl vals i.c, 0), s)
  else if i.op = 27 then ((vl vals i.a, 0), s)
  else if i.op = 26 then call i.imm (i.args.map (vl vals)) s
  else if i.op = 25 then (if s.out.length = 30 then ((0, 7), s) else ((0, 0), ⟨s.mem, s.out ++ [vl vals i.a], s.steps⟩))
  else if 32 ≤ vl vals i.a then ((0, 2), s)
  else if i.op = 24 then ((0, 0), ⟨s.mem.set (vl vals i.a).toNat (vl vals i.b % 256), s.out, s.steps⟩)
  else ((s.mem.getD (vl vals i.a).toNat 0, 0), s)
def instsR (call : Callee) (f : XFunc) (fuel : Nat) : List XInst → Nat → List Int → RS → Int × List Int × RS
  | [], _, vals, s => (0, vals, s)
  | i :: r, id, vals, s =>
    if s.steps = fuel then (4, vals, s)
    else if (doI call f i vals ⟨s.mem, s.out, s.steps + 1⟩).1.2 = 0 then
      instsR call f fuel r (id + 1) (vals.set id (doI call f i vals ⟨s.mem, s.out, s.steps + 1⟩).1.1) (doI call f i vals ⟨s.mem, s.out, s.steps + 1⟩).2
    else ((doI call f i vals ⟨s.mem, s.out, s.steps + 1⟩).1.2, vals, (doI call f i vals ⟨s.mem, s.out, s.steps + 1⟩).2)
def nextP (f : XFunc) (to left : Int) (vals : List Int) : List Int := (blkAt f to).phis.map fun p => vl vals (p.ins.getD (idx (fun y => left == y) (predsOf f to)).toNat 0)
def enterV (f : XFunc) (to left : Int) (vals : List Int) : List Int := putAt vals (firstOf f to).toNat (nextP f to left vals)
def goTo (t : XTerm) (vals : List Int) : Int := if t.kind = 3 ∧ vl vals t.a = 0 then t.y else t.x
def blocksR (call : Callee) (f : XFunc) (fuel : Nat) : Nat → Int → List Int → RS → (Int × Int) × RS
  | 0, _, _, s => ((0, 4), s)
  | n + 1, b, vals, s =>
    let R := instsR call f fuel (blkAt f b).insts (firstOf f b + (blkAt f b).phis.length).toNat vals s
    let t := (blkAt f b).term
    if R.1 = 0 then
      if R.2.2.steps = fuel then ((0, 4), R.2.2)
      else if t.kind = 4 then ((0, 3), ⟨R.2.2.mem, R.2.2.out, R.2.2.steps + 1⟩)
      else if t.kind = 1 then ((vl R.2.1 t.a, 0), ⟨R.2.2.mem, R.2.2.out, R.2.2.steps + 1⟩)
      else blocksR call f fuel n (goTo t R.2.1) (enterV f (goTo t R.2.1) b R.2.1) ⟨R.2.2.mem, R.2.2.out, R.2.2.steps + 1⟩
    else ((0, R.1), R.2.2)
def vals0 (f : XFunc) (args : List Int) : List Int := putAt (List.replicate (countOf f).toNat 0) 0 args
def callR (m : XMod) (fuel : Nat) : Nat → Callee
  | 0, _, _, s => ((0, 5), s)
  | d + 1, k, args, s => blocksR (callR m fuel d) (m.funcs.getD k.toNat func0) fuel (fuel + 1 - s.steps) 0 (vals0 (m.funcs.getD k.toNat func0) args) s
structure ROk (fuel : Nat) (s : RS) : Prop where
  mem : s.mem.length = 32
  byt : ∀ i (h : i < s.mem.length), 0 ≤ s.mem[i] ∧ s.mem[i] ≤ 255
  out : s.out.length ≤ 30
  steps : s.steps ≤ fuel
def VOk (n : Nat) (vals : List Int) : Prop := vals.length = n ∧ ∀ i (h : i < vals.length), 0 ≤ vals[i] ∧ vals[i] ≤ 4294967295
theorem vl_rng {n : Nat} {vals : List Int} (h : VOk n vals) (k : Int) : 0 ≤ vl vals k ∧ vl vals k ≤ 4294967295 := by
  unfold vl
  rw [List.getD_eq_getElem?_getD]
  by_cases hk : k.toNat < vals.length
  · rw [List.getElem?_eq_getElem hk]; exact h.2 _ hk
  · rw [List.getElem?_eq_none (by omega)]; exact ⟨by decide, by decide⟩
theorem VOk.set {n : Nat} {vals : List Int} (h : VOk n vals) (k : Nat) (v : Int) (hv : 0 ≤ v ∧ v ≤ 4294967295) : VOk n (vals.set k v) := by
  refine ⟨by simpa using h.1, fun i hi => ?_⟩
  simp only [List.getElem_set]
  split
  · exact hv
  · exact h.2 i (by simpa using hi)
theorem VOk.put {n : Nat} (r : List Int) (hr : ∀ x ∈ r, 0 ≤ x ∧ x ≤ 4294967295) : ∀ {vals : List Int} (k : Nat), VOk n vals → VOk n (putAt vals k r) := by
  induction r with
  | nil => intro vals k h; exact h
  | cons x r ih => intro vals k h; exact ih (fun y hy => hr y (by simp [hy])) (k + 1) (h.set k x (hr x (by simp)))
theorem vals0_ok (f : XFunc) (args : List Int) (h : ∀ x ∈ args, 0 ≤ x ∧ x ≤ 4294967295) : VOk (countOf f).toNat (vals0 f args) :=
  VOk.put args h 0 ⟨by simp, fun i hi => by simp⟩
theorem enterV_ok {n : Nat} {f : XFunc} {to left : Int} {vals : List Int} (h : VOk n vals) : VOk n (enterV f to left vals) :=
  VOk.put _ (fun x hx => by
    unfold nextP at hx
    obtain ⟨p, -, rfl⟩ := List.mem_map.1 hx
    exact vl_rng h _) _ h
def CallOk (fuel : Nat) (call : Callee) : Prop := ∀ (k : Int) (args : List Int) (s : RS), ROk fuel s → (∀ x ∈ args, 0 ≤ x ∧ x ≤ 4294967295) → ROk fuel (call k args s).2 ∧ s.steps ≤ (call k args s).2.steps ∧ 0 ≤ (call k args s).1.1 ∧ (call k args s).1.1 ≤ 4294967295 ∧ 0 ≤ (call k args s).1.2 ∧ (call k args s).1.2 ≤ 7
theorem doI_ok {fuel n : Nat} {call : Callee} (hc : CallOk fuel call) (f : XFunc) {ids funcs : Int} {i : XInst} (hi : instOk ids funcs i = true) {vals : List Int} (hv : VOk n vals) {s : RS} (hs : ROk fuel s) :
    ROk fuel (doI call f i vals s).2 ∧ s.steps ≤ (doI call f i vals s).2.steps ∧ 0 ≤ (doI call f i vals s).1.1 ∧ (doI call f i vals s).1.1 ≤ 4294967295 ∧ 0 ≤ (doI call f i vals s).1.2 ∧ (doI call f i vals s).1.2 ≤ 7 := by
  have ha := vl_rng hv i.a
  unfold doI
  split
  · split
    · exact ⟨hs, Nat.le_refl _, (bin_rng _ _ _ _).1, (bin_rng _ _ _ _).2, by first | (simp; done) | (simp [instsR, blocksR, callR]; done) | decide, by first | (simp; done) | (simp [instsR, blocksR, callR]; done) | decide⟩
    · exact ⟨hs, Nat.le_refl _, by first | (simp; done) | (simp [instsR, blocksR, callR]; done) | decide, by first | (simp; done) | (simp [instsR, blocksR, callR]; done) | decide, by first | (simp; done) | (simp [instsR, blocksR, callR]; done) | decide, by first | (simp; done) | (simp [instsR, blocksR, callR]; done) | decide⟩
  split
  · exact ⟨hs, Nat.le_refl _, (cast_rng _ _ _ _ ha).1, (cast_rng _ _ _ _ ha).2, by first | (simp; done) | (simp [instsR, blocksR, callR]; done) | decide, by first | (simp; done) | (simp [instsR, blocksR, callR]; done) | decide⟩
  split
  · rename_i h3
    unfold instOk immFits at hi
    rw [if_pos (by simpa using h3)] at hi
    simp only [Bool.and_eq_true] at hi
    obtain ⟨v1, v2, -⟩ := val_rng hi.2
    exact ⟨hs, Nat.le_refl _, v1, v2, by first | (simp; done) | (simp [instsR, blocksR, callR]; done) | decide, by first | (simp; done) | (simp [instsR, blocksR, callR]; done) | decide⟩
  split
  · refine ⟨hs, Nat.le_refl _, ?_, ?_, by first | (simp; done) | (simp [instsR, blocksR, callR]; done) | decide, by first | (simp; done) | (simp [instsR, blocksR, callR]; done) | decide⟩
    · show 0 ≤ (if vl vals i.a = 1 then vl vals i.b else vl vals i.c)
      split
      · exact (vl_rng hv _).1
      · exact (vl_rng hv _).1
    · show (if vl vals i.a = 1 then vl vals i.b else vl vals i.c) ≤ _
      split
      · exact (vl_rng hv _).2
      · exact (vl_rng hv _).2
  split
  · exact ⟨hs, Nat.le_refl _, ha.1, ha.2, by first | (simp; done) | (simp [instsR, blocksR, callR]; done) | decide, by first | (simp; done) | (simp [instsR, blocksR, callR]; done) | decide⟩
  split
  · refine hc _ _ _ hs fun x hx => ?_
    obtain ⟨a, -, rfl⟩ := List.mem_map.1 hx
    exact vl_rng hv a
  split
  · split
    · exact ⟨hs, Nat.le_refl _, by first | (simp; done) | (simp [instsR, blocksR, callR]; done) | decide, by first | (simp; done) | (simp [instsR, blocksR, callR]; done) | decide, by first | (simp; done) | (simp [instsR, blocksR, callR]; done) | decide, by first | (simp; done) | (simp [instsR, blocksR, callR]; done) | decide⟩
    · rename_i hl
      refine ⟨⟨hs.mem, hs.byt, ?_, hs.steps⟩, Nat.le_refl _, by first | (simp; done) | (simp [instsR, blocksR, callR]; done) | decide, by first | (simp; done) | (simp [instsR, blocksR, callR]; done) | decide, by first | (simp; done) | (simp [instsR, blocksR, callR]; done) | decide, by first | (simp; done) | (simp [instsR, blocksR, callR]; done) | decide⟩
      have := hs.out
      simp; omega
  split
  · exact ⟨hs, Nat.le_refl _, by first | (simp; done) | (simp [instsR, blocksR, callR]; done) | decide, by first | (simp; done) | (simp [instsR, blocksR, callR]; done) | decide, by first | (simp; done) | (simp [instsR, blocksR, callR]; done) | decide, by first | (simp; done) | (simp [instsR, blocksR, callR]; done) | decide⟩
  split
  · refine ⟨⟨by simpa using hs.mem, fun j hj => ?_, hs.out, hs.steps⟩, Nat.le_refl _, by first | (simp; done) | (simp [instsR, blocksR, callR]; done) | decide, by first | (simp; done) | (simp [instsR, blocksR, callR]; done) | decide, by first | (simp; done) | (simp [instsR, blocksR, callR]; done) | decide, by first | (simp; done) | (simp [instsR, blocksR, callR]; done) | decide⟩
    simp only [List.getElem_set]
    split
    · omega
    · exact hs.byt j (by simpa using hj)
  · refine ⟨hs, Nat.le_refl _, ?_, ?_, by first | (simp; done) | (simp [instsR, blocksR, callR]; done) | decide, by first | (simp; done) | (simp [instsR, blocksR, callR]; done) | decide⟩
    all_goals
      show _ ≤ _
      simp only
      rw [List.getD_eq_getElem?_getD]
      by_cases hk : (vl vals i.a).toNat < s.mem.length
      · rw [List.getElem?_eq_getElem hk]
        have := hs.byt _ hk
        simp only [Option.getD_some]
        omega
      · rw [List.getElem?_eq_none (by omega)]; decide
theorem instsR_ok {fuel n : Nat} {call : Callee} (hc : CallOk fuel call) (f : XFunc) {ids funcs : Int} : ∀ (l : List XInst), (∀ i ∈ l, instOk ids funcs i = true) → ∀ (id : Nat) (vals : List Int) (s : RS), VOk n vals → ROk fuel s →
    ROk fuel (instsR call f fuel l id vals s).2.2 ∧ s.steps ≤ (instsR call f fuel l id vals s).2.2.steps ∧ VOk n (instsR call f fuel l id vals s).2.1 ∧ 0 ≤ (instsR call f fuel l id vals s).1 ∧ (instsR call f fuel l id vals s).1 ≤ 7
  | [], _, _, _, _, hv, hs => ⟨hs, Nat.le_refl _, hv, by first | (simp; done) | (simp [instsR, blocksR, callR]; done) | decide, by first | (simp; done) | (simp [instsR, blocksR, callR]; done) | decide⟩
  | i :: r, hl, id, vals, s, hv, hs => by
    unfold instsR
    split
    · exact ⟨hs, Nat.le_refl _, hv, by first | (simp; done) | (simp [instsR, blocksR, callR]; done) | decide, by first | (simp; done) | (simp [instsR, blocksR, callR]; done) | decide⟩
    · rename_i hst
      have hd := doI_ok hc f (hl i (by simp)) hv (s := ⟨s.mem, s.out, s.steps + 1⟩) ⟨hs.mem, hs.byt, hs.out, by have := hs.steps; show s.steps + 1 ≤ fuel; omega⟩
      obtain ⟨h1, h2, h3, h4, h5, h6⟩ := hd
      have h2' : s.steps + 1 ≤ (doI call f i vals ⟨s.mem, s.out, s.steps + 1⟩).2.steps := h2
      split
      · obtain ⟨k1, k2, k3⟩ := instsR_ok hc f r (fun j hj => hl j (by simp [hj])) (id + 1) _ _ (hv.set id _ ⟨h3, h4⟩) h1
        exact ⟨k1, by omega, k3⟩
      · exact ⟨h1, Nat.le_of_succ_le h2', hv, h5, h6⟩
theorem blocksR_ok {fuel n : Nat} {call : Callee} (hc : CallOk fuel call) {f : XFunc} {ids funcs : Int} (hf : ∀ b ∈ f.blocks, ∀ i ∈ b.insts, instOk ids funcs i = true) : ∀ (k : Nat) (b : Int) (vals : List Int) (s : RS), VOk n vals → ROk fuel s →
    ROk fuel (blocksR call f fuel k b vals s).2 ∧ s.steps ≤ (blocksR call f fuel k b vals s).2.steps ∧ 0 ≤ (blocksR call f fuel k b vals s).1.1 ∧ (blocksR call f fuel k b vals s).1.1 ≤ 4294967295 ∧ 0 ≤ (blocksR call f fuel k b vals s).1.2 ∧ (blocksR call f fuel k b vals s).1.2 ≤ 7
  | 0, _, _, _, _, hs => ⟨hs, Nat.le_refl _, by first | (simp; done) | (simp [instsR, blocksR, callR]; done) | decide, by first | (simp; done) | (simp [instsR, blocksR, callR]; done) | decide, by first | (simp; done) | (simp [instsR, blocksR, callR]; done) | decide, by first | (simp; done) | (simp [instsR, blocksR, callR]; done) | decide⟩
  | k + 1, b, vals, s, hv, hs => by
    have hin : ∀ i ∈ (blkAt f b).insts, instOk ids funcs i = true := by
      unfold blkAt
      rw [List.getD_eq_getElem?_getD]
      by_cases hb : b.toNat < f.blocks.length
      · rw [List.getElem?_eq_getElem hb]; exact hf _ (List.getElem_mem _)
      · rw [List.getElem?_eq_none (by omega)]; intro i hi; cases hi
    obtain ⟨h1, h2, h3, h4, h5⟩ := instsR_ok hc f _ hin (firstOf f b + (blkAt f b).phis.length).toNat vals s hv hs
    unfold blocksR
    simp only
    generalize instsR call f fuel (blkAt f b).insts (firstOf f b + (blkAt f b).phis.length).toNat vals s = R at *
    split
    · split
      · exact ⟨h1, h2, by first | (simp; done) | (simp [instsR, blocksR, callR]; done) | decide, by first | (simp; done) | (simp [instsR, blocksR, callR]; done) | decide, by first | (simp; done) | (simp [instsR, blocksR, callR]; done) | decide, by first | (simp; done) | (simp [instsR, blocksR, callR]; done) | decide⟩
      · rename_i hst
        have hs1 : ROk fuel ⟨R.2.2.mem, R.2.2.out, R.2.2.steps + 1⟩ := ⟨h1.mem, h1.byt, h1.out, by have := h1.steps; show _ + 1 ≤ fuel; omega⟩
        split
        · exact ⟨hs1, by show s.steps ≤ _ + 1; omega, by first | (simp; done) | (simp [instsR, blocksR, callR]; done) | decide, by first | (simp; done) | (simp [instsR, blocksR, callR]; done) | decide, by first | (simp; done) | (simp [instsR, blocksR, callR]; done) | decide, by first | (simp; done) | (simp [instsR, blocksR, callR]; done) | decide⟩
        split
        · exact ⟨hs1, by show s.steps ≤ _ + 1; omega, (vl_rng h3 _).1, (vl_rng h3 _).2, by first | (simp; done) | (simp [instsR, blocksR, callR]; done) | decide, by first | (simp; done) | (simp [instsR, blocksR, callR]; done) | decide⟩
        · obtain ⟨k1, k2, k3⟩ := blocksR_ok hc hf k (goTo (blkAt f b).term R.2.1) (enterV f (goTo (blkAt f b).term R.2.1) b R.2.1) ⟨R.2.2.mem, R.2.2.out, R.2.2.steps + 1⟩ (enterV_ok h3) hs1
          have k2' : R.2.2.steps + 1 ≤ _ := k2
          exact ⟨k1, by omega, k3⟩
    · exact ⟨h1, h2, by first | (simp; done) | (simp [instsR, blocksR, callR]; done) | decide, by first | (simp; done) | (simp [instsR, blocksR, callR]; done) | decide, h4, h5⟩
theorem shape_insts {m : XMod} (h : shapeOk m = true) : ∀ f ∈ m.funcs, ∀ b ∈ f.blocks, ∀ i ∈ b.insts, instOk (countOf f) m.funcs.length i = true := by
  intro f hf b hb i hi
  unfold shapeOk at h
  simp only [Bool.and_eq_true, List.all_eq_true] at h
  have h1 := h.2 f hf
  unfold funcOk at h1
  simp only [Bool.and_eq_true, List.all_eq_true] at h1
  have h2 := h1.2 b hb
  unfold blockOk at h2
  simp only [Bool.and_eq_true, List.all_eq_true] at h2
  exact h2.1.2 i hi
theorem callR_ok {m : XMod} (h : shapeOk m = true) (fuel : Nat) : ∀ d, CallOk fuel (callR m fuel d)
  | 0 => fun _ _ s hs _ => ⟨hs, Nat.le_refl _, by first | (simp; done) | (simp [instsR, blocksR, callR]; done) | decide, by first | (simp; done) | (simp [instsR, blocksR, callR]; done) | decide, by first | (simp; done) | (simp [instsR, blocksR, callR]; done) | decide, by first | (simp; done) | (simp [instsR, blocksR, callR]; done) | decide⟩
  | d + 1 => fun k args s hs ha => by
    have hc := callR_ok h fuel d
    unfold callR
    generalize hg : m.funcs.getD k.toNat func0 = g
    have hin : ∀ b ∈ g.blocks, ∀ i ∈ b.insts, instOk (countOf g) m.funcs.length i = true := by
      rw [← hg, List.getD_eq_getElem?_getD]
      by_cases hk : k.toNat < m.funcs.length
      · rw [List.getElem?_eq_getElem hk]; exact shape_insts h _ (List.getElem_mem _)
      · rw [List.getElem?_eq_none (by omega)]; intro b hb; cases hb
    exact blocksR_ok hc hin _ _ _ _ (vals0_ok g args ha) hs
def rs0 (mem : ByteArray) : RS := ⟨mem.data.toList.map fun b => (b.toNat : Int), [], 0⟩
section
variable {P : Program} {ops : Array Oper} {S : World → Prop}
def StepS (P : Program) (S : World → Prop) (o : Oper) (v : Value) (ρ : Operand → Value) : Prop :=
  (∀ w, S w → (execOp ρ o).run P w = .ok (.value v) w) ∨
  ∃ f args, (∀ w, S w → (execOp ρ o).run P w = .ok (.enter f args) w) ∧ ∀ w, S w → Calls P f args w fun e w' => e = .returned v ∧ S w'
def CondS (P : Program) (ops : Array Oper) (S : World → Prop) (o : Oper) (v : Value) (a : Act) : Prop :=
  (Region.wanted o (yielded ops a.tmps) = true ∧ StepS P S o v a.eval) ∨ (Region.wanted o (yielded ops a.tmps) = false ∧ v = undef)
def SeqS (P : Program) (ops : Array Oper) (S : World → Prop) (K : Act → Prop) : List Oper → Act → Prop
  | [], a => K a
  | o :: r, a => ∃ v, CondS P ops S o v a ∧ SeqS P ops S K r (a.put o.dst v)
def noSel (o : Oper) : Bool := match o.op with | .select .. => false | _ => true
theorem noSel_ne {o : Oper} (h : noSel o = true) : ∀ cs b, o.op ≠ .select cs b := fun cs b e => by unfold noSel at h; rw [e] at h; cases h
theorem eval_same {a a' : Act} {x : Operand} (h : ∀ t, x = .tmp t → a'.tmps[t]? = a.tmps[t]?) : a'.eval x = a.eval x := by
  cases x with
  | tmp t => simp only [Act.eval, Array.getD_eq_getD_getElem?]; rw [h t rfl]
  | _ => rfl
theorem CondS.congr {o : Oper} {v : Value} {a a' : Act} (hn : noSel o = true) (h : ∀ t ∈ o.looksAt ops, a'.tmps[t]? = a.tmps[t]?) (hc : CondS P ops S o v a) : CondS P ops S o v a' := by
  have he : execOp a'.eval o = execOp a.eval o := execOp_congr o (noSel_ne hn) fun x hx => eval_same fun t ht => h t (by
    subst ht
    exact List.mem_append_left _ (List.mem_filterMap.2 ⟨.tmp t, by simpa using hx, rfl⟩))
  have hw : Region.wanted o (yielded ops a'.tmps) = Region.wanted o (yielded ops a.tmps) := by
    unfold Region.wanted
    cases hg : o.guard with
    | none => rfl
    | some gw =>
      obtain ⟨g, want⟩ := gw
      have hy : yielded ops a'.tmps g = yielded ops a.tmps g := by
        unfold yielded
        cases ht : (ops[g]?).bind (·.dst) with
        | none => rfl
        | some t =>
          have := h t (by simp [Oper.looksAt, hg, ht])
          simp only [Option.bind_some, this]
      simp only [hy]
  unfold CondS StepS at *
  rw [he, hw]
  exact hc
theorem CondS.wpOp {i : Nat} {o : Oper} {v : Value} {a : Act} {w : World} {Q : Exit → Act → World → Prop} {K : Act → World → Prop} (hi : ops[i]? = some o) (hc : CondS P ops S o v a) (hS : S w) (h : ∀ w', S w' → K (a.put o.dst v) w') : wpOp P ops Q i K a w := by
  unfold Go.wpOp
  simp only [hi]
  rcases hc with ⟨hw, hs⟩ | ⟨hw, rfl⟩
  · simp only [hw, if_true]
    left
    unfold Oper.wp
    rcases hs with hv | ⟨f, args, hr, hcc⟩
    · rw [hv w hS]; exact h w hS
    · rw [hr w hS, Oper.upon_enter]
      refine (hcc w hS).mono ?_
      rintro e w' ⟨rfl, hS'⟩
      exact h w' hS'
  · simp only [hw, Bool.false_eq_true, if_false]; exact h w hS
def pairOk (md : Region.Mode) (ops : Array Oper) (i : Nat) (o : Oper) (j : Nat) (p : Oper) : Bool :=
  i == j || (match p.dst with
    | none => true
    | some t => o.dst != some t && (!(o.looksAt ops).contains t || (if j < i then o.after.any (fun e => Region.binds md e && e.on == j) else p.after.any (fun e => Region.binds md e && e.on == i))))
def ordOk (md : Region.Mode) (ops : Array Oper) : Bool :=
  (List.range ops.size).all fun i => match ops[i]? with
    | none => true
    | some o => noSel o && o.after.all (fun e => !Region.binds md e || decide (e.on < i)) && (List.range ops.size).all fun j => match ops[j]? with
      | none => true
      | some p => pairOk md ops i o j p
theorem ordOk_at {md : Region.Mode} (h : ordOk md ops = true) {i : Nat} {o : Oper} (hi : ops[i]? = some o) : noSel o = true ∧ (∀ e ∈ o.after, Region.binds md e = true → e.on < i) ∧ ∀ j p, ops[j]? = some p → pairOk md ops i o j p = true := by
  unfold ordOk at h
  rw [List.all_eq_true] at h
  have hlt := (Array.getElem?_eq_some_iff.1 hi).1
  have h1 := h i (by simpa using hlt)
  simp only [hi, Bool.and_eq_true] at h1
  obtain ⟨⟨h2, h3⟩, h4⟩ := h1
  refine ⟨h2, fun e he hb => ?_, fun j p hj => ?_⟩
  · rw [Array.all_eq_true_iff_forall_mem] at h3
    have := h3 e he
    simpa [hb] using this
  · rw [List.all_eq_true] at h4
    have := h4 j (by simpa using (Array.getElem?_eq_some_iff.1 hj).1)
    simpa only [hj] using this
theorem pair_spec {md : Region.Mode} {i j : Nat} {o p : Oper} {t : Tmp} (h : pairOk md ops i o j p = true) (hne : i ≠ j) (hd : p.dst = some t) : o.dst ≠ some t ∧ (t ∈ o.looksAt ops → (j < i → ∃ e ∈ o.after, Region.binds md e = true ∧ e.on = j) ∧ (¬ j < i → ∃ e ∈ p.after, Region.binds md e = true ∧ e.on = i)) := by
  unfold pairOk at h
  rw [hd] at h
  simp only [Bool.or_eq_true, beq_iff_eq, hne, false_or, Bool.and_eq_true, bne_iff_ne, ne_eq, Bool.not_eq_true'] at h
  obtain ⟨h1, h2⟩ := h
  refine ⟨h1, fun ht => ?_⟩
  rcases h2 with h2 | h2
  · have : (o.looksAt ops).contains t = true := by simpa using ht
    rw [h2] at this; cases this
  · constructor
    · intro hj
      rw [if_pos hj, Array.any_eq_true'] at h2
      obtain ⟨e, he, hb⟩ := h2
      simp only [Bool.and_eq_true, beq_iff_eq] at hb
      exact ⟨e, he, hb.1, hb.2⟩
    · intro hj
      rw [if_neg hj, Array.any_eq_true'] at h2
      obtain ⟨e, he, hb⟩ := h2
      simp only [Bool.and_eq_true, beq_iff_eq] at hb
      exact ⟨e, he, hb.1, hb.2⟩
structure Canon (P : Program) (ops : Array Oper) (S : World → Prop) (A : Nat → Act) : Prop where
  step : ∀ i o, ops[i]? = some o → ∃ v, CondS P ops S o v (A i) ∧ A (i + 1) = (A i).put o.dst v
theorem put_size (a : Act) (d : Option Tmp) (v : Value) : (a.put d v).tmps.size = a.tmps.size := by
  unfold Act.put; split <;> simp
theorem put_def (a : Act) (d : Option Tmp) (v : Value) : (a.put d v).defers = a.defers := by
  unfold Act.put; split <;> rfl
theorem put_ne (a : Act) (d : Option Tmp) (v : Value) (t : Tmp) (h : d ≠ some t) : (a.put d v).tmps[t]? = a.tmps[t]? := by
  unfold Act.put
  split
  · rename_i d'
    rw [Array.getElem?_setIfInBounds_ne (fun e => h (by rw [e]))]
  · rfl
theorem put_eq (a : Act) (v : Value) (t : Tmp) : (a.put (some t) v).tmps[t]? = if t < a.tmps.size then some v else none := by
  unfold Act.put
  simp only [Array.getElem?_setIfInBounds, if_true]
variable {A : Nat → Act}
theorem Canon.size (h : Canon P ops S A) : ∀ i, i ≤ ops.size → (A i).tmps.size = (A 0).tmps.size ∧ (A i).defers = (A 0).defers
  | 0, _ => ⟨rfl, rfl⟩
  | i + 1, hi => by
    obtain ⟨v, -, e⟩ := h.step i ops[i] (Array.getElem?_eq_getElem (by omega))
    rw [e, put_size, put_def]
    exact h.size i (by omega)
theorem Canon.keep (h : Canon P ops S A) (t : Tmp) (i : Nat) : ∀ k, i + k ≤ ops.size → (∀ j o, i ≤ j → j < i + k → ops[j]? = some o → o.dst ≠ some t) → (A (i + k)).tmps[t]? = (A i).tmps[t]?
  | 0, _, _ => rfl
  | k + 1, hk, hn => by
    obtain ⟨v, -, e⟩ := h.step (i + k) ops[i + k] (Array.getElem?_eq_getElem (by omega))
    rw [show i + (k + 1) = i + k + 1 by omega, e, put_ne _ _ _ _ (hn (i + k) _ (by omega) (by omega) (Array.getElem?_eq_getElem (by omega)))]
    exact h.keep t i k (by omega) fun j o h1 h2 => hn j o h1 (by omega)
theorem Canon.late (h : Canon P ops S A) {md : Region.Mode} (hk : ordOk md ops = true) (t : Tmp) (j : Nat) (p : Oper) (hj : ops[j]? = some p) (hd : p.dst = some t) (i : Nat) (hji : j < i) (hi : i ≤ ops.size) : (A i).tmps[t]? = (A (j + 1)).tmps[t]? := by
  have := h.keep t (j + 1) (i - (j + 1)) (by omega) fun k o h1 h2 ho hdo => by
    have hp := (ordOk_at hk ho).2.2 j p hj
    exact (pair_spec hp (by omega) hd).1 hdo
  rwa [show j + 1 + (i - (j + 1)) = i by omega] at this
structure Agr (md : Region.Mode) (ops : Array Oper) (A : Nat → Act) (listed : Array Bool) (a : Act) : Prop where
  lsz : listed.size = ops.size
  down : ∀ i o, ops[i]? = some o → listed.getD i false = true → ∀ e ∈ o.after, Region.binds md e = true → listed.getD e.on false = true
  dfs : a.defers = (A 0).defers
  tsz : a.tmps.size = (A 0).tmps.size
  has : ∀ i o t, ops[i]? = some o → o.dst = some t → listed.getD i false = true → a.tmps[t]? = (A (i + 1)).tmps[t]?
  old : ∀ t, (∀ i o, ops[i]? = some o → o.dst = some t → listed.getD i false = false) → a.tmps[t]? = (A 0).tmps[t]?
theorem Agr.looks {md : Region.Mode} {listed : Array Bool} {a : Act} (hk : ordOk md ops = true) (h : Canon P ops S A) (hg : Agr md ops A listed a) {i : Nat} {o : Oper} (hi : ops[i]? = some o) (hr : ∀ e ∈ o.after, Region.binds md e = true → listed.getD e.on false = true) (hl : listed.getD i false = false) (t : Tmp) (ht : t ∈ o.looksAt ops) : a.tmps[t]? = (A i).tmps[t]? := by
  have hlt := (Array.getElem?_eq_some_iff.1 hi).1
  by_cases hw : ∃ j p, j < i ∧ ops[j]? = some p ∧ p.dst = some t
  · obtain ⟨j, p, hji, hj, hd⟩ := hw
    obtain ⟨e, he, hb, hon⟩ := ((pair_spec ((ordOk_at hk hi).2.2 j p hj) (by omega) hd).2 ht).1 hji
    have hlj := hr e he hb
    rw [hon] at hlj
    rw [hg.has j p t hj hd hlj, h.late hk t j p hj hd i hji (by omega)]
  · have h0 : (A i).tmps[t]? = (A 0).tmps[t]? := by
      have := h.keep t 0 i (by omega) fun j p _ h2 hj hd => hw ⟨j, p, by omega, hj, hd⟩
      rwa [Nat.zero_add] at this
    rw [h0]
    refine hg.old t fun k p hp hd => ?_
    by_cases hki : k = i
    · rw [hki]; exact hl
    · have hnk : ¬ k < i := fun hlt' => hw ⟨k, p, hlt', hp, hd⟩
      obtain ⟨e, he, hb, hon⟩ := ((pair_spec ((ordOk_at hk hi).2.2 k p hp) (fun e => hki e.symm) hd).2 ht).2 hnk
      cases hlk : listed.getD k false with
      | false => rfl
      | true =>
        have := hg.down k p hp hlk e he hb
        rw [hon, hl] at this; cases this
theorem getD_set (l : Array Bool) (i j : Nat) (hi : i < l.size) : (l.setIfInBounds i true).getD j false = if i = j then true else l.getD j false := by
  simp only [Array.getD_eq_getD_getElem?, Array.getElem?_setIfInBounds, hi, if_true]
  split
  · rename_i e; subst e; first | rfl | (rw [if_pos hi]; rfl)
  · rfl
theorem any_of_canon {md : Region.Mode} {Q : Exit → Act → World → Prop} (hk : ordOk md ops = true) (h : Canon P ops S A) (hQ : ∀ w, S w → Q .normal (A ops.size) w) :
    ∀ fuel (listed : Array Bool) (a : Act) (w : World), Agr md ops A listed a → falses listed.toList ≤ fuel → S w → wpAny P md ops Q fuel listed a w := by
  have hend : ∀ (listed : Array Bool) (a : Act) (w : World), Agr md ops A listed a → S w → Region.ready md ops listed = [] → Q .normal a w := by
    intro listed a w hg hS hr
    have hall : ∀ k, ∀ i, i < k → i < ops.size → listed.getD i false = true := by
      intro k
      induction k with
      | zero => intro i hi; omega
      | succ k ih =>
        intro i hi hs
        by_cases hlt : i < k
        · exact ih i hlt hs
        · cases hl : listed.getD i false with
          | true => rfl
          | false =>
            exfalso
            have hio : ops[i]? = some ops[i] := Array.getElem?_eq_getElem hs
            have hmem : i ∈ Region.ready md ops listed := by
              unfold Region.ready
              rw [List.mem_filter]
              refine ⟨by simpa using hs, ?_⟩
              have h1 : listed.getD i true = false := by
                rw [Array.getD_eq_getD_getElem?] at hl ⊢
                rw [Array.getElem?_eq_getElem (by rw [hg.lsz]; exact hs)] at hl ⊢
                exact hl
              rw [h1, hio]
              simp only [Bool.not_false, Bool.true_and, Option.map_some, Option.getD_some]
              rw [Array.all_eq_true_iff_forall_mem]
              intro e he
              cases hb : Region.binds md e with
              | false => rfl
              | true =>
                have := (ordOk_at hk hio).2.1 e he hb
                rw [ih e.on (by omega) (by omega)]; rfl
            rw [hr] at hmem; cases hmem
    have e : a = A ops.size := by
      have hsz := h.size ops.size (Nat.le_refl _)
      have h1 : a.tmps = (A ops.size).tmps := by
        refine Array.ext_getElem? fun t => ?_
        by_cases hw : ∃ (i : Nat) (o : Oper), ops[i]? = some o ∧ o.dst = some t
        · obtain ⟨i, o, hi, hd⟩ := hw
          have hlt := (Array.getElem?_eq_some_iff.1 hi).1
          rw [hg.has i o t hi hd (hall (i + 1) i (by omega) hlt), h.late hk t i o hi hd ops.size hlt (Nat.le_refl _)]
        · have := h.keep t 0 ops.size (by omega) fun j p _ _ hj hd => hw ⟨j, p, hj, hd⟩
          rw [Nat.zero_add] at this
          rw [this]
          exact hg.old t fun i o hi hd => absurd ⟨i, o, hi, hd⟩ hw
      have h2 : a.defers = (A ops.size).defers := hg.dfs.trans hsz.2.symm
      cases a
      cases hA : A ops.size
      rw [hA] at h1 h2
      simp only at h1 h2
      rw [h1, h2]
    rw [e]; exact hQ w hS
  intro fuel
  induction fuel with
  | zero =>
    intro listed a w hg hf hS
    have hr : Region.ready md ops listed = [] := by
      unfold Region.ready
      rw [List.filter_eq_nil_iff]
      intro i hi
      have hi' : i < listed.toList.length := by rw [Array.length_toList, hg.lsz]; simpa using hi
      have h1 : listed.getD i true = true := by
        rw [Array.getD_eq_getD_getElem?, Array.getElem?_eq_getElem (by simpa using hi')]
        cases hb : listed[i]'(by simpa using hi') with
        | true => rfl
        | false =>
          have := falses_set listed.toList i hi' (by simpa using hb)
          omega
      rw [h1]; simp
    exact ⟨hr, hend listed a w hg hS hr⟩
  | succ fuel ih =>
    intro listed a w hg hf hS
    refine ⟨hend listed a w hg hS, fun i hi => ?_⟩
    unfold Region.ready at hi
    rw [List.mem_filter] at hi
    obtain ⟨hlt0, hi2⟩ := hi
    have hlt : i < ops.size := by simpa using hlt0
    have hio : ops[i]? = some ops[i] := Array.getElem?_eq_getElem hlt
    rw [hio] at hi2
    simp only [Bool.and_eq_true, Bool.not_eq_true', Option.map_some, Option.getD_some] at hi2
    obtain ⟨hl1, hr1⟩ := hi2
    have hls : i < listed.size := by rw [hg.lsz]; exact hlt
    have hl : listed.getD i false = false := by
      rw [Array.getD_eq_getD_getElem?] at hl1 ⊢
      rw [Array.getElem?_eq_getElem hls] at hl1 ⊢
      exact hl1
    have hr : ∀ e ∈ ops[i].after, Region.binds md e = true → listed.getD e.on false = true := by
      rw [Array.all_eq_true_iff_forall_mem] at hr1
      intro e he hb
      have := hr1 e he
      simpa [hb] using this
    obtain ⟨v, hc, hA⟩ := h.step i _ hio
    have hc' := CondS.congr (ordOk_at hk hio).1 (fun t ht => hg.looks hk h hio hr hl t ht) hc
    refine hc'.wpOp hio hS fun w' hS' => ih _ _ _ ?_ ?_ hS'
    · refine ⟨by rw [Array.size_setIfInBounds]; exact hg.lsz, ?_, by rw [put_def]; exact hg.dfs, by rw [put_size]; exact hg.tsz, ?_, ?_⟩
      · intro j p hj hlj e he hb
        rw [getD_set _ _ _ hls] at hlj ⊢
        by_cases hie : i = e.on
        · rw [if_pos hie]
        · rw [if_neg hie]
          by_cases hij : i = j
          · subst hij
            rw [hio] at hj
            cases hj
            exact hr e he hb
          · rw [if_neg hij] at hlj
            exact hg.down j p hj hlj e he hb
      · intro j p t hj hd hlj
        rw [getD_set _ _ _ hls] at hlj
        by_cases hij : i = j
        · subst hij
          rw [hio] at hj
          cases hj
          rw [hA, hd, put_eq, put_eq, hg.tsz, (h.size i (by omega)).1]
        · rw [if_neg hij] at hlj
          have hne := (pair_spec ((ordOk_at hk hio).2.2 j p hj) hij hd).1
          rw [put_ne _ _ _ _ hne]
          exact hg.has j p t hj hd hlj
      · intro t hn
        have hi3 := hn i _ hio
        have hne : ops[i].dst ≠ some t := fun hd => by
          have := hi3 hd
          rw [getD_set _ _ _ hls, if_pos rfl] at this; cases this
        rw [put_ne _ _ _ _ hne]
        refine hg.old t fun j p hj hd => ?_
        have := hn j p hj hd
        rw [getD_set _ _ _ hls] at this
        by_cases hij : i = j
        · rw [if_pos hij] at this; cases this
        · rwa [if_neg hij] at this
    · have h1 := falses_set listed.toList i (by simpa using hls) (by
        rw [Array.getD_eq_getD_getElem?, Array.getElem?_eq_getElem hls] at hl
        simpa using hl)
      have h2 : (listed.setIfInBounds i true).toList = listed.toList.set i true := by simp
      rw [h2]; omega
theorem seq_canon {K : Act → Prop} : ∀ (l : List Oper) (a : Act), SeqS P ops S K l a → ∃ A : Nat → Act, A 0 = a ∧ (∀ i (h : i < l.length), ∃ v, CondS P ops S l[i] v (A i) ∧ A (i + 1) = (A i).put l[i].dst v) ∧ K (A l.length)
  | [], a, h => ⟨fun _ => a, rfl, fun i h => absurd h (by simp), h⟩
  | o :: r, a, ⟨v, hc, h⟩ => by
    obtain ⟨A, h0, h1, h2⟩ := seq_canon r _ h
    refine ⟨fun i => match i with | 0 => a | j + 1 => A j, rfl, fun i hi => ?_, h2⟩
    cases i with
    | zero => exact ⟨v, hc, h0⟩
    | succ i => exact h1 i (by simpa using hi)
theorem wp_region_one {id : Nat} {a : Act} {w : World} {Q : Exit → Act → World → Prop} (S : World → Prop) (hm : P.follows .mixedOrders = true) (hk : ordOk .any ops = true) (hS : S w.drew)
    (h : SeqS P ops S (fun a' => ∀ W, S W → Q .normal a' W) ops.toList a) : (Code.region id ops true).wp P Q a w := by
  obtain ⟨A, h0, h1, h2⟩ := seq_canon _ _ h
  refine wp_region_any hm ?_
  have hc : Canon P ops S A := ⟨fun i o hi => by
    obtain ⟨hlt, rfl⟩ := Array.getElem?_eq_some_iff.1 hi
    have := h1 i (by simpa using hlt)
    simpa using this⟩
  rw [Array.length_toList] at h2
  refine any_of_canon hk hc h2 _ _ _ _ ⟨by simp, fun i o hi hl => ?_, by rw [h0], by rw [h0], fun i o t hi hd hl => ?_, fun t _ => by rw [h0]⟩ ?_ hS
  · have : (Array.replicate ops.size false).getD i false = false := by
      rw [Array.getD_eq_getD_getElem?, Array.getElem?_replicate]; split <;> rfl
    rw [this] at hl; cases hl
  · have : (Array.replicate ops.size false).getD i false = false := by
      rw [Array.getD_eq_getD_getElem?, Array.getElem?_replicate]; split <;> rfl
    rw [this] at hl; cases hl
  · rw [Array.toList_replicate, falses_rep]; exact Nat.le_refl _
theorem seq_val {K : Act → Prop} {o : Oper} {r : List Oper} {a : Act} {v : Value} (hw : Region.wanted o (yielded ops a.tmps) = true) (hv : ∀ w, S w → (execOp a.eval o).run P w = .ok (.value v) w) (h : SeqS P ops S K r (a.put o.dst v)) : SeqS P ops S K (o :: r) a := ⟨v, .inl ⟨hw, .inl hv⟩, h⟩
theorem seq_skip {K : Act → Prop} {o : Oper} {r : List Oper} {a : Act} (hw : Region.wanted o (yielded ops a.tmps) = false) (h : SeqS P ops S K r (a.put o.dst undef)) : SeqS P ops S K (o :: r) a := ⟨undef, .inr ⟨hw, rfl⟩, h⟩
theorem seq_call {K : Act → Prop} {o : Oper} {r : List Oper} {a : Act} {v : Value} (f : FuncId) (args : Array Value) (hw : Region.wanted o (yielded ops a.tmps) = true) (hr : ∀ w, S w → (execOp a.eval o).run P w = .ok (.enter f args) w) (hc : ∀ w, S w → Calls P f args w fun e w' => e = .returned v ∧ S w') (h : SeqS P ops S K r (a.put o.dst v)) : SeqS P ops S K (o :: r) a := ⟨v, .inl ⟨hw, .inr ⟨f, args, hr, hc⟩⟩, h⟩
theorem wp_region_bel {id : Nat} {a : Act} {w : World} {Q : Exit → Act → World → Prop} (hm : P.follows .mixedOrders = true) (hk : ordOk .any ops = true)
    (h : SeqS P ops (Below w.heap.size w) (fun a' => ∀ W, Below w.heap.size w W → Q .normal a' W) ops.toList a) : (Code.region id ops true).wp P Q a w :=
  wp_region_one (Below w.heap.size w) hm hk (Below.drew (Below.refl _ _)) h
theorem seq_ret {w0 : World} {K : Act → Prop} {o : Oper} {r : List Oper} {a : Act} {v : Value} (f : FuncId) (args : Array Value) (hw : Region.wanted o (yielded ops a.tmps) = true) (hr : ∀ w, Below w0.heap.size w0 w → (execOp a.eval o).run P w = .ok (.enter f args) w)
    (hc : ∀ w, Below w0.heap.size w0 w → Calls P f args w fun e w' => e = .returned v ∧ Below w.heap.size w w') (h : SeqS P ops (Below w0.heap.size w0) K r (a.put o.dst v)) : SeqS P ops (Below w0.heap.size w0) K (o :: r) a :=
  seq_call f args hw hr (fun w hS => (hc w hS).mono fun _ _ hh => ⟨hh.1, hS.then hh.2⟩) h
theorem seq_nil {K : Act → Prop} {a : Act} (h : K a) : SeqS P ops S K [] a := h
end
def KRes (w : World) (x : XRes) (cs : List Value) : Prop := ∃ v, cs = [.int .i64 x.code, .int .i64 x.value, v, .string x.mem, .int .i64 x.steps] ∧ RI lm w v x.out
deriving instance DecidableEq for XRes
section
variable {P : Program} {ops : Array Oper}
inductive Sp where
  | k (c : Value)
  | n (p : Value → Prop) (q : World → Value → Prop)
def Sp.pure : Sp → Value → Prop
  | .k c, v => v = c
  | .n p _, v => p v
def Sp.inW : Sp → World → Value → Prop
  | .k _, _, _ => True
  | .n _ q, w, v => q w v
def OpH (P : Program) (o : Oper) (a : Act) (w : World) (K : Value → World → Prop) : Prop :=
  (∃ v w', ((execOp a.eval o).run P w = .ok (.value v) w' ∨ ((execOp a.eval o).run P w = .ok .skip w' ∧ v = undef)) ∧ K v w') ∨
  ∃ f args, (execOp a.eval o).run P w = .ok (.enter f args) w ∧ Calls P f args w fun e w' => ∃ v, e = .returned v ∧ K v w'
def readsT (ops : Array Oper) (o : Oper) : Option Tmp → Bool
  | some t => (o.looksAt ops).contains t
  | none => false
def Kn (ops : Array Oper) (o : Oper) (w : World) : List (Option Tmp × (World → Value → Prop) × Value) → Prop
  | [] => True
  | (d, q, v) :: r => (readsT ops o d = true → q w v) ∧ Kn ops o w r
def Al (w : World) : List (Option Tmp × (World → Value → Prop) × Value) → Prop
  | [] => True
  | (_, q, v) :: r => q w v ∧ Al w r
def HoS (P : Program) (ops : Array Oper) (S : World → Prop) (R : World → World → Prop) (Q : Exit → Act → World → Prop) : List Sp → List Oper → Act → List (Option Tmp × (World → Value → Prop) × Value) → Prop
  | [], tl, a, seen => ∀ w, S w → Al w seen → wpList P ops Q tl a w
  | .k c :: rs, o :: r, a, seen => (∀ w, S w → Kn ops o w seen → (execOp a.eval o).run P w = .ok (.value c) w) ∧ HoS P ops S R Q rs r (a.put o.dst c) seen
  | .n p q :: rs, o :: r, a, seen => (∀ w, S w → Kn ops o w seen → OpH P o a w fun v w' => p v ∧ q w' v ∧ S w' ∧ R w w') ∧ ∀ v, p v → HoS P ops S R Q rs r (a.put o.dst v) (seen ++ [(o.dst, q, v)])
  | _ :: _, [], _, _ => False
theorem hos_k {S : World → Prop} {R : World → World → Prop} {Q : Exit → Act → World → Prop} {rs : List Sp} {r : List Oper} {o : Oper} {a : Act} {seen : List (Option Tmp × (World → Value → Prop) × Value)} {c : Value} (h1 : ∀ w, S w → Kn ops o w seen → (execOp a.eval o).run P w = .ok (.value c) w) (h2 : HoS P ops S R Q rs r (a.put o.dst c) seen) : HoS P ops S R Q (.k c :: rs) (o :: r) a seen := ⟨h1, h2⟩
theorem hos_n {S : World → Prop} {R : World → World → Prop} {Q : Exit → Act → World → Prop} {rs : List Sp} {r : List Oper} {o : Oper} {a : Act} {seen : List (Option Tmp × (World → Value → Prop) × Value)} {p : Value → Prop} {q : World → Value → Prop} (h1 : ∀ w, S w → Kn ops o w seen → OpH P o a w fun v w' => p v ∧ q w' v ∧ S w' ∧ R w w') (h2 : ∀ v, p v → HoS P ops S R Q rs r (a.put o.dst v) (seen ++ [(o.dst, q, v)])) : HoS P ops S R Q (.n p q :: rs) (o :: r) a seen := ⟨h1, h2⟩
theorem hos_end {S : World → Prop} {R : World → World → Prop} {Q : Exit → Act → World → Prop} {tl : List Oper} {a : Act} {seen : List (Option Tmp × (World → Value → Prop) × Value)} (h : ∀ w, S w → Al w seen → wpList P ops Q tl a w) : HoS P ops S R Q [] tl a seen := h
theorem opH_val {o : Oper} {a : Act} {w : World} {K : Value → World → Prop} (v : Value) (w' : World) (h : (execOp a.eval o).run P w = .ok (.value v) w') (hk : K v w') : OpH P o a w K := .inl ⟨v, w', .inl h, hk⟩
theorem opH_call {o : Oper} {a : Act} {w : World} {K : Value → World → Prop} (f : FuncId) (args : Array Value) (h : (execOp a.eval o).run P w = .ok (.enter f args) w) (hc : Calls P f args w fun e w' => ∃ v, e = .returned v ∧ K v w') : OpH P o a w K := .inr ⟨f, args, h, hc⟩
theorem tail_call {o : Oper} {a : Act} {w : World} {Q : Exit → Act → World → Prop} (hgd : o.guard = none) (f : FuncId) (args : Array Value) (h : (execOp a.eval o).run P w = .ok (.enter f args) w) (hc : Calls P f args w fun e w' => ∃ v, e = .returned v ∧ Q .normal (a.put o.dst v) w') : wpList P ops Q [o] a w := by
  have hw : Region.wanted o (yielded ops a.tmps) = true := by simp [Region.wanted, hgd]
  simp only [wpList, hw, if_true]
  left
  unfold Oper.wp
  rw [h, Oper.upon_enter]
  refine hc.mono ?_
  rintro e w' ⟨v, rfl, hv⟩
  exact hv
theorem tail_skip {o : Oper} {a : Act} {w : World} {Q : Exit → Act → World → Prop} (hgd : o.guard = none) (w' : World) (h : (execOp a.eval o).run P w = .ok .skip w') (hq : Q .normal (a.put o.dst undef) w') : wpList P ops Q [o] a w := by
  have hw : Region.wanted o (yielded ops a.tmps) = true := by simp [Region.wanted, hgd]
  simp only [wpList, hw, if_true]
  left
  unfold Oper.wp
  rw [h]; exact hq
def canon (ops : Array Oper) (a : Act) (vs : Nat → Value) : Nat → Act
  | 0 => a
  | i + 1 => match ops[i]? with
    | some o => (canon ops a vs i).put o.dst (vs i)
    | none => canon ops a vs i
theorem canon_succ {a : Act} {vs : Nat → Value} {i : Nat} {o : Oper} (h : ops[i]? = some o) : canon ops a vs (i + 1) = (canon ops a vs i).put o.dst (vs i) := by simp only [canon, h]
theorem canon_size (a : Act) (vs : Nat → Value) : ∀ i, (canon ops a vs i).tmps.size = a.tmps.size ∧ (canon ops a vs i).defers = a.defers
  | 0 => ⟨rfl, rfl⟩
  | i + 1 => by
    cases h : ops[i]? with
    | none => simp only [canon, h]; exact canon_size a vs i
    | some o => rw [canon_succ h, put_size, put_def]; exact canon_size a vs i
theorem canon_keep (a : Act) (vs : Nat → Value) (t : Tmp) (i : Nat) : ∀ k, (∀ j o, i ≤ j → j < i + k → ops[j]? = some o → o.dst ≠ some t) → (canon ops a vs (i + k)).tmps[t]? = (canon ops a vs i).tmps[t]?
  | 0, _ => rfl
  | k + 1, hn => by
    have ih := canon_keep a vs t i k fun j o h1 h2 => hn j o h1 (by omega)
    rw [show i + (k + 1) = i + k + 1 by omega]
    cases h : ops[i + k]? with
    | none => simp only [canon, h]; exact ih
    | some o => rw [canon_succ h, put_ne _ _ _ _ (hn (i + k) o (by omega) (by omega) h)]; exact ih
theorem canon_at {md : Region.Mode} (hk : ordOk md ops = true) (a : Act) (vs : Nat → Value) {j : Nat} {p : Oper} {t : Tmp} (hj : ops[j]? = some p) (hd : p.dst = some t) {i : Nat} (hji : j < i) : (canon ops a vs i).tmps[t]? = if t < a.tmps.size then some (vs j) else none := by
  have := canon_keep (ops := ops) a vs t (j + 1) (i - (j + 1)) fun k o h1 h2 ho hdo => (pair_spec ((ordOk_at hk ho).2.2 j p hj) (by omega) hd).1 hdo
  rw [show j + 1 + (i - (j + 1)) = i by omega] at this
  rw [this, canon_succ hj, hd, put_eq, (canon_size a vs j).1]
theorem canon_old (a : Act) (vs : Nat → Value) (t : Tmp) (i : Nat) (h : ∀ j o, j < i → ops[j]? = some o → o.dst ≠ some t) : (canon ops a vs i).tmps[t]? = a.tmps[t]? := by
  have := canon_keep (ops := ops) a vs t 0 i fun j o _ h2 ho => h j o (by omega) ho
  rwa [Nat.zero_add] at this
structure AgH (md : Region.Mode) (ops : Array Oper) (a0 : Act) (vs : Nat → Value) (listed : Array Bool) (a : Act) : Prop where
  lsz : listed.size = ops.size
  down : ∀ i o, ops[i]? = some o → listed.getD i false = true → ∀ e ∈ o.after, Region.binds md e = true → listed.getD e.on false = true
  dfs : a.defers = a0.defers
  tsz : a.tmps.size = a0.tmps.size
  has : ∀ i o t, ops[i]? = some o → o.dst = some t → listed.getD i false = true → a.tmps[t]? = if t < a0.tmps.size then some (vs i) else none
  old : ∀ t, (∀ i o, ops[i]? = some o → o.dst = some t → listed.getD i false = false) → a.tmps[t]? = a0.tmps[t]?
theorem AgH.looks {md : Region.Mode} {a0 : Act} {vs : Nat → Value} {listed : Array Bool} {a : Act} (hk : ordOk md ops = true) (hg : AgH md ops a0 vs listed a) {i : Nat} {o : Oper} (hi : ops[i]? = some o) (hr : ∀ e ∈ o.after, Region.binds md e = true → listed.getD e.on false = true) (hl : listed.getD i false = false) (t : Tmp) (ht : t ∈ o.looksAt ops) : a.tmps[t]? = (canon ops a0 vs i).tmps[t]? := by
  by_cases hw : ∃ j p, j < i ∧ ops[j]? = some p ∧ p.dst = some t
  · obtain ⟨j, p, hji, hj, hd⟩ := hw
    obtain ⟨e, he, hb, hon⟩ := ((pair_spec ((ordOk_at hk hi).2.2 j p hj) (by omega) hd).2 ht).1 hji
    have hlj := hr e he hb
    rw [hon] at hlj
    rw [hg.has j p t hj hd hlj, canon_at hk a0 vs hj hd hji]
  · rw [canon_old a0 vs t i fun j p h hj hd => hw ⟨j, p, h, hj, hd⟩]
    refine hg.old t fun k p hp hd => ?_
    by_cases hki : k = i
    · rw [hki]; exact hl
    · have hnk : ¬ k < i := fun hlt' => hw ⟨k, p, hlt', hp, hd⟩
      obtain ⟨e, he, hb, hon⟩ := ((pair_spec ((ordOk_at hk hi).2.2 k p hp) (fun e => hki e.symm) hd).2 ht).2 hnk
      cases hlk : listed.getD k false with
      | false => rfl
      | true =>
        have := hg.down k p hp hlk e he hb
        rw [hon, hl] at this; cases this
theorem AgH.binds {md : Region.Mode} {a0 : Act} {vs : Nat → Value} {listed : Array Bool} {a : Act} (hk : ordOk md ops = true) {i : Nat} {o : Oper} (hi : ops[i]? = some o) (hr : ∀ e ∈ o.after, Region.binds md e = true → listed.getD e.on false = true) {j : Nat} {p : Oper} (hj : ops[j]? = some p) (hji : j < i) (hrd : readsT ops o p.dst = true) : listed.getD j false = true := by
  cases hd : p.dst with
  | none => rw [hd] at hrd; cases hrd
  | some t =>
    rw [hd] at hrd
    have ht : t ∈ o.looksAt ops := by simpa [readsT] using hrd
    obtain ⟨e, he, hb, hon⟩ := ((pair_spec ((ordOk_at hk hi).2.2 j p hj) (by omega) hd).2 ht).1 hji
    have := hr e he hb
    rwa [hon] at this
theorem AgH.all {md : Region.Mode} {a0 : Act} {vs : Nat → Value} {listed : Array Bool} {a : Act} (hk : ordOk md ops = true) (hg : AgH md ops a0 vs listed a) (n : Nat) (hn : n ≤ ops.size) (h : ∀ i, i < n → listed.getD i false = true) (h2 : ∀ i, n ≤ i → listed.getD i false = false) : a = canon ops a0 vs n := by
  have hsz := canon_size (ops := ops) a0 vs n
  have h1 : a.tmps = (canon ops a0 vs n).tmps := by
    refine Array.ext_getElem? fun t => ?_
    by_cases hw : ∃ (i : Nat) (o : Oper), i < n ∧ ops[i]? = some o ∧ o.dst = some t
    · obtain ⟨i, o, hin, hi, hd⟩ := hw
      rw [hg.has i o t hi hd (h i hin), canon_at hk a0 vs hi hd hin]
    · rw [canon_old a0 vs t n fun j p h hj hd => hw ⟨j, p, h, hj, hd⟩]
      refine hg.old t fun i o hi hd => ?_
      by_cases hin : i < n
      · exact absurd ⟨i, o, hin, hi, hd⟩ hw
      · exact h2 i (by omega)
  have h2 : a.defers = (canon ops a0 vs n).defers := hg.dfs.trans hsz.2.symm
  cases a
  cases hA : canon ops a0 vs n
  rw [hA] at h1 h2
  simp only at h1 h2
  rw [h1, h2]
theorem AgH.set {md : Region.Mode} {a0 : Act} {vs : Nat → Value} {listed : Array Bool} {a : Act} (hk : ordOk md ops = true) (hg : AgH md ops a0 vs listed a) {i : Nat} {o : Oper} (hi : ops[i]? = some o) (hr : ∀ e ∈ o.after, Region.binds md e = true → listed.getD e.on false = true) (v : Value) : AgH md ops a0 (fun j => if j = i then v else vs j) (listed.setIfInBounds i true) (a.put o.dst v) := by
  have hls : i < listed.size := by rw [hg.lsz]; exact (Array.getElem?_eq_some_iff.1 hi).1
  refine ⟨by rw [Array.size_setIfInBounds]; exact hg.lsz, ?_, by rw [put_def]; exact hg.dfs, by rw [put_size]; exact hg.tsz, ?_, ?_⟩
  · intro j p hj hlj e he hb
    rw [getD_set _ _ _ hls] at hlj ⊢
    by_cases hie : i = e.on
    · rw [if_pos hie]
    · rw [if_neg hie]
      by_cases hij : i = j
      · subst hij
        rw [hi] at hj
        cases hj
        exact hr e he hb
      · rw [if_neg hij] at hlj
        exact hg.down j p hj hlj e he hb
  · intro j p t hj hd hlj
    rw [getD_set _ _ _ hls] at hlj
    by_cases hij : i = j
    · subst hij
      rw [hi] at hj
      cases hj
      rw [hd, put_eq, hg.tsz, if_pos rfl]
    · rw [if_neg hij] at hlj
      have hne := (pair_spec ((ordOk_at hk hi).2.2 j p hj) hij hd).1
      have h9 := hg.has j p t hj hd hlj
      have hji : ¬ j = i := fun e => hij e.symm
      simp only [hji, if_false]
      rw [put_ne _ _ _ _ hne]
      exact h9
  · intro t hn
    have hi3 := hn i _ hi
    have hne : o.dst ≠ some t := fun hd => by
      have := hi3 hd
      rw [getD_set _ _ _ hls, if_pos rfl] at this; cases this
    rw [put_ne _ _ _ _ hne]
    refine hg.old t fun j p hj hd => ?_
    have := hn j p hj hd
    rw [getD_set _ _ _ hls] at this
    by_cases hij : i = j
    · rw [if_pos hij] at this; cases this
    · rwa [if_neg hij] at this
theorem OpH.congr {o : Oper} {a a' : Act} {w : World} {K : Value → World → Prop} (hn : noSel o = true) (h : ∀ t ∈ o.looksAt ops, a'.tmps[t]? = a.tmps[t]?) (hc : OpH P o a w K) : OpH P o a' w K := by
  have he : execOp a'.eval o = execOp a.eval o := execOp_congr o (noSel_ne hn) fun x hx => eval_same fun t ht => h t (by
    subst ht
    exact List.mem_append_left _ (List.mem_filterMap.2 ⟨.tmp t, by simpa using hx, rfl⟩))
  unfold OpH at *
  rw [he]; exact hc
theorem OpH.wpOp {i : Nat} {o : Oper} {a : Act} {w : World} {Q : Exit → Act → World → Prop} {K : Act → World → Prop} {Kv : Value → World → Prop} (hi : ops[i]? = some o) (hgd : o.guard = none) (hc : OpH P o a w Kv) (h : ∀ v w', Kv v w' → K (a.put o.dst v) w') : wpOp P ops Q i K a w := by
  have hw : Region.wanted o (yielded ops a.tmps) = true := by simp [Region.wanted, hgd]
  unfold Go.wpOp
  simp only [hi, hw, if_true]
  left
  unfold Oper.wp
  rcases hc with ⟨v, w', hr | ⟨hr, rfl⟩, hv⟩ | ⟨f, args, hr, hcc⟩
  · rw [hr]; exact h v w' hv
  · rw [hr]; exact h undef w' hv
  · rw [hr, Oper.upon_enter]
    refine hcc.mono ?_
    rintro e w' ⟨v, rfl, hv⟩
    exact h v w' hv
def tailOk (md : Region.Mode) (ops : Array Oper) (n : Nat) : Bool :=
  (ops.toList.all fun o => o.guard.isNone) && (ops.size == n || (ops.size == n + 1 && (List.range n).all fun i => (List.range ops.size).any fun j => i < j && match ops[j]? with
    | some p => p.after.any (fun e => Region.binds md e && e.on == i)
    | none => false))
def spAt (sps : List Sp) (i : Nat) : Sp := sps.getD i (.n (fun _ => True) fun _ _ => True)
theorem hos_idx {S : World → Prop} {R : World → World → Prop} {Q : Exit → Act → World → Prop} {a0 : Act} (hR : ∀ w, R w w) (sps0 : List Sp) (vs : Nat → Value) (hvs : ∀ i, (spAt sps0 i).pure (vs i)) :
    ∀ (sps : List Sp) (l : List Oper) (i : Nat) (seen : List (Option Tmp × (World → Value → Prop) × Value)), (∀ k, sps[k]? = sps0[i + k]?) → (∀ k, l[k]? = ops[i + k]?) → (∀ w, (∀ j p, j < i → ops[j]? = some p → (spAt sps0 j).inW w (vs j)) → Al w seen) → (∀ w o, (∀ j p, j < i → ops[j]? = some p → readsT ops o p.dst = true → (spAt sps0 j).inW w (vs j)) → Kn ops o w seen) → HoS P ops S R Q sps l (canon ops a0 vs i) seen →
      (∀ k o, i ≤ k → k < i + sps.length → ops[k]? = some o → ∀ w, S w → (∀ j p, j < k → ops[j]? = some p → readsT ops o p.dst = true → (spAt sps0 j).inW w (vs j)) → OpH P o (canon ops a0 vs k) w fun v w' => (spAt sps0 k).pure v ∧ (spAt sps0 k).inW w' v ∧ S w' ∧ R w w') ∧
      (∀ w, S w → (∀ j p, j < i + sps.length → ops[j]? = some p → (spAt sps0 j).inW w (vs j)) → wpList P ops Q (l.drop sps.length) (canon ops a0 vs (i + sps.length)) w)
  | [], l, i, seen, h1, h2, hA, hK, h => ⟨fun k o h3 h4 => absurd h4 (by simp; omega), fun w hS hq => h w hS (hA w hq)⟩
  | s :: rs, [], i, seen, h1, h2, hA, hK, h => by cases s <;> exact False.elim h
  | s :: rs, o :: r, i, seen, h1, h2, hA, hK, h => by
    have hs : spAt sps0 i = s := by
      have := h1 0
      simp only [List.getElem?_cons_zero, Nat.add_zero] at this
      simp only [spAt, List.getD_eq_getElem?_getD, ← this, Option.getD_some]
    have ho : ops[i]? = some o := by simpa using (h2 0).symm
    have hc := canon_succ (a := a0) (vs := vs) ho
    have e1 : i + (s :: rs).length = i + 1 + rs.length := by simp; omega
    have g1 : ∀ k, rs[k]? = sps0[i + 1 + k]? := fun k => by have := h1 (k + 1); simpa [Nat.add_assoc, Nat.add_comm 1 k] using this
    have g2 : ∀ k, r[k]? = ops[i + 1 + k]? := fun k => by have := h2 (k + 1); simpa [Nat.add_assoc, Nat.add_comm 1 k] using this
    cases s with
    | k c =>
      have hv : vs i = c := by have := hvs i; rw [hs] at this; exact this
      obtain ⟨p1, p2⟩ := h
      rw [← hv, ← hc] at p2
      have ih := hos_idx hR sps0 vs hvs rs r (i + 1) seen g1 g2 (fun w hq => hA w fun j p hj => hq j p (by omega)) (fun w o' hq => hK w o' fun j p hj => hq j p (by omega)) p2
      refine ⟨fun k o' h3 h4 h5 w hS hq => ?_, fun w hS hq => ?_⟩
      · by_cases hik : k = i
        · subst hik
          rw [ho] at h5; cases h5
          rw [hs]
          exact .inl ⟨c, w, .inl (p1 w hS (hK w o hq)), rfl, trivial, hS, hR w⟩
        · exact ih.1 k o' (by omega) (by omega) h5 w hS hq
      · rw [e1]; exact ih.2 w hS fun j p hj => hq j p (by omega)
    | n pp q =>
      have hv : pp (vs i) := by have := hvs i; rw [hs] at this; exact this
      obtain ⟨p1, p2⟩ := h
      have p2 := p2 _ hv
      rw [← hc] at p2
      have al_app : ∀ w (l : List (Option Tmp × (World → Value → Prop) × Value)), Al w l → q w (vs i) → Al w (l ++ [(o.dst, q, vs i)]) := by
        intro w l; induction l with
        | nil => intro _ h; exact ⟨h, trivial⟩
        | cons x l ih => intro h1 h2; obtain ⟨x1, x2, x3⟩ := x; exact ⟨h1.1, ih h1.2 h2⟩
      have kn_app : ∀ w o' (l : List (Option Tmp × (World → Value → Prop) × Value)), Kn ops o' w l → (readsT ops o' o.dst = true → q w (vs i)) → Kn ops o' w (l ++ [(o.dst, q, vs i)]) := by
        intro w o' l; induction l with
        | nil => intro _ h; exact ⟨h, trivial⟩
        | cons x l ih => intro h1 h2; obtain ⟨x1, x2, x3⟩ := x; exact ⟨h1.1, ih h1.2 h2⟩
      have ih := hos_idx hR sps0 vs hvs rs r (i + 1) _ g1 g2 (fun w hq => al_app w seen (hA w fun j p hj => hq j p (by omega)) (by have := hq i o (by omega) ho; rw [hs] at this; exact this)) (fun w o' hq => kn_app w o' seen (hK w o' fun j p hj => hq j p (by omega)) fun hrd => (by have := hq i o (by omega) ho hrd; rw [hs] at this; exact this)) p2
      refine ⟨fun k o' h3 h4 h5 w hS hq => ?_, fun w hS hq => ?_⟩
      · by_cases hik : k = i
        · subst hik
          rw [ho] at h5; cases h5
          rw [hs]
          exact p1 w hS (hK w o hq)
        · exact ih.1 k o' (by omega) (by omega) h5 w hS hq
      · rw [e1]; exact ih.2 w hS fun j p hj => hq j p (by omega)
theorem ready_nil {md : Region.Mode} {listed : Array Bool} (hs : listed.size = ops.size) (h : ∀ i, i < ops.size → listed.getD i false = true) : Region.ready md ops listed = [] := by
  unfold Region.ready
  rw [List.filter_eq_nil_iff]
  intro i hi
  have hi' : i < listed.size := by rw [hs]; simpa using hi
  have h1 : listed.getD i true = true := by
    have := h i (by simpa using hi)
    rw [Array.getD_eq_getD_getElem?, Array.getElem?_eq_getElem hi'] at this ⊢
    exact this
  rw [h1]; simp
theorem all_listed {md : Region.Mode} {listed : Array Bool} (hk : ordOk md ops = true) (hls : listed.size = ops.size) (hr : Region.ready md ops listed = []) : ∀ i, i < ops.size → listed.getD i false = true := by
  have hall : ∀ k, ∀ i, i < k → i < ops.size → listed.getD i false = true := by
    intro k
    induction k with
    | zero => intro i hi; omega
    | succ k ih =>
      intro i hi hs
      by_cases hlt : i < k
      · exact ih i hlt hs
      · cases hl : listed.getD i false with
        | true => rfl
        | false =>
          exfalso
          have hio : ops[i]? = some ops[i] := Array.getElem?_eq_getElem hs
          have hmem : i ∈ Region.ready md ops listed := by
            unfold Region.ready
            rw [List.mem_filter]
            refine ⟨by simpa using hs, ?_⟩
            have h1 : listed.getD i true = false := by
              rw [Array.getD_eq_getD_getElem?] at hl ⊢
              rw [Array.getElem?_eq_getElem (by rw [hls]; exact hs)] at hl ⊢
              exact hl
            rw [h1, hio]
            simp only [Bool.not_false, Bool.true_and, Option.map_some, Option.getD_some]
            rw [Array.all_eq_true_iff_forall_mem]
            intro e he
            cases hb : Region.binds md e with
            | false => rfl
            | true =>
              have := (ordOk_at hk hio).2.1 e he hb
              rw [ih e.on (by omega) (by omega)]; rfl
          rw [hr] at hmem; cases hmem
  exact fun i hi => hall (i + 1) i (by omega) hi
theorem any_of_hos {md : Region.Mode} {S : World → Prop} {R : World → World → Prop} {Q : Exit → Act → World → Prop} {a0 : Act} (hk : ordOk md ops = true) (sps : List Sp) (ht : tailOk md ops sps.length = true) (hR : ∀ w, R w w)
    (hst : ∀ i w w' v, S w → R w w' → (spAt sps i).inW w v → (spAt sps i).inW w' v) (h : HoS P ops S R Q sps ops.toList a0 []) :
    ∀ fuel (vs : Nat → Value) (listed : Array Bool) (a : Act) (w : World), (∀ i, (spAt sps i).pure (vs i)) → (∀ i, i < sps.length → listed.getD i false = true → (spAt sps i).inW w (vs i)) → (∀ i, sps.length ≤ i → listed.getD i false = false) → AgH md ops a0 vs listed a → falses listed.toList ≤ fuel → S w → wpAny P md ops Q fuel listed a w := by
  unfold tailOk at ht
  simp only [Bool.and_eq_true, Bool.or_eq_true, beq_iff_eq] at ht
  obtain ⟨hgd, hsz⟩ := ht
  have hgd' : ∀ (i : Nat) (o : Oper), ops[i]? = some o → o.guard = none := fun i o hi => by
    rw [List.all_eq_true] at hgd
    have := hgd o (by simpa using Array.mem_of_getElem? hi)
    simpa using this
  have hlen : sps.length ≤ ops.size := by rcases hsz with h | h <;> omega
  have hI := fun vs hvs => hos_idx (P := P) (ops := ops) (S := S) (R := R) (Q := Q) (a0 := a0) hR sps vs hvs sps ops.toList 0 [] (by simp) (by simp) (fun _ _ => trivial) (fun _ _ _ => trivial) h
  have hend : ∀ (vs : Nat → Value) (listed : Array Bool) (a : Act) (w : World), (∀ i, (spAt sps i).pure (vs i)) → (∀ i, i < sps.length → listed.getD i false = true → (spAt sps i).inW w (vs i)) → (∀ i, sps.length ≤ i → listed.getD i false = false) → AgH md ops a0 vs listed a → (∀ i, i < sps.length → listed.getD i false = true) → S w → wpList P ops Q (ops.toList.drop sps.length) a w := by
    intro vs listed a w hvs hin hno hg hall hS
    have e := hg.all hk sps.length hlen hall hno
    rw [e]
    have := (hI vs hvs).2 w hS fun j p hj hp => hin j (by omega) (hall j (by omega))
    rwa [Nat.zero_add] at this
  have hnrm : ∀ (vs : Nat → Value) (listed : Array Bool) (a : Act) (w : World), (∀ i, (spAt sps i).pure (vs i)) → (∀ i, i < sps.length → listed.getD i false = true → (spAt sps i).inW w (vs i)) → (∀ i, sps.length ≤ i → listed.getD i false = false) → AgH md ops a0 vs listed a → Region.ready md ops listed = [] → S w → Q .normal a w := by
    intro vs listed a w hvs hin hno hg hr hS
    have hall := all_listed hk hg.lsz hr
    have hs : ops.size = sps.length := by
      rcases hsz with h | h
      · exact h
      · have := hall sps.length (by omega)
        rw [hno _ (Nat.le_refl _)] at this; cases this
    have := hend vs listed a w hvs hin hno hg (fun i hi => hall i (by omega)) hS
    rw [← hs, ← Array.length_toList, List.drop_length] at this
    exact this
  intro fuel
  induction fuel with
  | zero =>
    intro vs listed a w hvs hin hno hg hf hS
    have hr : Region.ready md ops listed = [] := ready_nil hg.lsz fun i hi => by
      cases hb : listed.getD i false with
      | true => rfl
      | false =>
        have hi' : i < listed.toList.length := by rw [Array.length_toList, hg.lsz]; exact hi
        have := falses_set listed.toList i hi' (by
          rw [Array.getD_eq_getD_getElem?, Array.getElem?_eq_getElem (by simpa using hi')] at hb
          simpa using hb)
        omega
    exact ⟨hr, hnrm vs listed a w hvs hin hno hg hr hS⟩
  | succ fuel ih =>
    intro vs listed a w hvs hin hno hg hf hS
    refine ⟨fun hr => hnrm vs listed a w hvs hin hno hg hr hS, fun i hi => ?_⟩
    unfold Region.ready at hi
    rw [List.mem_filter] at hi
    obtain ⟨hlt0, hi2⟩ := hi
    have hlt : i < ops.size := by simpa using hlt0
    have hio : ops[i]? = some ops[i] := Array.getElem?_eq_getElem hlt
    rw [hio] at hi2
    simp only [Bool.and_eq_true, Bool.not_eq_true', Option.map_some, Option.getD_some] at hi2
    obtain ⟨hl1, hr1⟩ := hi2
    have hls : i < listed.size := by rw [hg.lsz]; exact hlt
    have hl : listed.getD i false = false := by
      rw [Array.getD_eq_getD_getElem?, Array.getElem?_eq_getElem hls] at hl1 ⊢
      exact hl1
    have hr : ∀ e ∈ ops[i].after, Region.binds md e = true → listed.getD e.on false = true := by
      rw [Array.all_eq_true_iff_forall_mem] at hr1
      intro e he hb
      have := hr1 e he
      simpa [hb] using this
    by_cases hil : i < sps.length
    · have hop := (hI vs hvs).1 i ops[i] (by omega) (by omega) hio w hS fun j p hj hp hrd => hin j (by omega) (AgH.binds (md := md) (a0 := a0) (vs := vs) (a := a) hk hio hr hp hj hrd)
      refine (hop.congr (ordOk_at hk hio).1 (fun t ht => hg.looks hk hio hr hl t ht)).wpOp hio (hgd' i _ hio) ?_
      rintro v w' ⟨hp, hq, hS', hR'⟩
      refine ih (fun j => if j = i then v else vs j) _ _ _ (fun j => ?_) (fun j hj hlj => ?_) (fun j hj => ?_) (hg.set hk hio hr v) ?_ hS'
      · show (spAt sps j).pure (if j = i then v else vs j)
        split
        · rename_i e; rw [e]; exact hp
        · exact hvs j
      · show (spAt sps j).inW w' (if j = i then v else vs j)
        split
        · rename_i e; rw [e]; exact hq
        · rename_i e
          rw [getD_set _ _ _ hls, if_neg (fun h => e h.symm)] at hlj
          exact hst j w w' _ hS hR' (hin j hj hlj)
      · rw [getD_set _ _ _ hls, if_neg (by omega)]; exact hno j hj
      · have h1 := falses_set listed.toList i (by simpa using hls) (by
          rw [Array.getD_eq_getD_getElem?, Array.getElem?_eq_getElem hls] at hl
          simpa using hl)
        have h2 : (listed.setIfInBounds i true).toList = listed.toList.set i true := by simp
        rw [h2]; omega
    · -- the last one: all others are done
      have hsz' : ops.size = sps.length + 1 := by
        rcases hsz with h | h
        · omega
        · exact h.1
      have hlast : ((List.range sps.length).all fun i => (List.range ops.size).any fun j => i < j && match ops[j]? with
          | some p => p.after.any (fun e => Region.binds md e && e.on == i)
          | none => false) = true := by
        rcases hsz with h | h
        · omega
        · exact h.2
      have ei : i = sps.length := by omega
      have hall : ∀ d j, j + d = sps.length → listed.getD j false = true ∨ d = 0 := by
        intro d
        induction d using Nat.strongRecOn with
        | ind d ihd =>
          intro j hj
          by_cases hd : d = 0
          · exact .inr hd
          left
          rw [List.all_eq_true] at hlast
          have h1 := hlast j (by simp; omega)
          rw [List.any_eq_true] at h1
          obtain ⟨m, hm, h2⟩ := h1
          simp only [Bool.and_eq_true, decide_eq_true_eq] at h2
          obtain ⟨hjm, h3⟩ := h2
          have hms : m < ops.size := by simpa using hm
          have hmo : ops[m]? = some ops[m] := Array.getElem?_eq_getElem hms
          rw [hmo] at h3
          simp only at h3
          rw [Array.any_eq_true'] at h3
          obtain ⟨e, he, hb⟩ := h3
          simp only [Bool.and_eq_true, beq_iff_eq] at hb
          by_cases hml : m = sps.length
          · have hm2 : ops[m] = ops[i] := by congr 1; omega
            rw [hm2] at he
            have := hr e he hb.1
            rwa [hb.2] at this
          · have := (ihd (sps.length - m) (by omega) m (by omega)).resolve_right (by omega)
            have := hg.down m _ hmo this e he hb.1
            rwa [hb.2] at this
      have hall' : ∀ j, j < sps.length → listed.getD j false = true := fun j hj => (hall (sps.length - j) j (by omega)).resolve_right (by omega)
      have hw := hend vs listed a w hvs hin hno hg hall' hS
      have hdr : ops.toList.drop sps.length = [ops[i]] := by
        rw [← ei, List.drop_eq_getElem_cons (by simpa using hlt)]
        simp
        omega
      rw [hdr] at hw
      have hlst : ∀ j, j < ops.size → (listed.setIfInBounds i true).getD j false = true := fun j hj => by
        rw [getD_set _ _ _ hls]
        split
        · rfl
        · exact hall' j (by omega)
      have hrn : Region.ready md ops (listed.setIfInBounds i true) = [] := ready_nil (by rw [Array.size_setIfInBounds]; exact hg.lsz) hlst
      have hK : ∀ a' w', Q .normal a' w' → wpAny P md ops Q fuel (listed.setIfInBounds i true) a' w' := by
        intro a' w' hq
        cases fuel with
        | zero => exact ⟨hrn, hq⟩
        | succ f => exact ⟨fun _ => hq, fun m hm => by rw [hrn] at hm; cases hm⟩
      unfold Go.wpOp
      simp only [hio]
      simp only [wpList] at hw
      split
      · rename_i hwn
        rw [if_pos hwn] at hw
        rcases hw with hw | hw
        · exact .inl (Oper.wp_mono (fun a w h => hK a w h) hw)
        · exact .inr hw
      · rename_i hwn
        rw [if_neg hwn] at hw
        exact hK _ _ hw
def ExS : List Sp → Prop
  | [] => True
  | s :: r => (∃ v, s.pure v) ∧ ExS r
def StS (S : World → Prop) (R : World → World → Prop) : List Sp → Prop
  | [] => True
  | s :: r => (∀ w w' v, S w → R w w' → s.inW w v → s.inW w' v) ∧ StS S R r
theorem ExS.at : ∀ {sps : List Sp}, ExS sps → ∀ i, ∃ v, (spAt sps i).pure v
  | [], _, _ => ⟨undef, by simp [spAt, Sp.pure]⟩
  | s :: r, h, 0 => by simpa [spAt] using h.1
  | s :: r, h, i + 1 => by have := ExS.at h.2 i; simpa [spAt] using this
theorem StS.at {S : World → Prop} {R : World → World → Prop} : ∀ {sps : List Sp}, StS S R sps → ∀ i w w' v, S w → R w w' → (spAt sps i).inW w v → (spAt sps i).inW w' v
  | [], _, _ => by simp [spAt, Sp.inW]
  | s :: r, h, 0 => by simpa [spAt] using h.1
  | s :: r, h, i + 1 => by have := StS.at h.2 i; simpa [spAt] using this
def RStep (B : Nat) (w w' : World) : Prop := w.heap.size ≤ w'.heap.size ∧ ∀ b, B ≤ b → b < w.heap.size → w'.heap[b]? = w.heap[b]?
theorem RStep.refl (B : Nat) (w : World) : RStep B w w := ⟨Nat.le_refl _, fun _ _ _ => rfl⟩
theorem RStep.of {B : Nat} {w w' : World} (h : Below w.heap.size w w') : RStep B w w' := ⟨h.size, fun b _ hb => h.block b hb⟩
def InB (B : Nat) (w : World) (b : Nat) (cs : Array Value) (e : TypeId) : Prop := B ≤ b ∧ w.heap[b]? = some (.cells cs e (0, 0))
theorem InB.mv {B : Nat} {w w' : World} {b : Nat} {cs : Array Value} {e : TypeId} (h : InB B w b cs e) (hR : RStep B w w') : InB B w' b cs e := ⟨h.1, (hR.2 b h.1 (Array.getElem?_eq_some_iff.1 h.2).1).trans h.2⟩
theorem wp_region_hos {id : Nat} {a : Act} {w : World} {Q : Exit → Act → World → Prop} (S : World → Prop) (R : World → World → Prop) (sps : List Sp) (hm : P.follows .mixedOrders = true) (hk : ordOk .any ops = true) (ht : tailOk .any ops sps.length = true) (hS : S w.drew) (hR : ∀ w, R w w)
    (hex : ExS sps) (hst : StS S R sps) (h : HoS P ops S R Q sps ops.toList a []) : (Code.region id ops true).wp P Q a w := by
  refine wp_region_any hm ?_
  have hf : ∀ i, (Array.replicate ops.size false).getD i false = false := fun i => by
    rw [Array.getD_eq_getD_getElem?, Array.getElem?_replicate]; split <;> rfl
  refine any_of_hos hk sps ht hR hst.at h _ (fun i => Classical.choose (hex.at i)) _ _ _ (fun i => Classical.choose_spec (hex.at i)) (fun i _ hl => (by rw [hf] at hl; cases hl)) (fun i _ => hf i) ⟨by simp, fun i o hi hl => (by rw [hf] at hl; cases hl), rfl, rfl, fun i o t hi hd hl => (by rw [hf] at hl; cases hl), fun t _ => rfl⟩ ?_ hS
  rw [Array.toList_replicate, falses_rep]; exact Nat.le_refl _
end
end Go.Proofs.YtkcgejbnhpccdaaGreat
