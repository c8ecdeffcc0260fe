import Derived.Test.YtkcgejbnhpccdaaGreatJ05
import Derived.Test.YtkcgejbnhpccdaaGreatJ08
import Derived.Deep.RegionHeld3
import Derived.Maps.AppendAt
import Derived.Laws.CopyOwn
set_option linter.unusedSimpArgs false
set_option linter.unusedVariables false
namespace Go.Proofs.YtkcgejbnhpccdaaGreat
open Go.RowKit
/-! ### a run of a module, as a plain function -/
structure RS where
  mem : List Int
  out : List Int
  steps : Nat
/-- Numbers written over a row from a place on, as far as it goes. -/
def putAt (l : List Int) (k : Nat) : List Int → List Int
  | [] => l
  | x :: r => putAt (l.set k x) (k + 1) r
theorem putAt_len (r : List Int) : ∀ (l : List Int) (k : Nat), (putAt l k r).length = l.length := by
  induction r with
  | nil => intro l k; rfl
  | cons x r ih => intro l k; rw [putAt, ih]; simp
def vl (vals : List Int) (k : Int) : Int := vals.getD k.toNat 0
abbrev Callee := Int → List Int → RS → (Int × Int) × RS
/-- What an instruction gives, the code, and the state behind it. -/
def doI (call : Callee) (f : XFunc) (i : XInst) (vals : List Int) (s : RS) : (Int × Int) × RS :=
  if bin i.op then (if (binV i.op i.w (vl vals i.a) (vl vals i.b)).2 = 0 then (((binV i.op i.w (vl vals i.a) (vl vals i.b)).1, 0), s) else ((0, 1), s))
  else if cst i.op then (((castV i.op (typeOf f i.a) i.w (vl vals i.a)).1, 0), s)
  else if i.op = 21 then ((i.imm, 0), s)
  else if i.op = 22 then ((if vl vals i.a = 1 then vl vals i.b else vl vals i.c, 0), s)
  else if i.op = 27 then ((vl vals i.a, 0), s)
  else if i.op = 26 then call i.imm (i.args.map (vl vals)) s
  else if i.op = 25 then (if s.out.length = 30 then ((0, 7), s) else ((0, 0), ⟨s.mem, s.out ++ [vl vals i.a], s.steps⟩))
  else if 32 ≤ vl vals i.a then ((0, 2), s)
  else if i.op = 24 then ((0, 0), ⟨s.mem.set (vl vals i.a).toNat (vl vals i.b % 256), s.out, s.steps⟩)
  else ((s.mem.getD (vl vals i.a).toNat 0, 0), s)
/-- The instructions of a block: the code, the values, the state. -/
def instsR (call : Callee) (f : XFunc) (fuel : Nat) : List XInst → Nat → List Int → RS → Int × List Int × RS
  | [], _, vals, s => (0, vals, s)
  | i :: r, id, vals, s =>
    if s.steps = fuel then (4, vals, s)
    else if (doI call f i vals ⟨s.mem, s.out, s.steps + 1⟩).1.2 = 0 then
      instsR call f fuel r (id + 1) (vals.set id (doI call f i vals ⟨s.mem, s.out, s.steps + 1⟩).1.1) (doI call f i vals ⟨s.mem, s.out, s.steps + 1⟩).2
    else ((doI call f i vals ⟨s.mem, s.out, s.steps + 1⟩).1.2, vals, (doI call f i vals ⟨s.mem, s.out, s.steps + 1⟩).2)
/-- What the phis of a block are, for one that leads to it. -/
def nextP (f : XFunc) (to left : Int) (vals : List Int) : List Int := (blkAt f to).phis.map fun p => vl vals (p.ins.getD (idx (fun y => left == y) (predsOf f to)).toNat 0)
def enterV (f : XFunc) (to left : Int) (vals : List Int) : List Int := putAt vals (firstOf f to).toNat (nextP f to left vals)
def goTo (t : XTerm) (vals : List Int) : Int := if t.kind = 3 ∧ vl vals t.a = 0 then t.y else t.x
/-- The blocks, from one on, in so many rounds at most. -/
def blocksR (call : Callee) (f : XFunc) (fuel : Nat) : Nat → Int → List Int → RS → (Int × Int) × RS
  | 0, _, _, s => ((0, 4), s)
  | n + 1, b, vals, s =>
    let R := instsR call f fuel (blkAt f b).insts (firstOf f b + (blkAt f b).phis.length).toNat vals s
    let t := (blkAt f b).term
    if R.1 = 0 then
      if R.2.2.steps = fuel then ((0, 4), R.2.2)
      else if t.kind = 4 then ((0, 3), ⟨R.2.2.mem, R.2.2.out, R.2.2.steps + 1⟩)
      else if t.kind = 1 then ((vl R.2.1 t.a, 0), ⟨R.2.2.mem, R.2.2.out, R.2.2.steps + 1⟩)
      else blocksR call f fuel n (goTo t R.2.1) (enterV f (goTo t R.2.1) b R.2.1) ⟨R.2.2.mem, R.2.2.out, R.2.2.steps + 1⟩
    else ((0, R.1), R.2.2)
def vals0 (f : XFunc) (args : List Int) : List Int := putAt (List.replicate (countOf f).toNat 0) 0 args
/-- A call, so deep at most. -/
def callR (m : XMod) (fuel : Nat) : Nat → Callee
  | 0, _, _, s => ((0, 5), s)
  | d + 1, k, args, s => blocksR (callR m fuel d) (m.funcs.getD k.toNat func0) fuel (fuel + 1 - s.steps) 0 (vals0 (m.funcs.getD k.toNat func0) args) s

/-! ### what holds all along -/
structure ROk (fuel : Nat) (s : RS) : Prop where
  mem : s.mem.length = 32
  byt : ∀ i (h : i < s.mem.length), 0 ≤ s.mem[i] ∧ s.mem[i] ≤ 255
  out : s.out.length ≤ 30
  steps : s.steps ≤ fuel
/-- Values are never below 0. -/
def VOk (n : Nat) (vals : List Int) : Prop := vals.length = n ∧ ∀ i (h : i < vals.length), 0 ≤ vals[i] ∧ vals[i] ≤ 4294967295
theorem vl_rng {n : Nat} {vals : List Int} (h : VOk n vals) (k : Int) : 0 ≤ vl vals k ∧ vl vals k ≤ 4294967295 := by
  unfold vl
  rw [List.getD_eq_getElem?_getD]
  by_cases hk : k.toNat < vals.length
  · rw [List.getElem?_eq_getElem hk]; exact h.2 _ hk
  · rw [List.getElem?_eq_none (by omega)]; exact ⟨by decide, by decide⟩
theorem VOk.set {n : Nat} {vals : List Int} (h : VOk n vals) (k : Nat) (v : Int) (hv : 0 ≤ v ∧ v ≤ 4294967295) : VOk n (vals.set k v) := by
  refine ⟨by simpa using h.1, fun i hi => ?_⟩
  simp only [List.getElem_set]
  split
  · exact hv
  · exact h.2 i (by simpa using hi)
theorem VOk.put {n : Nat} (r : List Int) (hr : ∀ x ∈ r, 0 ≤ x ∧ x ≤ 4294967295) : ∀ {vals : List Int} (k : Nat), VOk n vals → VOk n (putAt vals k r) := by
  induction r with
  | nil => intro vals k h; exact h
  | cons x r ih => intro vals k h; exact ih (fun y hy => hr y (by simp [hy])) (k + 1) (h.set k x (hr x (by simp)))
theorem vals0_ok (f : XFunc) (args : List Int) (h : ∀ x ∈ args, 0 ≤ x ∧ x ≤ 4294967295) : VOk (countOf f).toNat (vals0 f args) :=
  VOk.put args h 0 ⟨by simp, fun i hi => by simp⟩
theorem enterV_ok {n : Nat} {f : XFunc} {to left : Int} {vals : List Int} (h : VOk n vals) : VOk n (enterV f to left vals) :=
  VOk.put _ (fun x hx => by
    unfold nextP at hx
    obtain ⟨p, -, rfl⟩ := List.mem_map.1 hx
    exact vl_rng h _) _ h
/-- What is asked of a callee. -/
def CallOk (fuel : Nat) (call : Callee) : Prop := ∀ (k : Int) (args : List Int) (s : RS), ROk fuel s → (∀ x ∈ args, 0 ≤ x ∧ x ≤ 4294967295) → ROk fuel (call k args s).2 ∧ s.steps ≤ (call k args s).2.steps ∧ 0 ≤ (call k args s).1.1 ∧ (call k args s).1.1 ≤ 4294967295 ∧ 0 ≤ (call k args s).1.2 ∧ (call k args s).1.2 ≤ 7
theorem doI_ok {fuel n : Nat} {call : Callee} (hc : CallOk fuel call) (f : XFunc) {ids funcs : Int} {i : XInst} (hi : instOk ids funcs i = true) {vals : List Int} (hv : VOk n vals) {s : RS} (hs : ROk fuel s) :
    ROk fuel (doI call f i vals s).2 ∧ s.steps ≤ (doI call f i vals s).2.steps ∧ 0 ≤ (doI call f i vals s).1.1 ∧ (doI call f i vals s).1.1 ≤ 4294967295 ∧ 0 ≤ (doI call f i vals s).1.2 ∧ (doI call f i vals s).1.2 ≤ 7 := by
  have ha := vl_rng hv i.a
  unfold doI
  split
  · split
    · exact ⟨hs, Nat.le_refl _, (bin_rng _ _ _ _).1, (bin_rng _ _ _ _).2, by first | (simp; done) | (simp [instsR, blocksR, callR]; done) | decide, by first | (simp; done) | (simp [instsR, blocksR, callR]; done) | decide⟩
    · exact ⟨hs, Nat.le_refl _, by first | (simp; done) | (simp [instsR, blocksR, callR]; done) | decide, by first | (simp; done) | (simp [instsR, blocksR, callR]; done) | decide, by first | (simp; done) | (simp [instsR, blocksR, callR]; done) | decide, by first | (simp; done) | (simp [instsR, blocksR, callR]; done) | decide⟩
  split
  · exact ⟨hs, Nat.le_refl _, (cast_rng _ _ _ _ ha).1, (cast_rng _ _ _ _ ha).2, by first | (simp; done) | (simp [instsR, blocksR, callR]; done) | decide, by first | (simp; done) | (simp [instsR, blocksR, callR]; done) | decide⟩
  split
  · rename_i h3
    unfold instOk immFits at hi
    rw [if_pos (by simpa using h3)] at hi
    simp only [Bool.and_eq_true] at hi
    obtain ⟨v1, v2, -⟩ := val_rng hi.2
    exact ⟨hs, Nat.le_refl _, v1, v2, by first | (simp; done) | (simp [instsR, blocksR, callR]; done) | decide, by first | (simp; done) | (simp [instsR, blocksR, callR]; done) | decide⟩
  split
  · refine ⟨hs, Nat.le_refl _, ?_, ?_, by first | (simp; done) | (simp [instsR, blocksR, callR]; done) | decide, by first | (simp; done) | (simp [instsR, blocksR, callR]; done) | decide⟩
    · show 0 ≤ (if vl vals i.a = 1 then vl vals i.b else vl vals i.c)
      split
      · exact (vl_rng hv _).1
      · exact (vl_rng hv _).1
    · show (if vl vals i.a = 1 then vl vals i.b else vl vals i.c) ≤ _
      split
      · exact (vl_rng hv _).2
      · exact (vl_rng hv _).2
  split
  · exact ⟨hs, Nat.le_refl _, ha.1, ha.2, by first | (simp; done) | (simp [instsR, blocksR, callR]; done) | decide, by first | (simp; done) | (simp [instsR, blocksR, callR]; done) | decide⟩
  split
  · refine hc _ _ _ hs fun x hx => ?_
    obtain ⟨a, -, rfl⟩ := List.mem_map.1 hx
    exact vl_rng hv a
  split
  · split
    · exact ⟨hs, Nat.le_refl _, by first | (simp; done) | (simp [instsR, blocksR, callR]; done) | decide, by first | (simp; done) | (simp [instsR, blocksR, callR]; done) | decide, by first | (simp; done) | (simp [instsR, blocksR, callR]; done) | decide, by first | (simp; done) | (simp [instsR, blocksR, callR]; done) | decide⟩
    · rename_i hl
      refine ⟨⟨hs.mem, hs.byt, ?_, hs.steps⟩, Nat.le_refl _, by first | (simp; done) | (simp [instsR, blocksR, callR]; done) | decide, by first | (simp; done) | (simp [instsR, blocksR, callR]; done) | decide, by first | (simp; done) | (simp [instsR, blocksR, callR]; done) | decide, by first | (simp; done) | (simp [instsR, blocksR, callR]; done) | decide⟩
      have := hs.out
      simp; omega
  split
  · exact ⟨hs, Nat.le_refl _, by first | (simp; done) | (simp [instsR, blocksR, callR]; done) | decide, by first | (simp; done) | (simp [instsR, blocksR, callR]; done) | decide, by first | (simp; done) | (simp [instsR, blocksR, callR]; done) | decide, by first | (simp; done) | (simp [instsR, blocksR, callR]; done) | decide⟩
  split
  · refine ⟨⟨by simpa using hs.mem, fun j hj => ?_, hs.out, hs.steps⟩, Nat.le_refl _, by first | (simp; done) | (simp [instsR, blocksR, callR]; done) | decide, by first | (simp; done) | (simp [instsR, blocksR, callR]; done) | decide, by first | (simp; done) | (simp [instsR, blocksR, callR]; done) | decide, by first | (simp; done) | (simp [instsR, blocksR, callR]; done) | decide⟩
    simp only [List.getElem_set]
    split
    · omega
    · exact hs.byt j (by simpa using hj)
  · refine ⟨hs, Nat.le_refl _, ?_, ?_, by first | (simp; done) | (simp [instsR, blocksR, callR]; done) | decide, by first | (simp; done) | (simp [instsR, blocksR, callR]; done) | decide⟩
    all_goals
      show _ ≤ _
      simp only
      rw [List.getD_eq_getElem?_getD]
      by_cases hk : (vl vals i.a).toNat < s.mem.length
      · rw [List.getElem?_eq_getElem hk]
        have := hs.byt _ hk
        simp only [Option.getD_some]
        omega
      · rw [List.getElem?_eq_none (by omega)]; decide
theorem instsR_ok {fuel n : Nat} {call : Callee} (hc : CallOk fuel call) (f : XFunc) {ids funcs : Int} : ∀ (l : List XInst), (∀ i ∈ l, instOk ids funcs i = true) → ∀ (id : Nat) (vals : List Int) (s : RS), VOk n vals → ROk fuel s →
    ROk fuel (instsR call f fuel l id vals s).2.2 ∧ s.steps ≤ (instsR call f fuel l id vals s).2.2.steps ∧ VOk n (instsR call f fuel l id vals s).2.1 ∧ 0 ≤ (instsR call f fuel l id vals s).1 ∧ (instsR call f fuel l id vals s).1 ≤ 7
  | [], _, _, _, _, hv, hs => ⟨hs, Nat.le_refl _, hv, by first | (simp; done) | (simp [instsR, blocksR, callR]; done) | decide, by first | (simp; done) | (simp [instsR, blocksR, callR]; done) | decide⟩
  | i :: r, hl, id, vals, s, hv, hs => by
    unfold instsR
    split
    · exact ⟨hs, Nat.le_refl _, hv, by first | (simp; done) | (simp [instsR, blocksR, callR]; done) | decide, by first | (simp; done) | (simp [instsR, blocksR, callR]; done) | decide⟩
    · rename_i hst
      have hd := doI_ok hc f (hl i (by simp)) hv (s := ⟨s.mem, s.out, s.steps + 1⟩) ⟨hs.mem, hs.byt, hs.out, by have := hs.steps; show s.steps + 1 ≤ fuel; omega⟩
      obtain ⟨h1, h2, h3, h4, h5, h6⟩ := hd
      have h2' : s.steps + 1 ≤ (doI call f i vals ⟨s.mem, s.out, s.steps + 1⟩).2.steps := h2
      split
      · obtain ⟨k1, k2, k3⟩ := instsR_ok hc f r (fun j hj => hl j (by simp [hj])) (id + 1) _ _ (hv.set id _ ⟨h3, h4⟩) h1
        exact ⟨k1, by omega, k3⟩
      · exact ⟨h1, Nat.le_of_succ_le h2', hv, h5, h6⟩
theorem blocksR_ok {fuel n : Nat} {call : Callee} (hc : CallOk fuel call) {f : XFunc} {ids funcs : Int} (hf : ∀ b ∈ f.blocks, ∀ i ∈ b.insts, instOk ids funcs i = true) : ∀ (k : Nat) (b : Int) (vals : List Int) (s : RS), VOk n vals → ROk fuel s →
    ROk fuel (blocksR call f fuel k b vals s).2 ∧ s.steps ≤ (blocksR call f fuel k b vals s).2.steps ∧ 0 ≤ (blocksR call f fuel k b vals s).1.1 ∧ (blocksR call f fuel k b vals s).1.1 ≤ 4294967295 ∧ 0 ≤ (blocksR call f fuel k b vals s).1.2 ∧ (blocksR call f fuel k b vals s).1.2 ≤ 7
  | 0, _, _, _, _, hs => ⟨hs, Nat.le_refl _, by first | (simp; done) | (simp [instsR, blocksR, callR]; done) | decide, by first | (simp; done) | (simp [instsR, blocksR, callR]; done) | decide, by first | (simp; done) | (simp [instsR, blocksR, callR]; done) | decide, by first | (simp; done) | (simp [instsR, blocksR, callR]; done) | decide⟩
  | k + 1, b, vals, s, hv, hs => by
    have hin : ∀ i ∈ (blkAt f b).insts, instOk ids funcs i = true := by
      unfold blkAt
      rw [List.getD_eq_getElem?_getD]
      by_cases hb : b.toNat < f.blocks.length
      · rw [List.getElem?_eq_getElem hb]; exact hf _ (List.getElem_mem _)
      · rw [List.getElem?_eq_none (by omega)]; intro i hi; cases hi
    obtain ⟨h1, h2, h3, h4, h5⟩ := instsR_ok hc f _ hin (firstOf f b + (blkAt f b).phis.length).toNat vals s hv hs
    unfold blocksR
    simp only
    generalize instsR call f fuel (blkAt f b).insts (firstOf f b + (blkAt f b).phis.length).toNat vals s = R at *
    split
    · split
      · exact ⟨h1, h2, by first | (simp; done) | (simp [instsR, blocksR, callR]; done) | decide, by first | (simp; done) | (simp [instsR, blocksR, callR]; done) | decide, by first | (simp; done) | (simp [instsR, blocksR, callR]; done) | decide, by first | (simp; done) | (simp [instsR, blocksR, callR]; done) | decide⟩
      · rename_i hst
        have hs1 : ROk fuel ⟨R.2.2.mem, R.2.2.out, R.2.2.steps + 1⟩ := ⟨h1.mem, h1.byt, h1.out, by have := h1.steps; show _ + 1 ≤ fuel; omega⟩
        split
        · exact ⟨hs1, by show s.steps ≤ _ + 1; omega, by first | (simp; done) | (simp [instsR, blocksR, callR]; done) | decide, by first | (simp; done) | (simp [instsR, blocksR, callR]; done) | decide, by first | (simp; done) | (simp [instsR, blocksR, callR]; done) | decide, by first | (simp; done) | (simp [instsR, blocksR, callR]; done) | decide⟩
        split
        · exact ⟨hs1, by show s.steps ≤ _ + 1; omega, (vl_rng h3 _).1, (vl_rng h3 _).2, by first | (simp; done) | (simp [instsR, blocksR, callR]; done) | decide, by first | (simp; done) | (simp [instsR, blocksR, callR]; done) | decide⟩
        · obtain ⟨k1, k2, k3⟩ := blocksR_ok hc hf k (goTo (blkAt f b).term R.2.1) (enterV f (goTo (blkAt f b).term R.2.1) b R.2.1) ⟨R.2.2.mem, R.2.2.out, R.2.2.steps + 1⟩ (enterV_ok h3) hs1
          have k2' : R.2.2.steps + 1 ≤ _ := k2
          exact ⟨k1, by omega, k3⟩
    · exact ⟨h1, h2, by first | (simp; done) | (simp [instsR, blocksR, callR]; done) | decide, by first | (simp; done) | (simp [instsR, blocksR, callR]; done) | decide, h4, h5⟩
theorem shape_insts {m : XMod} (h : shapeOk m = true) : ∀ f ∈ m.funcs, ∀ b ∈ f.blocks, ∀ i ∈ b.insts, instOk (countOf f) m.funcs.length i = true := by
  intro f hf b hb i hi
  unfold shapeOk at h
  simp only [Bool.and_eq_true, List.all_eq_true] at h
  have h1 := h.2 f hf
  unfold funcOk at h1
  simp only [Bool.and_eq_true, List.all_eq_true] at h1
  have h2 := h1.2 b hb
  unfold blockOk at h2
  simp only [Bool.and_eq_true, List.all_eq_true] at h2
  exact h2.1.2 i hi
theorem callR_ok {m : XMod} (h : shapeOk m = true) (fuel : Nat) : ∀ d, CallOk fuel (callR m fuel d)
  | 0 => fun _ _ s hs _ => ⟨hs, Nat.le_refl _, by first | (simp; done) | (simp [instsR, blocksR, callR]; done) | decide, by first | (simp; done) | (simp [instsR, blocksR, callR]; done) | decide, by first | (simp; done) | (simp [instsR, blocksR, callR]; done) | decide, by first | (simp; done) | (simp [instsR, blocksR, callR]; done) | decide⟩
  | d + 1 => fun k args s hs ha => by
    have hc := callR_ok h fuel d
    unfold callR
    generalize hg : m.funcs.getD k.toNat func0 = g
    have hin : ∀ b ∈ g.blocks, ∀ i ∈ b.insts, instOk (countOf g) m.funcs.length i = true := by
      rw [← hg, List.getD_eq_getElem?_getD]
      by_cases hk : k.toNat < m.funcs.length
      · rw [List.getElem?_eq_getElem hk]; exact shape_insts h _ (List.getElem_mem _)
      · rw [List.getElem?_eq_none (by omega)]; intro b hb; cases hb
    exact blocksR_ok hc hin _ _ _ _ (vals0_ok g args ha) hs
/-! ### what Invoked answers -/
def rs0 (mem : ByteArray) : RS := ⟨mem.data.toList.map fun b => (b.toNat : Int), [], 0⟩
def invPre (m : XMod) (k : Int) (args : List Int) (mem : ByteArray) (fuel : Int) : Bool := modOk m && (inR k 0 (m.funcs.length - 1) && argsOk (m.funcs.getD k.toNat func0).params args && mem.size == 32 && inR fuel 0 2000)
end Go.Proofs.YtkcgejbnhpccdaaGreat
set_option linter.unusedSimpArgs false
set_option linter.unusedVariables false
namespace Go.Proofs.YtkcgejbnhpccdaaGreat
open Go.RowKit
def seesT (f : XFunc) (b : Int) : Bool := !((blkAt f b).term.kind == 1 || (blkAt f b).term.kind == 3) || seen f (blkAt f b).term.a b (countOf f)
theorem seesB_parts (f : XFunc) (b : Int) : seesB f b = ((blkAt f b).phis.all (seesP f b) && ((List.range (blkAt f b).insts.length).all (seesI f b) && seesT f b)) := by
  unfold seesB seesT
  rw [Bool.and_assoc]
/-- What is asked of an id that a phi names for the k-th block that leads to it. -/
def seesK (f : XFunc) (b : Int) (p : XPhi) (k : Nat) : Bool := !((reach f (-1)).getD ((predsOf f b).getD k 0).toNat false && !seen f (p.ins.getD k 0) ((predsOf f b).getD k 0) (countOf f))
theorem seesP_all (f : XFunc) (b : Int) (p : XPhi) : seesP f b p = (List.range p.ins.length).all (seesK f b p) := rfl
theorem preds_in (f : XFunc) (b : Int) (k : Nat) (h : k < (predsOf f b).length) : 0 ≤ (predsOf f b)[k] ∧ (predsOf f b)[k] < f.blocks.length := by
  have hm : (predsOf f b)[k] ∈ predsOf f b := List.getElem_mem h
  unfold predsOf at hm
  exact (upTo_mem _ _).1 (List.mem_filter.1 hm).1
theorem phisOk_at {f : XFunc} (h : phisOk f = true) (b : Nat) (hb : b < f.blocks.length) (p : XPhi) (hp : p ∈ f.blocks[b].phis) : p.ins.length = (predsOf f b).length := by
  unfold phisOk at h
  rw [List.all_eq_true] at h
  have := h b (by simpa using hb)
  rw [blkAt_nat f b hb, List.all_eq_true] at this
  simpa using this p hp
theorem first_rng (f : XFunc) (b : Int) (h : Fo f) : 0 ≤ firstOf f b ∧ firstOf f b ≤ 60 := by
  have h1 := countIn_le f.params.length (f.blocks.take b.toNat)
  have h2 := countIn_take_le f.params.length f.blocks b.toNat
  have h3 : countIn f.params.length f.blocks = countOf f := rfl
  have h4 := h.2.1
  unfold firstOf
  omega
theorem cell_off (W : World) (g j b o : Nat) (u : Value) (h : b ≠ g) : (W.setCell ⟨g, j, none⟩ u).cell? ⟨b, o, none⟩ = W.cell? ⟨b, o, none⟩ :=
  World.cell?_of_block (w := W) (w' := W.setCell ⟨g, j, none⟩ u) (a := ⟨b, o, none⟩) (Below.heap_setCell _ _ _ _ h)
theorem getD_get {α : Type} (l : List α) (k : Nat) (d : α) (h : k < l.length) : l.getD k d = l[k] := by rw [List.getD_eq_getElem?_getD, List.getElem?_eq_getElem h]; rfl
theorem c_CountOfB (f : XFunc) (b : Nat) (w : World) (hb : FB w b f) : ∃ A1 c1 A2 c2, w.cell? ⟨b, 0, none⟩ = some (.slice A1 f.params.length c1) ∧ w.cell? ⟨b, 1, none⟩ = some (.int .i64 f.ret) ∧ w.cell? ⟨b, 2, none⟩ = some (.slice A2 f.blocks.length c2) ∧ ∀ W, Below w.heap.size w W → KFunc lm W f [.slice A1 f.params.length c1, .int .i64 f.ret, .slice A2 f.blocks.length c2] := by
  obtain ⟨A1, c1, A2, c2, h0, h1, h2, h3, h4⟩ := hb
  exact ⟨A1, c1, A2, c2, h0, h1, h2, fun W hW => KM.mv h3 hW⟩
set_option maxRecDepth 20000 in
set_option maxHeartbeats 8000000 in
theorem c_areSeen (lo : Nat) (f : XFunc) (cs : List Value) (b : Nat) (v : Value) (w : World) (hf : KFunc lm w f cs) (hfo : Fo f) (hb : b < f.blocks.length) (hv : OwB lo w v (reach f (-1))) (hph : phisOk f = true) :
    Calls Tryz.prog 136 #[.agg cs.toArray, .int .i64 b, v] w (Ret (.bool (seesB f b)) w) := by
  have hpr := fun W hW => c_predsOf f cs b W (KM.mv hf hW)
  have hf' := Hd.mk hf
  obtain ⟨v1, v2, rfl, hp, hb'⟩ := hf
  obtain ⟨A1, c1, rfl, -, -, -⟩ := hp.sm
  obtain ⟨A2, c2, rfl, hcap, hl2, hb0⟩ := hb'.sm
  clear hp hb'
  have hbl := fun o o' o'' => (((Below.refl w.heap.size w).al (Nat.le_refl _) o).al (by simp) o').al (by simp; omega) o''
  have hrl := reach_len f (-1)
  obtain ⟨Av, cv, rfl, -, -, -, -⟩ := own_shape hv
  have hv' := Hd.mk hv
  clear hv
  generalize hR : seesB f b = R
  have hR' := Hd.mk hR
  clear hR
  rw [seesB_parts] at hR'
  have hbk := blkAt_nat f b hb
  have hpa := Hd.mk (phisOk_at hph b hb)
  clear hph
  obtain ⟨eb, eo, ecs, hA_, heb, ⟨bv1, bv2, rfl, hr_, hr2_⟩, hat_⟩ := (hb0.out).in0 (Below.refl w.heap.size w) (b) (hb)
  cases hA_
  have hew := Nat.lt_of_lt_of_le heb (Below.refl w.heap.size w).size
  have g0 := hat_ 0 _ rfl
  have g1 := hat_ 1 _ rfl
  have g2 := hat_ 2 _ rfl
  have g3 := hat_ 3 _ rfl
  have g4 := hat_ 4 _ rfl
  have g5 := hat_ 5 _ rfl
  clear hat_
  simp at g0 g1 g2 g3 g4 g5
  obtain ⟨Ap, cp, rfl, hcp, hlp, hrp⟩ := hr_.sm
  obtain ⟨Ai, ci, rfl, hci, hli, hri⟩ := hr2_.sm
  clear hr_ hr2_
  have heb1 : eb < w.heap.size + 1 := by omega
  have heb2 : eb < w.heap.size + 1 + 1 := by omega
  rw [hbk] at hR'
  have y0 : (0 : Int) ≤ (b : Int) := by omega
  have y1 : (b : Int) < (f.blocks.length : Int) := by omega
  have hsT := Hd.mk (show seesT f b = _ from rfl)
  have hbk' := Hd.mk hbk
  generalize f.blocks[b] = x at *
  obtain ⟨W1, hW1⟩ : ∃ W1 : World, W1 = ((w.alloc (.cells #[.slice A1 f.params.length c1, .int .i64 f.ret, .slice (some ⟨eb, eo, none⟩) f.blocks.length c2] 35)).alloc (.cells #[.int .i64 b] 2)).alloc (.cells #[.slice Ap x.phis.length cp, .slice Ai x.insts.length ci, .int .i64 x.term.kind, .int .i64 x.term.a, .int .i64 x.term.x, .int .i64 x.term.y] 32) := ⟨_, rfl⟩
  have hz1 : W1.heap.size = w.heap.size + 3 := by rw [hW1]; simp
  have hB1 : Below w.heap.size w W1 := by rw [hW1]; exact hbl _ _ _
  have hfb1 : FB W1 w.heap.size f := ⟨A1, c1, _, c2, by rw [hW1]; exact (World.cell?_alloc_past _ _ _ (by first | omega | (simp; done) | (simp; omega))).trans (by simp), by rw [hW1]; exact (World.cell?_alloc_past _ _ _ (by first | omega | (simp; done) | (simp; omega))).trans (by simp), by rw [hW1]; exact (World.cell?_alloc_past _ _ _ (by first | omega | (simp; done) | (simp; omega))).trans (by simp), KM.mv hf'.out hB1, by omega⟩
  have hnb1 : NB W1 (w.heap.size + 1) b := ⟨by rw [hW1]; exact (World.cell?_alloc_past _ _ _ (by first | omega | (simp; done) | (simp; omega))).trans (new_cell _ _ _ (by simp) 0 _ rfl), by omega⟩
  have hbc1 : ∀ o u, [Value.slice Ap x.phis.length cp, .slice Ai x.insts.length ci, .int .i64 x.term.kind, .int .i64 x.term.a, .int .i64 x.term.x, .int .i64 x.term.y][o]? = some u → W1.cell? ⟨w.heap.size + 2, o, none⟩ = some u := fun o u hu => by rw [hW1]; exact new_cell _ _ _ (by simp) o u (by simpa using hu)
  have hzf1 : ∀ o u, [Value.slice A1 f.params.length c1, .int .i64 f.ret, .slice (some ⟨eb, eo, none⟩) f.blocks.length c2][o]? = some u → W1.cell? ⟨w.heap.size, o, none⟩ = some u := fun o u hu => by rw [hW1]; exact (World.cell?_alloc_past _ _ _ (by first | omega | (simp; done) | (simp; omega))).trans ((World.cell?_alloc_past _ _ _ (by first | omega | (simp; done) | (simp; omega))).trans (new_cell _ _ _ rfl o u (by simpa using hu)))
  have hp1 := hpr W1 hB1
  have hW1' := Hd.mk hW1
  have hpl := preds_len f b
  have hpi := Hd.mk (preds_in f b)
  have hn10 := hfo.1.2.2
  have hc60 := hfo.2.1
  have hc0 := countOf_nn f
  have hfo' := Hd.mk hfo
  clear hW1 hpr hbl hbk hfo
  go_enter Tryz.func136, Tryz.ntmps136
  go_wp2_with fail
  rw [← hW1'.out]
  refine hp1.mono ?_; rintro e w2 ⟨u2, rfl, ho2, hb2⟩
  have hpr2 := Hd.mk (OI.rd ho2 (by omega))
  obtain ⟨Au, cu, rfl, -, -, -, -⟩ := own_shape ho2
  have hz2 := hb2.size
  have hfb2 := Hd.mk (hfb1.mv hb2)
  have hnb2 := Hd.mk (hnb1.mv hb2)
  have hbc2 := Hd.mk (fun o u hu => (bat hb2 (w.heap.size + 2) (by omega) o).trans (hbc1 o u hu))
  have hv2 := Hd.mk (own_mv (show w.ownsRow lo 4 1 _ _ _ from hv'.out) (hB1.then hb2))
  have hB2 := Hd.mk (hB1.then hb2)
  have hzf2 := Hd.mk (fun o u hu => (bat hb2 w.heap.size (by omega) o).trans (hzf1 o u hu))
  have k0 := hbc2.out 0 _ rfl
  clear hb2 ho2 hp1 hfb1 hnb1 hbc1 hv' hzf1
  go_wp2
  go_loopw [28] (fun s28 wr => ∃ j : Nat, j ≤ x.phis.length ∧ s28 = .int .i64 j ∧ Hd ((x.phis.take j).all (seesP f b) = true) ∧ Hd (Below w2.heap.size w2 wr)) (fun s28 _ => x.phis.length - (intOf s28).toNat)
  case atStart => exact ⟨0, Nat.zero_le _, rfl, ⟨rfl⟩, ⟨Below.refl _ _⟩⟩
  case round =>
    obtain ⟨j, hj, rfl, hallj, hbr⟩ := hrel
    obtain ⟨wo, rfl⟩ : ∃ wo : World, wo = wr := ⟨_, rfl⟩
    have hBo := Hd.mk (hB2.out.then hbr.out)
    have hzo := hbr.out.size
    by_cases hlt : j < x.phis.length
    · obtain ⟨eb, eo, ecs, hA_, heb, ⟨pv1, rfl, hr_⟩, hat_⟩ := (hrp.out).in0 (hBo.out) (j) (hlt)
      cases hA_
      have hew := Nat.lt_of_lt_of_le heb (hBo.out).size
      have g0 := hat_ 0 _ rfl
      have g1 := hat_ 1 _ rfl
      clear hat_
      simp at g0 g1
      obtain ⟨Ax, cx, rfl, hcx, hlx, hrx⟩ := hr_.sm
      clear hr_
      have hpin := hpa.out x.phis[j] (List.getElem_mem hlt)
      have hsn := Hd.mk (all_take_snoc (seesP f b) x.phis j hlt)
      have hfl := fun h => Hd.mk (all_false_of (seesP f b) x.phis j hlt h)
      rw [seesP_all] at hsn hfl
      generalize x.phis[j] = p at *
      have hal : Hd (∀ o, Below wo.heap.size wo (wo.alloc o)) := ⟨fun o => (Below.refl wo.heap.size wo).al (Nat.le_refl _) o⟩
      obtain ⟨wb, hwb⟩ : ∃ wb : World, wb = wo.alloc (.cells #[.int .i64 p.w, .slice Ax p.ins.length cx] 165) := ⟨_, rfl⟩
      have hbB : Hd (Below wo.heap.size wo wb) := ⟨by rw [hwb]; exact hal.out _⟩
      have hwb' := Hd.mk hwb
      have hpin' := Hd.mk hpin
      clear hwb hpin
      go_wp2
      rw [← hwb'.out]
      go_loopw [35] (fun s35 wr => ∃ k : Nat, k ≤ p.ins.length ∧ s35 = .int .i64 k ∧ Hd ((List.range k).all (seesK f b p) = true) ∧ Hd (Below wb.heap.size wb wr)) (fun s35 _ => p.ins.length - (intOf s35).toNat)
      case atStart => exact ⟨0, Nat.zero_le _, rfl, ⟨rfl⟩, ⟨Below.refl _ _⟩⟩
      case round =>
        obtain ⟨k, hk, rfl, hallk, hbk⟩ := hrel
        have hBw := Hd.mk (hBo.out.then (hbB.out.then hbk.out))
        have hB2w := Hd.mk (hbr.out.then (hbB.out.then hbk.out))
        have hzk := hB2w.out.size
        by_cases hltk : k < p.ins.length
        · have hkp : k < (predsOf f b).length := by have := hpin'.out; omega
          obtain ⟨eb, eo, ecs, hA_, heb, hk_, hat_⟩ := (hrx.out).in0 (hBw.out) (k) (hltk)
          cases hA_
          cases hk_
          have hew := Nat.lt_of_lt_of_le heb (hBw.out).size
          have g0 := hat_ 0 _ rfl
          clear hat_
          simp at g0
          have i0 := g0
          clear g0
          obtain ⟨eb, eo, ecs, hA_, heb, hk_, hat_⟩ := (hpr2.out).in0 (hB2w.out) (k) (hkp)
          cases hA_
          cases hk_
          have hew := Nat.lt_of_lt_of_le heb (hB2w.out).size
          have g0 := hat_ 0 _ rfl
          clear hat_
          simp at g0
          have p0 := g0
          have hpe := hew
          clear g0
          obtain ⟨q0, q1⟩ := hpi.out k hkp
          have hsK : seesK f b p k = !((reach f (-1)).getD ((predsOf f b)[k]).toNat false && !seen f p.ins[k] (predsOf f b)[k] (countOf f)) := by unfold seesK; rw [getD_get _ k 0 hkp, getD_get _ k 0 hltk]
          have hsnk := Hd.mk (range_all_snoc (seesK f b p) k)
          have hflk := fun h => Hd.mk (range_all_fail (seesK f b p) p.ins.length k hltk h)
          rw [hsK] at hsnk hflk
          clear hsK
          obtain ⟨gv, cv', hvv, hgv, hvc⟩ := OwB.at_ (show OwB lo w2 _ _ from hv2.out) (predsOf f b)[k].toNat (by omega)
          cases hvv
          have hseen := fun W (hW : Below w.heap.size w W) => c_isSeen f _ p.ins[k] (predsOf f b)[k] (countOf f) W (KM.mv hf'.out hW) hfo'.out ⟨q0, q1⟩
          have hcnt := fun W (hW : Below w.heap.size w W) => c_CountOf f _ W (KM.mv hf'.out hW)
          have y5 : (k : Int) < ((predsOf f b).length : Int) := by omega
          have y6 : (0 : Int) ≤ (k : Int) := by omega
          have y7 : (predsOf f b)[k] < ((reach f (-1)).length : Int) := by omega
          generalize (predsOf f b)[k] = pk at *
          generalize p.ins[k] = id at *
          generalize (reach f (-1)).getD pk.toNat false = rq at *
          generalize seen f id pk (countOf f) = sq at *
          have m0 := (bat hB2w.out w.heap.size (by omega) 0).trans (hzf2.out 0 _ rfl)
          have m1 := (bat hB2w.out w.heap.size (by omega) 1).trans (hzf2.out 1 _ rfl)
          have m2 := (bat hB2w.out w.heap.size (by omega) 2).trans (hzf2.out 2 _ rfl)
          have hlw : w.heap.size < wr.heap.size := by omega
          have hpass := fun (h : (!(rq && !sq)) = true) => Hd.mk (show (List.range (k + 1)).all (seesK f b p) = true by rw [hsnk.out, hallk.out, h]; rfl)
          have hfail := fun (h : (!(rq && !sq)) = false) => Hd.mk (show R = false by rw [← hR'.out, (hfl (hflk h).out).out]; rfl)
          clear hsnk hflk hsn hfl
          cases rq with
          | false =>
            have hps := hpass rfl
            clear hpass hfail hseen hcnt
            go_wp2
            refine wp_region_bel (by kernel_rfl) (by kernel_rfl) ?_
            simp only [List.toList_toArray]
            repeat' first
              | (refine seq_val (by rfl) (by intro W hS; have s0 := (bat hS w.heap.size hlw 0).trans m0; have s1 := (bat hS w.heap.size hlw 1).trans m1; have s2 := (bat hS w.heap.size hlw 2).trans m2; have s3 := (bat hS _ hpe (eo + k)).trans p0; have s4 := (bat (hB2w.out.then hS) gv hgv pk.toNat).trans hvc; go_simp; first | done | rfl) ?_; simp only [Act.put, List.setIfInBounds_toArray, List.set_cons_zero, List.set_cons_succ])
              | (refine seq_skip (by rfl) ?_; simp only [Act.put, List.setIfInBounds_toArray, List.set_cons_zero, List.set_cons_succ])
              | fail
            refine seq_nil (fun W hS => ?_)
            have s0 := (bat hS w.heap.size hlw 0).trans m0
            have s1 := (bat hS w.heap.size hlw 1).trans m1
            have s2 := (bat hS w.heap.size hlw 2).trans m2
            have s3 := (bat hS _ hpe (eo + k)).trans p0
            have s4 := (bat (hB2w.out.then hS) gv hgv pk.toNat).trans hvc
            go_wp2
            go_roundw
            case rel => exact ⟨k + 1, by omega, by go_num, hps, ⟨hbk.out.then hS⟩⟩
            case measure => simp [intOf]; omega
          | true =>
            cases sq with
            | true =>
              have hps := hpass rfl
              clear hpass hfail
              go_wp2
              refine wp_region_bel (by kernel_rfl) (by kernel_rfl) ?_
              simp only [List.toList_toArray]
              repeat' first
                | (refine seq_val (by rfl) (by intro W hS; have s0 := (bat hS w.heap.size hlw 0).trans m0; have s1 := (bat hS w.heap.size hlw 1).trans m1; have s2 := (bat hS w.heap.size hlw 2).trans m2; have s3 := (bat hS _ hpe (eo + k)).trans p0; have s4 := (bat (hB2w.out.then hS) gv hgv pk.toNat).trans hvc; go_simp; first | done | rfl) ?_; simp only [Act.put, List.setIfInBounds_toArray, List.set_cons_zero, List.set_cons_succ])
                | (refine seq_skip (by rfl) ?_; simp only [Act.put, List.setIfInBounds_toArray, List.set_cons_zero, List.set_cons_succ])
                | (refine seq_ret 94 _ (by rfl) (by intro W hS; have s0 := (bat hS w.heap.size hlw 0).trans m0; have s1 := (bat hS w.heap.size hlw 1).trans m1; have s2 := (bat hS w.heap.size hlw 2).trans m2; have s3 := (bat hS _ hpe (eo + k)).trans p0; have s4 := (bat (hB2w.out.then hS) gv hgv pk.toNat).trans hvc; go_simp; first | done | rfl) (fun W hS => hcnt W (hBw.out.then hS)) ?_; simp only [Act.put, List.setIfInBounds_toArray, List.set_cons_zero, List.set_cons_succ])
                | (refine seq_ret 179 _ (by rfl) (by intro W hS; have s0 := (bat hS w.heap.size hlw 0).trans m0; have s1 := (bat hS w.heap.size hlw 1).trans m1; have s2 := (bat hS w.heap.size hlw 2).trans m2; have s3 := (bat hS _ hpe (eo + k)).trans p0; have s4 := (bat (hB2w.out.then hS) gv hgv pk.toNat).trans hvc; go_simp; first | done | rfl) (fun W hS => hseen W (hBw.out.then hS)) ?_; simp only [Act.put, List.setIfInBounds_toArray, List.set_cons_zero, List.set_cons_succ])
                | fail
              refine seq_nil (fun W hS => ?_)
              have s0 := (bat hS w.heap.size hlw 0).trans m0
              have s1 := (bat hS w.heap.size hlw 1).trans m1
              have s2 := (bat hS w.heap.size hlw 2).trans m2
              have s3 := (bat hS _ hpe (eo + k)).trans p0
              have s4 := (bat (hB2w.out.then hS) gv hgv pk.toNat).trans hvc
              go_wp2
              go_roundw
              case rel => exact ⟨k + 1, by omega, by go_num, hps, ⟨hbk.out.then hS⟩⟩
              case measure => simp [intOf]; omega
            | false =>
              have hv := (hfail rfl).out
              subst hv
              clear hpass hfail
              go_wp2
              refine wp_region_bel (by kernel_rfl) (by kernel_rfl) ?_
              simp only [List.toList_toArray]
              repeat' first
                | (refine seq_val (by rfl) (by intro W hS; have s0 := (bat hS w.heap.size hlw 0).trans m0; have s1 := (bat hS w.heap.size hlw 1).trans m1; have s2 := (bat hS w.heap.size hlw 2).trans m2; have s3 := (bat hS _ hpe (eo + k)).trans p0; have s4 := (bat (hB2w.out.then hS) gv hgv pk.toNat).trans hvc; go_simp; first | done | rfl) ?_; simp only [Act.put, List.setIfInBounds_toArray, List.set_cons_zero, List.set_cons_succ])
                | (refine seq_skip (by rfl) ?_; simp only [Act.put, List.setIfInBounds_toArray, List.set_cons_zero, List.set_cons_succ])
                | (refine seq_ret 94 _ (by rfl) (by intro W hS; have s0 := (bat hS w.heap.size hlw 0).trans m0; have s1 := (bat hS w.heap.size hlw 1).trans m1; have s2 := (bat hS w.heap.size hlw 2).trans m2; have s3 := (bat hS _ hpe (eo + k)).trans p0; have s4 := (bat (hB2w.out.then hS) gv hgv pk.toNat).trans hvc; go_simp; first | done | rfl) (fun W hS => hcnt W (hBw.out.then hS)) ?_; simp only [Act.put, List.setIfInBounds_toArray, List.set_cons_zero, List.set_cons_succ])
                | (refine seq_ret 179 _ (by rfl) (by intro W hS; have s0 := (bat hS w.heap.size hlw 0).trans m0; have s1 := (bat hS w.heap.size hlw 1).trans m1; have s2 := (bat hS w.heap.size hlw 2).trans m2; have s3 := (bat hS _ hpe (eo + k)).trans p0; have s4 := (bat (hB2w.out.then hS) gv hgv pk.toNat).trans hvc; go_simp; first | done | rfl) (fun W hS => hseen W (hBw.out.then hS)) ?_; simp only [Act.put, List.setIfInBounds_toArray, List.set_cons_zero, List.set_cons_succ])
                | fail
              refine seq_nil (fun W hS => ?_)
              have s0 := (bat hS w.heap.size hlw 0).trans m0
              have s1 := (bat hS w.heap.size hlw 1).trans m1
              have s2 := (bat hS w.heap.size hlw 2).trans m2
              have s3 := (bat hS _ hpe (eo + k)).trans p0
              have s4 := (bat (hB2w.out.then hS) gv hgv pk.toNat).trans hvc
              go_wp2
              go_ret
              exact ⟨rfl, hBw.out.then hS⟩
        · have e : k = p.ins.length := by omega
          subst e
          have hps := Hd.mk (show (x.phis.take (j + 1)).all (seesP f b) = true by rw [hsn.out, hallj.out, hallk.out]; rfl)
          clear hsn hfl
          go_wp2
          go_roundw
          case rel => exact ⟨j + 1, by omega, by go_num, hps, ⟨hbr.out.then (hbB.out.then hbk.out)⟩⟩
          case measure => simp [intOf]; omega
    · have e : j = x.phis.length := by omega
      subst e
      rw [List.take_length] at hallj
      have m0 := (bat hbr.out w.heap.size (by omega) 0).trans (hzf2.out 0 _ rfl)
      have m1 := (bat hbr.out w.heap.size (by omega) 1).trans (hzf2.out 1 _ rfl)
      have m2 := (bat hbr.out w.heap.size (by omega) 2).trans (hzf2.out 2 _ rfl)
      have m3 := (bat hbr.out (w.heap.size + 1) (by omega) 0).trans hnb2.out.1
      have m4 := (bat hbr.out (w.heap.size + 2) (by omega) 0).trans (hbc2.out 0 _ rfl)
      have hfst := fun W (hW : Below w.heap.size w W) => c_firstOf f _ b W (KM.mv hf'.out hW) (by omega)
      obtain ⟨fst, hfq⟩ : ∃ q, firstOf f b + x.phis.length = q := ⟨_, rfl⟩
      have hfr : 0 ≤ firstOf f b ∧ firstOf f b ≤ 60 := first_rng f b hfo'.out
      have e1 : IntKind.i64.wrap (firstOf f b + (x.phis.length : Int)) = fst := by rw [← hfq]; exact IntWalk.i64_in _ (by omega)
      have e2 : IntKind.i64.wrap fst = fst := by rw [← hfq]; exact IntWalk.i64_in _ (by omega)
      have hBD : Hd (Below wo.heap.size wo wo.drew) := ⟨Below.drew (Below.refl _ _)⟩
      have hBA : Hd (∀ o, Below wo.heap.size wo (wo.drew.alloc o)) := ⟨fun o => hBD.out.then ((Below.refl _ _).al (Nat.le_refl _) o)⟩
      have hdz : wo.drew.heap.size = wo.heap.size := rfl
      go_wp2
      refine wp_via (fun a a' W => ∃ (u61 u62 u63 u64 u65 u66 u67 : Value) (g : Nat), a' = (((((((a.put (some 61) u61).put (some 62) u62).put (some 63) u63).put (some 64) u64).put (some 65) u65).put (some 66) u66).put (some 67) u67).put (some 13) (.pointer (some ⟨g, 0, none⟩)) ∧ Hd (Below wo.heap.size wo W) ∧ Hd (NB W g fst)) ?_ ?_
      · go_region_held3 (fun W => W.cell? ⟨w.heap.size, 0, none⟩ = some (.slice A1 f.params.length c1) ∧ W.cell? ⟨w.heap.size, 1, none⟩ = some (.int .i64 f.ret) ∧ W.cell? ⟨w.heap.size, 2, none⟩ = some (.slice (some ⟨eb, eo, none⟩) f.blocks.length c2) ∧ W.cell? ⟨w.heap.size + 1, 0, none⟩ = some (.int .i64 b) ∧ W.cell? ⟨w.heap.size + 2, 0, none⟩ = some (.slice Ap x.phis.length cp))
              (first | exact ⟨m0, m1, m2, m3, m4⟩ | exact ⟨r0, r1, r2, r3, r4⟩ | exact ⟨(World.cell?_alloc_past _ _ _ (by first | omega | (simp; done) | (simp; omega))).trans m0, (World.cell?_alloc_past _ _ _ (by first | omega | (simp; done) | (simp; omega))).trans m1, (World.cell?_alloc_past _ _ _ (by first | omega | (simp; done) | (simp; omega))).trans m2, (World.cell?_alloc_past _ _ _ (by first | omega | (simp; done) | (simp; omega))).trans m3, (World.cell?_alloc_past _ _ _ (by first | omega | (simp; done) | (simp; omega))).trans m4⟩ | exact ⟨(World.cell?_alloc_past _ _ _ (by first | omega | (simp; done) | (simp; omega))).trans r0, (World.cell?_alloc_past _ _ _ (by first | omega | (simp; done) | (simp; omega))).trans r1, (World.cell?_alloc_past _ _ _ (by first | omega | (simp; done) | (simp; omega))).trans r2, (World.cell?_alloc_past _ _ _ (by first | omega | (simp; done) | (simp; omega))).trans r3, (World.cell?_alloc_past _ _ _ (by first | omega | (simp; done) | (simp; omega))).trans r4⟩ | exact ⟨(cell_off _ _ _ _ _ _ (by omega)).trans r0, (cell_off _ _ _ _ _ _ (by omega)).trans r1, (cell_off _ _ _ _ _ _ (by omega)).trans r2, (cell_off _ _ _ _ _ _ (by omega)).trans r3, (cell_off _ _ _ _ _ _ (by omega)).trans r4⟩ | exact ⟨(cell_off _ _ _ _ _ _ (by omega)).trans ((World.cell?_alloc_past _ _ _ (by first | omega | (simp; done) | (simp; omega))).trans r0), (cell_off _ _ _ _ _ _ (by omega)).trans ((World.cell?_alloc_past _ _ _ (by first | omega | (simp; done) | (simp; omega))).trans r1), (cell_off _ _ _ _ _ _ (by omega)).trans ((World.cell?_alloc_past _ _ _ (by first | omega | (simp; done) | (simp; omega))).trans r2), (cell_off _ _ _ _ _ _ (by omega)).trans ((World.cell?_alloc_past _ _ _ (by first | omega | (simp; done) | (simp; omega))).trans r3), (cell_off _ _ _ _ _ _ (by omega)).trans ((World.cell?_alloc_past _ _ _ (by first | omega | (simp; done) | (simp; omega))).trans r4)⟩)
              ((go_at_call 95; refine (hfst _ ?_).mono ?_; (first | exact hBo.out.then hBD.out | exact hBo.out.then (hBA.out _)); rintro e w4 ⟨rfl, hb4⟩; have hB4 := (by first | exact hBD.out.then hb4 | exact (hBA.out _).then hb4 : Below wo.heap.size wo w4); have r0 := (bat hB4 w.heap.size (by omega) 0).trans m0; have r1 := (bat hB4 w.heap.size (by omega) 1).trans m1; have r2 := (bat hB4 w.heap.size (by omega) 2).trans m2; have r3 := (bat hB4 (w.heap.size + 1) (by omega) 0).trans m3; have r4 := (bat hB4 (w.heap.size + 2) (by omega) 0).trans m4; have hz4 := hB4.size; (first | (have c4 : w4.cell? ⟨wo.heap.size, 0, none⟩ = some (.int .i64 0) := (bat hb4 wo.heap.size (by first | omega | (simp; done) | (simp; omega)) 0).trans (new_cell wo.drew #[.int .i64 0] 2 rfl 0 _ rfl); have f4 : w4.frozen? ⟨wo.heap.size, 0, none⟩ = false := (fat hb4 wo.heap.size (by first | omega | (simp; done) | (simp; omega)) 0).trans (World.frozen?_alloc_new wo.drew _ _ 0)) | skip)))
        · exact Exists.intro _ (Exists.intro _ (Exists.intro _ (Exists.intro _ (Exists.intro _ (Exists.intro _ (Exists.intro _ (Exists.intro _ ⟨rfl, ⟨hB4.then ((Below.refl _ _).al (Nat.le_refl _) _)⟩, ⟨new_cell _ _ _ rfl 0 _ rfl, by simp⟩⟩)))))))
        · exact Exists.intro _ (Exists.intro _ (Exists.intro _ (Exists.intro _ (Exists.intro _ (Exists.intro _ (Exists.intro _ (Exists.intro _ ⟨rfl, ⟨hB4.setCell (p := ⟨wo.heap.size, 0, none⟩) (Nat.le_refl _) _⟩, ⟨World.cell?_setCell_same' w4 _ _ (by rw [c4]; rfl), by have := hb4.size; rw [setCell_size]; simp at this; omega⟩⟩)))))))
      · rintro a' W ⟨u61, u62, u63, u64, u65, u66, u67, g, rfl, hBW, hNW⟩
        clear m0 m1 m2 m3 m4 e1 hBA hBD hdz
        have hzW := hBW.out.size
        have hB2W := Hd.mk (hbr.out.then hBW.out)
        have hBwW := Hd.mk (hBo.out.then hBW.out)
        have hfbW := Hd.mk (hfb2.out.mv hB2W.out)
        have hnbW := Hd.mk (hnb2.out.mv hB2W.out)
        have k1 := (bat hB2W.out (w.heap.size + 2) (by omega) 1).trans (hbc2.out 1 _ rfl)
        go_wp2
        go_loopw [71] (fun s71 wr => ∃ k : Nat, k ≤ x.insts.length ∧ s71 = .int .i64 k ∧ Hd ((List.range k).all (seesI f b) = true) ∧ Hd (Below W.heap.size W wr)) (fun s71 _ => x.insts.length - (intOf s71).toNat)
        case atStart => exact ⟨0, Nat.zero_le _, rfl, ⟨rfl⟩, ⟨Below.refl _ _⟩⟩
        case round =>
          obtain ⟨k, hk, rfl, hallk, hbk⟩ := hrel
          have hBe := Hd.mk (hBwW.out.then hbk.out)
          have hzk := hbk.out.size
          have hfbk := Hd.mk (hfbW.out.mv hbk.out)
          have hnbk := Hd.mk (hnbW.out.mv hbk.out)
          have hNk := Hd.mk (hNW.out.mv hbk.out)
          by_cases hltk : k < x.insts.length
          · obtain ⟨eb, eo, ecs, hA_, heb, ⟨iv1, rfl, hr_⟩, hat_⟩ := (hri.out).in0 (hBe.out) (k) (hltk)
            cases hA_
            have hew := Nat.lt_of_lt_of_le heb (hBe.out).size
            have g0 := hat_ 0 _ rfl
            have g1 := hat_ 1 _ rfl
            have g2 := hat_ 2 _ rfl
            have g3 := hat_ 3 _ rfl
            have g4 := hat_ 4 _ rfl
            have g5 := hat_ 5 _ rfl
            have g6 := hat_ 6 _ rfl
            clear hat_
            simp at g0 g1 g2 g3 g4 g5 g6
            obtain ⟨Aa, ca, rfl, hca, hla, hra⟩ := hr_.sm
            clear hr_
            have hsI : seesI f b k = (opsOf x.insts[k]).all (fun id => seen f id b (fst + k)) := by
              unfold seesI
              rw [hbk'.out, getD_get _ k inst0 hltk, hfq]
            have hsnk := Hd.mk (range_all_snoc (seesI f b) k)
            have hflk := fun h => Hd.mk (range_all_fail (seesI f b) x.insts.length k hltk h)
            rw [hsI] at hsnk hflk
            clear hsI
            have hop := fun W' (hW' : Below w.heap.size w W') => c_OperandsOf x.insts[k] (.slice Aa x.insts[k].args.length ca) W' (hra.out.mv hW')
            have hol := opsOf_le x.insts[k]
            generalize x.insts[k] = i at *
            obtain ⟨op, iw, ia, ib, ic, imm, args⟩ := i
            simp only [instV] at *
            obtain ⟨wk, hwk⟩ : ∃ wk : World, wk = (wr.alloc (.cells #[.int .i64 k] 3)).alloc (.cells #[.int .i64 op, .int .i64 iw, .int .i64 ia, .int .i64 ib, .int .i64 ic, .int .i64 imm, .slice Aa args.length ca] 26) := ⟨_, rfl⟩
            have hbwk : Below wr.heap.size wr wk := by rw [hwk]; exact ((Below.refl _ _).al (Nat.le_refl _) _).al (by simp) _
            have hzwk : wk.heap.size = wr.heap.size + 2 := by rw [hwk]; simp
            have hNwk : NB wk wr.heap.size k := ⟨by rw [hwk]; exact (World.cell?_alloc_past _ _ _ (by first | omega | (simp; done) | (simp; omega))).trans (new_cell _ _ _ rfl 0 _ rfl), by omega⟩
            have hop1 := hop wk (hBe.out.then hbwk)
            have hwk' := Hd.mk hwk
            have hbwk' := Hd.mk hbwk
            clear hwk hop
            go_wp2_with fail
            rw [← hwk'.out]
            refine hop1.mono ?_; rintro e w5 ⟨u5, rfl, ho5, hb5⟩
            have hol5 : (opsOf ⟨op, iw, ia, ib, ic, imm, args⟩).length ≤ 1048576 := by
              rcases hol with h | ⟨h, -⟩
              · omega
              · rw [h]; exact hla
            have hr5 := OI.rd ho5 hol5
            obtain ⟨A5, c5, rfl, -, -, -, -⟩ := own_shape ho5
            have hB5 := Hd.mk (hbwk'.out.then hb5)
            have eg := enters_of Tryz.func180 (by kernel_rfl) rfl
            have hcon := c_ConI (.slice A5 _ c5) _ _ _ (fun id => !seen f id b (fst + k)) w5 hr5 eg (pb_areSeen1 w5 f b fst k w.heap.size (w.heap.size + 1) g wr.heap.size (hfbk.out.mv hB5.out) hfo'.out ⟨by omega, by omega⟩ (hnbk.out.mv hB5.out) (hNk.out.mv hB5.out) (hNwk.mv hb5) (by omega) (by omega))
            simp only [any_not] at hcon
            clear ho5 hr5 hb5 hop1
            go_wp2_with fail
            refine hcon.mono ?_; rintro e w6 ⟨rfl, hb6⟩
            have hB6 := Hd.mk (hB5.out.then hb6)
            clear hb6 hcon
            cases hq : (opsOf ⟨op, iw, ia, ib, ic, imm, args⟩).all (fun id => seen f id b (fst + k)) with
            | false =>
              have hv : R = false := by rw [← hR'.out, (hflk hq).out]; simp
              subst hv
              clear hflk hsnk hq
              go_wp2
              go_ret
              exact ⟨rfl, hBe.out.then hB6.out⟩
            | true =>
              rw [hq] at hsnk
              have hps := Hd.mk (hsnk.out.trans (by rw [hallk.out]; first | done | rfl))
              clear hflk hsnk hq
              go_wp2
              go_roundw
              case rel => exact ⟨k + 1, by omega, by go_num, hps, ⟨hbk.out.then hB6.out⟩⟩
              case measure => simp [intOf]; omega
          · have e : k = x.insts.length := by omega
            subst e
            have hR3 := Hd.mk (show seesT f b = R by rw [← hR'.out, hallj.out, hallk.out]; simp)
            have hB2k := Hd.mk (hB2W.out.then hbk.out)
            have m0 := (bat hB2k.out w.heap.size (by omega) 0).trans (hzf2.out 0 _ rfl)
            have m1 := (bat hB2k.out w.heap.size (by omega) 1).trans (hzf2.out 1 _ rfl)
            have m2 := (bat hB2k.out w.heap.size (by omega) 2).trans (hzf2.out 2 _ rfl)
            have m3 := (bat hB2k.out (w.heap.size + 1) (by omega) 0).trans hnb2.out.1
            have m4 := (bat hB2k.out (w.heap.size + 2) (by omega) 2).trans (hbc2.out 2 _ rfl)
            have m5 := (bat hB2k.out (w.heap.size + 2) (by omega) 3).trans (hbc2.out 3 _ rfl)
            have hlw : w.heap.size < wr.heap.size := by omega
            have hlw1 : w.heap.size + 1 < wr.heap.size := by omega
            have hlw2 : w.heap.size + 2 < wr.heap.size := by omega
            have hkf := Hd.mk (KM.mv hf'.out hBe.out)
            have hseen := fun W (hW : Below w.heap.size w W) => c_isSeen f _ x.term.a b (countOf f) W (KM.mv hf'.out hW) hfo'.out ⟨by omega, by omega⟩
            have hcnt := fun W (hW : Below w.heap.size w W) => c_CountOf f _ W (KM.mv hf'.out hW)
            have hsT2 := hR3.out
            unfold seesT at hsT2
            rw [hbk'.out] at hsT2
            have hsT3 := Hd.mk hsT2
            clear hsT2 hR3 hkf
            generalize seen f x.term.a b (countOf f) = sq at *
            generalize x.term = t at *
            obtain ⟨tk, ta, tx, ty⟩ := t
            simp only at *
            by_cases k1 : tk = 1
            · subst k1
              have hv : R = sq := by rw [← hsT3.out]; simp
              subst hv
              go_wp2
              refine wp_region_bel (by kernel_rfl) (by kernel_rfl) ?_
              simp only [List.toList_toArray]
              repeat' first
                | (refine seq_val (by rfl) (by intro W hS; have s0 := (bat hS w.heap.size hlw 0).trans m0; have s1 := (bat hS w.heap.size hlw 1).trans m1; have s2 := (bat hS w.heap.size hlw 2).trans m2; have s3 := (bat hS (w.heap.size + 1) hlw1 0).trans m3; have s4 := (bat hS (w.heap.size + 2) hlw2 2).trans m4; have s5 := (bat hS (w.heap.size + 2) hlw2 3).trans m5; go_simp; first | done | rfl) ?_; simp only [Act.put, List.setIfInBounds_toArray, List.set_cons_zero, List.set_cons_succ])
                | (refine seq_skip (by rfl) ?_; simp only [Act.put, List.setIfInBounds_toArray, List.set_cons_zero, List.set_cons_succ])
                | (refine seq_ret 94 _ (by rfl) (by intro W hS; have s0 := (bat hS w.heap.size hlw 0).trans m0; have s1 := (bat hS w.heap.size hlw 1).trans m1; have s2 := (bat hS w.heap.size hlw 2).trans m2; have s3 := (bat hS (w.heap.size + 1) hlw1 0).trans m3; have s4 := (bat hS (w.heap.size + 2) hlw2 2).trans m4; have s5 := (bat hS (w.heap.size + 2) hlw2 3).trans m5; go_simp; first | done | rfl) (fun W hS => hcnt W (hBe.out.then hS)) ?_; simp only [Act.put, List.setIfInBounds_toArray, List.set_cons_zero, List.set_cons_succ])
                | (refine seq_ret 179 _ (by rfl) (by intro W hS; have s0 := (bat hS w.heap.size hlw 0).trans m0; have s1 := (bat hS w.heap.size hlw 1).trans m1; have s2 := (bat hS w.heap.size hlw 2).trans m2; have s3 := (bat hS (w.heap.size + 1) hlw1 0).trans m3; have s4 := (bat hS (w.heap.size + 2) hlw2 2).trans m4; have s5 := (bat hS (w.heap.size + 2) hlw2 3).trans m5; go_simp; first | done | rfl) (fun W hS => hseen W (hBe.out.then hS)) ?_; simp only [Act.put, List.setIfInBounds_toArray, List.set_cons_zero, List.set_cons_succ])
                | fail
              refine seq_nil (fun W hS => ?_)
              have s0 := (bat hS w.heap.size hlw 0).trans m0
              have s1 := (bat hS w.heap.size hlw 1).trans m1
              have s2 := (bat hS w.heap.size hlw 2).trans m2
              have s3 := (bat hS (w.heap.size + 1) hlw1 0).trans m3
              have s4 := (bat hS (w.heap.size + 2) hlw2 2).trans m4
              have s5 := (bat hS (w.heap.size + 2) hlw2 3).trans m5
              go_wp2
              go_ret
              exact ⟨rfl, hBe.out.then hS⟩
            have b1 := beqF k1
            by_cases k3 : tk = 3
            · subst k3
              have hv : R = sq := by rw [← hsT3.out]; simp
              subst hv
              go_wp2
              refine wp_region_bel (by kernel_rfl) (by kernel_rfl) ?_
              simp only [List.toList_toArray]
              repeat' first
                | (refine seq_val (by rfl) (by intro W hS; have s0 := (bat hS w.heap.size hlw 0).trans m0; have s1 := (bat hS w.heap.size hlw 1).trans m1; have s2 := (bat hS w.heap.size hlw 2).trans m2; have s3 := (bat hS (w.heap.size + 1) hlw1 0).trans m3; have s4 := (bat hS (w.heap.size + 2) hlw2 2).trans m4; have s5 := (bat hS (w.heap.size + 2) hlw2 3).trans m5; go_simp; first | done | rfl) ?_; simp only [Act.put, List.setIfInBounds_toArray, List.set_cons_zero, List.set_cons_succ])
                | (refine seq_skip (by rfl) ?_; simp only [Act.put, List.setIfInBounds_toArray, List.set_cons_zero, List.set_cons_succ])
                | (refine seq_ret 94 _ (by rfl) (by intro W hS; have s0 := (bat hS w.heap.size hlw 0).trans m0; have s1 := (bat hS w.heap.size hlw 1).trans m1; have s2 := (bat hS w.heap.size hlw 2).trans m2; have s3 := (bat hS (w.heap.size + 1) hlw1 0).trans m3; have s4 := (bat hS (w.heap.size + 2) hlw2 2).trans m4; have s5 := (bat hS (w.heap.size + 2) hlw2 3).trans m5; go_simp; first | done | rfl) (fun W hS => hcnt W (hBe.out.then hS)) ?_; simp only [Act.put, List.setIfInBounds_toArray, List.set_cons_zero, List.set_cons_succ])
                | (refine seq_ret 179 _ (by rfl) (by intro W hS; have s0 := (bat hS w.heap.size hlw 0).trans m0; have s1 := (bat hS w.heap.size hlw 1).trans m1; have s2 := (bat hS w.heap.size hlw 2).trans m2; have s3 := (bat hS (w.heap.size + 1) hlw1 0).trans m3; have s4 := (bat hS (w.heap.size + 2) hlw2 2).trans m4; have s5 := (bat hS (w.heap.size + 2) hlw2 3).trans m5; go_simp; first | done | rfl) (fun W hS => hseen W (hBe.out.then hS)) ?_; simp only [Act.put, List.setIfInBounds_toArray, List.set_cons_zero, List.set_cons_succ])
                | fail
              refine seq_nil (fun W hS => ?_)
              have s0 := (bat hS w.heap.size hlw 0).trans m0
              have s1 := (bat hS w.heap.size hlw 1).trans m1
              have s2 := (bat hS w.heap.size hlw 2).trans m2
              have s3 := (bat hS (w.heap.size + 1) hlw1 0).trans m3
              have s4 := (bat hS (w.heap.size + 2) hlw2 2).trans m4
              have s5 := (bat hS (w.heap.size + 2) hlw2 3).trans m5
              go_wp2
              go_ret
              exact ⟨rfl, hBe.out.then hS⟩
            have b3 := beqF k3
            have hv : R = true := by rw [← hsT3.out]; simp [k1, k3]
            subst hv
            clear hseen hcnt
            go_wp2
            refine wp_region_bel (by kernel_rfl) (by kernel_rfl) ?_
            simp only [List.toList_toArray]
            repeat' first
              | (refine seq_val (by rfl) (by intro W hS; have s0 := (bat hS w.heap.size hlw 0).trans m0; have s1 := (bat hS w.heap.size hlw 1).trans m1; have s2 := (bat hS w.heap.size hlw 2).trans m2; have s3 := (bat hS (w.heap.size + 1) hlw1 0).trans m3; have s4 := (bat hS (w.heap.size + 2) hlw2 2).trans m4; have s5 := (bat hS (w.heap.size + 2) hlw2 3).trans m5; go_simp; first | done | rfl) ?_; simp only [Act.put, List.setIfInBounds_toArray, List.set_cons_zero, List.set_cons_succ])
              | (refine seq_skip (by rfl) ?_; simp only [Act.put, List.setIfInBounds_toArray, List.set_cons_zero, List.set_cons_succ])
              | fail
            refine seq_nil (fun W hS => ?_)
            have s0 := (bat hS w.heap.size hlw 0).trans m0
            have s1 := (bat hS w.heap.size hlw 1).trans m1
            have s2 := (bat hS w.heap.size hlw 2).trans m2
            have s3 := (bat hS (w.heap.size + 1) hlw1 0).trans m3
            have s4 := (bat hS (w.heap.size + 2) hlw2 2).trans m4
            have s5 := (bat hS (w.heap.size + 2) hlw2 3).trans m5
            go_wp2
            go_ret
            exact ⟨rfl, hBe.out.then hS⟩
end Go.Proofs.YtkcgejbnhpccdaaGreat
set_option linter.unusedSimpArgs false
set_option linter.unusedVariables false
namespace Go.Proofs.YtkcgejbnhpccdaaGreat
open Go.RowKit
def KInstQ (Q : XInst → Prop) (w : World) (x : XInst) (cs : List Value) : Prop := KInst lm w x cs ∧ Q x
instance {Q : XInst → Prop} : KM (KInstQ Q) := ⟨fun h hb => ⟨KM.mv h.1 hb, h.2⟩⟩
theorem Rd.withQ {w : World} {v : Value} {xs : List XInst} {Q : XInst → Prop} (h : Rd lm 7 (KInst lm) w v xs) (hq : ∀ x ∈ xs, Q x) : Rd lm 7 (KInstQ Q) w v xs := by
  obtain ⟨A, c, h0, h1, h2, h3, h4⟩ := h
  refine ⟨A, c, h0, h1, h2, h3, fun hp => ?_⟩
  obtain ⟨b, off, h5, h6, h7⟩ := h4 hp
  refine ⟨b, off, h5, h6, fun i hi => ?_⟩
  obtain ⟨cs, h8, h9⟩ := h7 i hi
  exact ⟨cs, ⟨h8, hq _ (List.getElem_mem hi)⟩, h9⟩
set_option maxHeartbeats 400000 in
theorem c_IdxInstQ (Q : XInst → Prop) (v : Value) (xs : List XInst) (g : Nat) (lb : Array Value) (p : XInst → Bool) (w : World) (hv : Rd lm 7 (KInstQ Q) w v xs)
    (eg : ∀ args w, (callFunc g args).run Tryz.prog w = .ok (.enter g args) w) (hp : PB Tryz.prog g lb (KInstQ Q) argN p w) :
    Calls Tryz.prog 177 #[v, .func (.func g) #[] lb] w (Ret (.int .i64 (idx p xs)) w) := by
  obtain ⟨A, c, rfl, h1, h2, hv0⟩ := hv.sm
  have hp' := Hd.mk hp
  clear hv hp
  go_enter Tryz.func177, Tryz.ntmps177
  go_wp2
  go_loopw [5, 8] (fun _ s8 wr => ∃ k : Nat, k ≤ xs.length ∧ s8 = .int .i64 k ∧ Hd (Below w.heap.size w wr) ∧ Hd (∀ j (h : j < xs.length), j < k → p xs[j] = false)) (fun _ s8 _ => xs.length - (intOf s8).toNat)
  case atStart => exact ⟨0, Nat.zero_le _, rfl, ⟨Below.refl _ w⟩, ⟨fun j _ h => absurd h (Nat.not_lt_zero _)⟩⟩
  case round =>
    obtain ⟨k, hk, rfl, hb, hn⟩ := hrel
    by_cases hlt : k < xs.length
    · obtain ⟨b, off, cs, hA, hbl, hkk, hat⟩ := hv0.out.in_ hb.out k hlt
      cases hA
      obtain ⟨⟨v1, rfl, hr⟩, hQ⟩ := hkk
      have g0 := hat 0 _ rfl
      have g1 := hat 1 _ rfl
      have g2 := hat 2 _ rfl
      have g3 := hat 3 _ rfl
      have g4 := hat 4 _ rfl
      have g5 := hat 5 _ rfl
      have g6 := hat 6 _ rfl
      simp at g0 g1 g2 g3 g4 g5 g6
      have hcall := hp'.out wr xs[k] _ hb.out ⟨⟨v1, rfl, hr⟩, hQ⟩
      clear hat
      cases hq : p xs[k] with
      | true =>
        rw [hq] at hcall
        have hq' := Hd.mk hq
        clear hq
        go_wp2_with (go_at_fn g; refine hcall.mono ?_; rintro e w' ⟨rfl, hb'⟩)
        go_ret
        exact ⟨by rw [idx_hit p xs k hlt hq'.out hn.out]; rfl, hb.out.then hb'⟩
      | false =>
        rw [hq] at hcall
        have hq' := Hd.mk hq
        clear hq
        go_wp2_with (go_at_fn g; refine hcall.mono ?_; rintro e w' ⟨rfl, hb'⟩)
        go_roundw
        case rel =>
          refine ⟨k + 1, by omega, by go_num, ⟨hb.out.then hb'⟩, ⟨fun j hj hjk => ?_⟩⟩
          by_cases e : j = k
          · subst e; exact hq'.out
          · exact hn.out j hj (by omega)
        case measure => simp [intOf]; omega
    · have e : k = xs.length := by omega
      subst e
      go_wp2
      go_ret
      exact ⟨by rw [idx_miss p xs (fun j hj => hn.out j hj hj)]; rfl, hb.out⟩
theorem c_ConInstQ (Q : XInst → Prop) (v : Value) (xs : List XInst) (g : Nat) (lb : Array Value) (p : XInst → Bool) (w : World) (hv : Rd lm 7 (KInstQ Q) w v xs)
    (eg : ∀ args w, (callFunc g args).run Tryz.prog w = .ok (.enter g args) w) (hp : PB Tryz.prog g lb (KInstQ Q) argN p w) :
    Calls Tryz.prog 132 #[v, .func (.func g) #[] lb] w (Ret (.bool (xs.any p)) w) := by
  rw [← idx_any]
  have hi := c_IdxInstQ Q v xs g lb p w hv eg hp
  clear hv eg hp
  go_enter Tryz.func132, Tryz.ntmps132
  go_wp2_with (go_at_call 177; refine hi.mono ?_; rintro e w' ⟨rfl, hb'⟩)
  go_ret
  exact ⟨rfl, hb'⟩
set_option maxHeartbeats 400000 in
theorem c_IdxFn (v : Value) (xs : List XFunc) (g : Nat) (lb : Array Value) (p : XFunc → Bool) (w : World) (hv : Rd lm 3 (KFunc lm) w v xs)
    (eg : ∀ args w, (callFunc g args).run Tryz.prog w = .ok (.enter g args) w) (hp : PB Tryz.prog g lb (KFunc lm) argN p w) :
    Calls Tryz.prog 164 #[v, .func (.func g) #[] lb] w (Ret (.int .i64 (idx p xs)) w) := by
  obtain ⟨A, c, rfl, h1, h2, hv0⟩ := hv.sm
  have hp' := Hd.mk hp
  clear hv hp
  go_enter Tryz.func164, Tryz.ntmps164
  go_wp2
  go_loopw [5, 8] (fun _ s8 wr => ∃ k : Nat, k ≤ xs.length ∧ s8 = .int .i64 k ∧ Hd (Below w.heap.size w wr) ∧ Hd (∀ j (h : j < xs.length), j < k → p xs[j] = false)) (fun _ s8 _ => xs.length - (intOf s8).toNat)
  case atStart => exact ⟨0, Nat.zero_le _, rfl, ⟨Below.refl _ w⟩, ⟨fun j _ h => absurd h (Nat.not_lt_zero _)⟩⟩
  case round =>
    obtain ⟨k, hk, rfl, hb, hn⟩ := hrel
    by_cases hlt : k < xs.length
    · obtain ⟨b, off, cs, hA, hbl, hkk, hat⟩ := hv0.out.in_ hb.out k hlt
      cases hA
      obtain ⟨v1, v2, rfl, hr, hr2⟩ := hkk
      obtain ⟨A5, c5, rfl, -, -, -⟩ := hr.sm
      obtain ⟨A6, c6, rfl, -, -, -⟩ := hr2.sm
      have g0 := hat 0 _ rfl
      have g1 := hat 1 _ rfl
      have g2 := hat 2 _ rfl
      simp at g0 g1 g2
      have hcall := hp'.out wr xs[k] _ hb.out ⟨_, _, rfl, hr, hr2⟩
      clear hat
      cases hq : p xs[k] with
      | true =>
        rw [hq] at hcall
        have hq' := Hd.mk hq
        clear hq
        go_wp2_with (go_at_fn g; refine hcall.mono ?_; rintro e w' ⟨rfl, hb'⟩)
        go_ret
        exact ⟨by rw [idx_hit p xs k hlt hq'.out hn.out]; rfl, hb.out.then hb'⟩
      | false =>
        rw [hq] at hcall
        have hq' := Hd.mk hq
        clear hq
        go_wp2_with (go_at_fn g; refine hcall.mono ?_; rintro e w' ⟨rfl, hb'⟩)
        go_roundw
        case rel =>
          refine ⟨k + 1, by omega, by go_num, ⟨hb.out.then hb'⟩, ⟨fun j hj hjk => ?_⟩⟩
          by_cases e : j = k
          · subst e; exact hq'.out
          · exact hn.out j hj (by omega)
        case measure => simp [intOf]; omega
    · have e : k = xs.length := by omega
      subst e
      go_wp2
      go_ret
      exact ⟨by rw [idx_miss p xs (fun j hj => hn.out j hj hj)]; rfl, hb.out⟩
theorem c_ConFn (v : Value) (xs : List XFunc) (g : Nat) (lb : Array Value) (p : XFunc → Bool) (w : World) (hv : Rd lm 3 (KFunc lm) w v xs)
    (eg : ∀ args w, (callFunc g args).run Tryz.prog w = .ok (.enter g args) w) (hp : PB Tryz.prog g lb (KFunc lm) argN p w) :
    Calls Tryz.prog 126 #[v, .func (.func g) #[] lb] w (Ret (.bool (xs.any p)) w) := by
  rw [← idx_any]
  have hi := c_IdxFn v xs g lb p w hv eg hp
  clear hv eg hp
  go_enter Tryz.func126, Tryz.ntmps126
  go_wp2_with (go_at_call 164; refine hi.mono ?_; rintro e w' ⟨rfl, hb'⟩)
  go_ret
  exact ⟨rfl, hb'⟩
/-- What is asked of a call: it names a function that is there. -/
def QCall (m : XMod) (i : XInst) : Prop := i.op = 26 → 0 ≤ i.imm ∧ i.imm < m.funcs.length
set_option maxHeartbeats 1000000 in
theorem c_checked1 (m : XMod) (f : XFunc) (i : XInst) (cs : List Value) (bm bf : Nat) (w : World) (hm : MB w bm m) (hf : FB w bf f) (hfo : Fo f) (hk : KInst lm w i cs) (hq : QCall m i) : Calls Tryz.prog 133 #[.agg cs.toArray, .pointer (some ⟨bm, 0, none⟩), .pointer (some ⟨bf, 0, none⟩)] w (Ret (.bool (i.op == 26 && !callOk m f i)) w) := by
  obtain ⟨v, rfl, hr⟩ := hk
  obtain ⟨A7, c7, rfl, -, -, -⟩ := hr.sm
  obtain ⟨A1, c1, A2, c2, q0, q1, q2, q3, q4⟩ := hf
  obtain ⟨Am, cm, p0, p1, p2⟩ := hm
  have hbl := fun o => (Below.refl w.heap.size w).al (Nat.le_refl _) o
  by_cases h26 : i.op = 26
  · have hc := fun W (hW : Below w.heap.size w W) => c_isCall m _ f _ i (.slice A7 i.args.length c7) W (KM.mv p1 hW) (KM.mv q3 hW) hfo (hr.mv hW) (hq h26)
    generalize callOk m f i = q at *
    obtain ⟨op, wd, a, b', c, imm, args⟩ := i
    simp only [instV] at *
    subst h26
    clear q3 p1 hr hq
    go_enter Tryz.func133, Tryz.ntmps133
    go_wp2_with fail
    refine (hc _ (hbl _)).mono ?_; rintro e w1 ⟨rfl, hb1⟩
    go_wp2
    go_ret
    exact ⟨by simp, (hbl _).then hb1⟩
  · have b1 := beqF h26
    rw [show (i.op == 26 && !callOk m f i) = false by rw [b1]; rfl]
    obtain ⟨op, wd, a, b', c, imm, args⟩ := i
    simp only at *
    clear q3 p1 hr hq
    go_enter Tryz.func133, Tryz.ntmps133
    go_wp2
    go_ret
    exact ⟨rfl, hbl _⟩
theorem pb_checked1 (W : World) (m : XMod) (f : XFunc) (bm bf : Nat) (hm : MB W bm m) (hf : FB W bf f) (hfo : Fo f) : PB Tryz.prog 133 #[.pointer (some ⟨bm, 0, none⟩), .pointer (some ⟨bf, 0, none⟩)] (KInstQ (QCall m)) argN (fun i => i.op == 26 && !callOk m f i) W := fun W' x cs hW hk =>
  c_checked1 m f x cs bm bf W' (hm.mv hW) (hf.mv hW) hfo hk.1 hk.2
theorem c_ShapeOk1 (f : XFunc) (cs : List Value) (n : Int) (b : Nat) (w : World) (hk : KFunc lm w f cs) (hb : NB w b n) (h0 : 0 ≤ n) (h1 : n ≤ 1048576) : Calls Tryz.prog 127 #[.agg cs.toArray, .pointer (some ⟨b, 0, none⟩)] w (Ret (.bool (!funcOk f n)) w) := by
  have hi := fun W hW => c_isFunc f cs n W (KM.mv hk hW) h0 h1
  obtain ⟨v1, v2, rfl, hr, hr2⟩ := hk
  obtain ⟨A1, c1, rfl, -, -, -⟩ := hr.sm
  obtain ⟨A2, c2, rfl, -, -, -⟩ := hr2.sm
  have hbl := fun o => (Below.refl w.heap.size w).al (Nat.le_refl _) o
  obtain ⟨hb1, hb2⟩ := hb
  clear hr hr2
  generalize funcOk f n = q at *
  go_enter Tryz.func127, Tryz.ntmps127
  go_wp2_with fail
  refine (hi _ (hbl _)).mono ?_; rintro e w1 ⟨rfl, hb1⟩
  go_wp2
  go_ret
  exact ⟨rfl, (hbl _).then hb1⟩
theorem pb_ShapeOk1 (W : World) (n : Int) (b : Nat) (hb : NB W b n) (h0 : 0 ≤ n) (h1 : n ≤ 1048576) : PB Tryz.prog 127 #[.pointer (some ⟨b, 0, none⟩)] (KFunc lm) argN (fun f => !funcOk f n) W := fun W' x cs hW hk =>
  c_ShapeOk1 x cs n b W' hk (hb.mv hW) h0 h1
set_option maxHeartbeats 1000000 in
theorem c_ShapeOk (m : XMod) (cs : List Value) (w : World) (hm : KMod lm w m cs) : Calls Tryz.prog 89 #[.agg cs.toArray] w (Ret (.bool (shapeOk m)) w) := by
  obtain ⟨v, rfl, hr⟩ := hm
  obtain ⟨A, c, rfl, hcc, hl, hr0⟩ := hr.sm
  clear hr
  have hbl := fun o o' => ((Below.refl w.heap.size w).al (Nat.le_refl _) o).al (by simp) o'
  have eg := enters_of Tryz.func127 (by kernel_rfl) rfl
  have hin := fun W => c_within (m.funcs.length : Int) 1 3 W
  obtain ⟨W0, hW0⟩ : ∃ W0 : World, W0 = (w.alloc (.cells #[.slice A m.funcs.length c] 38)).alloc (.cells #[.int .i64 m.funcs.length] 2) := ⟨_, rfl⟩
  have hB0 : Below w.heap.size w W0 := by rw [hW0]; exact hbl _ _
  have hz0 : W0.heap.size = w.heap.size + 2 := by rw [hW0]; simp
  have hnb : NB W0 (w.heap.size + 1) m.funcs.length := ⟨by rw [hW0]; exact new_cell _ _ _ (by simp) 0 _ rfl, by omega⟩
  have hcon := c_ConFn (.slice A m.funcs.length c) m.funcs _ _ (fun f => !funcOk f m.funcs.length) W0 (hr0.out.mv hB0) eg (pb_ShapeOk1 W0 _ _ hnb (by omega) (by omega))
  simp only [any_not] at hcon
  have hW0' := Hd.mk hW0
  have hB0' := Hd.mk hB0
  unfold shapeOk
  clear hW0 hB0 hnb
  generalize m.funcs.all (fun f => funcOk f m.funcs.length) = q2 at *
  generalize m.funcs.length = n at *
  have e1 : IntKind.i64.wrap (n : Int) = (n : Int) := IntWalk.i64_in _ (by omega)
  generalize inR (n : Int) 1 3 = q1 at *
  cases q1 with
  | false =>
    go_enter Tryz.func89, Tryz.ntmps89
    go_wp2_with fail
    rw [← hW0'.out]
    refine (hin _).mono ?_; rintro e w1 ⟨rfl, rfl⟩
    go_wp2
    go_ret
    exact ⟨rfl, hB0'.out⟩
  | true =>
    go_enter Tryz.func89, Tryz.ntmps89
    go_wp2_with fail
    rw [← hW0'.out]
    refine (hin _).mono ?_; rintro e w1 ⟨rfl, rfl⟩
    have x0 : W0.cell? ⟨w.heap.size, 0, none⟩ = some (.slice A n c) := by rw [hW0'.out]; simp
    go_wp2_with fail
    refine hcon.mono ?_; rintro e w1 ⟨rfl, hb1⟩
    go_wp2
    go_ret
    exact ⟨by simp, hB0'.out.then hb1⟩
end Go.Proofs.YtkcgejbnhpccdaaGreat
set_option linter.unusedSimpArgs false
set_option linter.unusedVariables false
namespace Go.Proofs.YtkcgejbnhpccdaaGreat
open Go.RowKit
theorem checkF_2 {m : XMod} {f : XFunc} (h : entryOk f = false) : checkF m f = 2 := by unfold checkF; rw [h]; rfl
theorem checkF_3 {m : XMod} {f : XFunc} (h : entryOk f = true) (h2 : phisOk f = false) : checkF m f = 3 := by unfold checkF; rw [h, h2]; rfl
theorem checkF_4 {m : XMod} {f : XFunc} (h : entryOk f = true) (h2 : phisOk f = true) (h3 : typesOk f = false) : checkF m f = 4 := by unfold checkF; rw [h, h2, h3]; rfl
theorem checkF_5 {m : XMod} {f : XFunc} (h : entryOk f = true) (h2 : phisOk f = true) (h3 : typesOk f = true) (h4 : callsOk m f = false) : checkF m f = 5 := by unfold checkF; rw [h, h2, h3, h4]; rfl
theorem checkF_6 {m : XMod} {f : XFunc} (h : entryOk f = true) (h2 : phisOk f = true) (h3 : typesOk f = true) (h4 : callsOk m f = true) (h5 : domsOk f = false) : checkF m f = 6 := by unfold checkF; rw [h, h2, h3, h4, h5]; rfl
theorem checkF_0 {m : XMod} {f : XFunc} (h : entryOk f = true) (h2 : phisOk f = true) (h3 : typesOk f = true) (h4 : callsOk m f = true) (h5 : domsOk f = true) : checkF m f = 0 := by unfold checkF; rw [h, h2, h3, h4, h5]; rfl
def callsB (m : XMod) (f : XFunc) (b : XBlock) : Bool := b.insts.all fun i => !(i.op == 26 && !callOk m f i)
theorem callsOk_all (m : XMod) (f : XFunc) : callsOk m f = f.blocks.all (callsB m f) := rfl
def domB (f : XFunc) (b : Nat) : Bool := !((reach f (-1)).getD b false && !seesB f b)
theorem domsOk_all (f : XFunc) : domsOk f = (List.range f.blocks.length).all (domB f) := rfl
set_option maxRecDepth 20000 in
set_option maxHeartbeats 8000000 in
theorem c_checked (m : XMod) (cm : List Value) (f : XFunc) (cf : List Value) (w : World) (hm : KMod lm w m cm) (hf : KFunc lm w f cf) (hfo : Fo f) (hq : ∀ b ∈ f.blocks, ∀ i ∈ b.insts, QCall m i) :
    Calls Tryz.prog 90 #[.agg cm.toArray, .agg cf.toArray] w (Ret (.int .i64 (checkF m f)) w) := by
  have hm' := Hd.mk hm
  have hf' := Hd.mk hf
  obtain ⟨vm, rfl, hrm⟩ := hm
  obtain ⟨Am, cm, rfl, -, -, -⟩ := hrm.sm
  obtain ⟨v1, v2, rfl, hp, hb⟩ := hf
  obtain ⟨A1, c1, rfl, -, -, -⟩ := hp.sm
  obtain ⟨A2, c2, rfl, hcap, hl2, hb0⟩ := hb.sm
  clear hp hb hrm
  have hbl := fun o o' => ((Below.refl w.heap.size w).al (Nat.le_refl _) o).al (by simp) o'
  have eg := enters_of Tryz.func133 (by kernel_rfl) rfl
  obtain ⟨W0, hW0⟩ : ∃ W0 : World, W0 = (w.alloc (.cells #[.slice Am m.funcs.length cm] 38)).alloc (.cells #[.slice A1 f.params.length c1, .int .i64 f.ret, .slice A2 f.blocks.length c2] 35) := ⟨_, rfl⟩
  have hB0 : Below w.heap.size w W0 := by rw [hW0]; exact hbl _ _
  have hz0 : W0.heap.size = w.heap.size + 2 := by rw [hW0]; simp
  have hmb : Hd (MB W0 w.heap.size m) := ⟨Am, cm, by rw [hW0]; simp, KM.mv hm'.out hB0, by omega⟩
  have hzf : Hd (∀ o u, [Value.slice A1 f.params.length c1, .int .i64 f.ret, .slice A2 f.blocks.length c2][o]? = some u → W0.cell? ⟨w.heap.size + 1, o, none⟩ = some u) := ⟨fun o u hu => by rw [hW0]; exact new_cell _ _ _ (by simp) o u (by simpa using hu)⟩
  have hfb : Hd (FB W0 (w.heap.size + 1) f) := ⟨A1, c1, A2, c2, hzf.out 0 _ rfl, hzf.out 1 _ rfl, hzf.out 2 _ rfl, KM.mv hf'.out hB0, by omega⟩
  have hW0' := Hd.mk hW0
  have hB0' := Hd.mk hB0
  have hen := fun W (hW : Below w.heap.size w W) => c_isEntry f _ W (KM.mv hf'.out hW) hfo.1.2.1
  have hph := fun W (hW : Below w.heap.size w W) => c_arePhis f _ W (KM.mv hf'.out hW) hfo.1.2.2
  have hty := fun W (hW : Below w.heap.size w W) => c_areTypes f _ W (KM.mv hf'.out hW) hfo
  have hre := fun W (hW : Below w.heap.size w W) => c_reach f _ (-1) W (KM.mv hf'.out hW) hfo.1.1 ⟨hfo.1.2.1, hfo.1.2.2⟩
  have hn10 := hfo.1.2.2
  have hfo' := Hd.mk hfo
  have hq' := Hd.mk hq
  clear hW0 hB0 hfo hq
  generalize hR : checkF m f = R
  have hR' := Hd.mk hR
  clear hR
  go_enter Tryz.func90, Tryz.ntmps90
  go_wp2_with fail
  rw [← hW0'.out]
  have x0 := hzf.out 0 _ rfl
  have x1 := hzf.out 1 _ rfl
  have x2 := hzf.out 2 _ rfl
  go_wp2_with fail
  refine (hen _ hB0'.out).mono ?_; rintro e w1 ⟨rfl, hb1⟩
  replace x0 := (bat hb1 (w.heap.size + 1) (by omega) 0).trans x0
  replace x1 := (bat hb1 (w.heap.size + 1) (by omega) 1).trans x1
  replace x2 := (bat hb1 (w.heap.size + 1) (by omega) 2).trans x2
  have hc1 := Hd.mk hb1
  have hz1 := hb1.size
  clear hb1
  cases h1 : entryOk f with
  | false =>
    rw [checkF_2 h1] at hR'
    have hv := hR'.out
    subst hv
    clear h1
    go_wp2
    go_ret
    exact ⟨rfl, hB0'.out.then hc1.out⟩
  | true =>
    go_wp2_with fail
    refine (hph _ (hB0'.out.then hc1.out)).mono ?_; rintro e w2 ⟨rfl, hb2⟩
    replace x0 := (bat hb2 (w.heap.size + 1) (by omega) 0).trans x0
    replace x1 := (bat hb2 (w.heap.size + 1) (by omega) 1).trans x1
    replace x2 := (bat hb2 (w.heap.size + 1) (by omega) 2).trans x2
    have hc2 := Hd.mk (hc1.out.then hb2)
    have hz2 := hb2.size
    clear hb2
    cases h2 : phisOk f with
    | false =>
      rw [checkF_3 h1 h2] at hR'
      have hv := hR'.out
      subst hv
      clear h1 h2
      go_wp2
      go_ret
      exact ⟨rfl, hB0'.out.then hc2.out⟩
    | true =>
      go_wp2_with fail
      refine (hty _ (hB0'.out.then hc2.out)).mono ?_; rintro e w3 ⟨rfl, hb3⟩
      replace x0 := (bat hb3 (w.heap.size + 1) (by omega) 0).trans x0
      replace x1 := (bat hb3 (w.heap.size + 1) (by omega) 1).trans x1
      replace x2 := (bat hb3 (w.heap.size + 1) (by omega) 2).trans x2
      have hc3 := Hd.mk (hc2.out.then hb3)
      have hz3 := hb3.size
      clear hb3
      cases h3 : typesOk f with
      | false =>
        rw [checkF_4 h1 h2 h3] at hR'
        have hv := hR'.out
        subst hv
        clear h1 h2 h3
        go_wp2
        go_ret
        exact ⟨rfl, hB0'.out.then hc3.out⟩
      | true =>
        have hE := Hd.mk h1
        have hP := Hd.mk h2
        have hT := Hd.mk h3
        clear h1 h2 h3 hen hph hty
        go_wp2
        go_loopw [25] (fun s25 wr => ∃ k : Nat, k ≤ f.blocks.length ∧ s25 = .int .i64 k ∧ Hd ((f.blocks.take k).all (callsB m f) = true) ∧ Hd (Below W0.heap.size W0 wr)) (fun s25 _ => f.blocks.length - (intOf s25).toNat)
        case atStart => exact ⟨0, Nat.zero_le _, rfl, ⟨rfl⟩, hc3⟩
        case round =>
          obtain ⟨k, hk, rfl, hall, hbr⟩ := hrel
          obtain ⟨wo, rfl⟩ : ∃ wo : World, wo = wr := ⟨_, rfl⟩
          have hBw := Hd.mk (hB0'.out.then hbr.out)
          have hzo := hbr.out.size
          by_cases hlt : k < f.blocks.length
          · obtain ⟨eb, eo, ecs, hA_, heb, ⟨bv1, bv2, rfl, hr_, hr2_⟩, hat_⟩ := (hb0.out).in0 (hBw.out) (k) (hlt)
            cases hA_
            have hew := Nat.lt_of_lt_of_le heb (hBw.out).size
            have g0 := hat_ 0 _ rfl
            have g1 := hat_ 1 _ rfl
            have g2 := hat_ 2 _ rfl
            have g3 := hat_ 3 _ rfl
            have g4 := hat_ 4 _ rfl
            have g5 := hat_ 5 _ rfl
            clear hat_
            simp at g0 g1 g2 g3 g4 g5
            obtain ⟨Ap, cp, rfl, hcp, hlp, hrp⟩ := hr_.sm
            obtain ⟨Ai, ci, rfl, hci, hli, hri⟩ := hr2_.sm
            clear hr_ hr2_
            have hsn := Hd.mk (all_take_snoc (callsB m f) f.blocks k hlt)
            have hfl := fun h => Hd.mk (all_false_of (callsB m f) f.blocks k hlt h)
            have hmem := hq'.out f.blocks[k] (List.getElem_mem hlt)
            generalize f.blocks[k] = x at *
            have hal : Hd (∀ o, Below wo.heap.size wo (wo.alloc o)) := ⟨fun o => (Below.refl wo.heap.size wo).al (Nat.le_refl _) o⟩
            have hcon := fun W (hW : Below wo.heap.size wo W) => c_ConInstQ (QCall m) (.slice Ai x.insts.length ci) x.insts _ _ (fun i => i.op == 26 && !callOk m f i) W (Rd.withQ (hri.out.mv (hBw.out.then hW)) hmem) eg (pb_checked1 W m f _ _ (hmb.out.mv (hbr.out.then hW)) (hfb.out.mv (hbr.out.then hW)) hfo'.out)
            have hany : x.insts.any (fun i => i.op == 26 && !callOk m f i) = !callsB m f x := by unfold callsB; rw [List.not_all_eq_any_not]; simp
            rw [hany] at hcon
            clear hany hmem
            go_wp2_with fail
            refine (hcon _ (hal.out _)).mono ?_; rintro e w4 ⟨rfl, hb4⟩
            have hb4' := Hd.mk ((hal.out _).then hb4)
            clear hcon hb4
            cases h4 : callsB m f x with
            | false =>
              rw [checkF_5 hE.out hP.out hT.out (hfl h4).out] at hR'
              have hv := hR'.out
              subst hv
              clear hfl hsn h4
              go_wp2
              go_ret
              exact ⟨rfl, hBw.out.then hb4'.out⟩
            | true =>
              have hall2 := Hd.mk (show (f.blocks.take (k + 1)).all (callsB m f) = true by rw [hsn.out, hall.out, h4]; rfl)
              clear hfl hsn h4
              go_wp2
              go_roundw
              case rel => exact ⟨k + 1, by omega, by go_num, hall2, ⟨hbr.out.then hb4'.out⟩⟩
              case measure => simp [intOf]; omega
          · have e : k = f.blocks.length := by omega
            subst e
            rw [List.take_length] at hall
            replace x0 := (bat hbr.out (w.heap.size + 1) (by omega) 0).trans (hzf.out 0 _ rfl)
            replace x1 := (bat hbr.out (w.heap.size + 1) (by omega) 1).trans (hzf.out 1 _ rfl)
            replace x2 := (bat hbr.out (w.heap.size + 1) (by omega) 2).trans (hzf.out 2 _ rfl)
            have hrl := Hd.mk (reach_len f (-1))
            go_wp2_with fail
            refine (hre _ hBw.out).mono ?_; rintro e w4 ⟨u4, rfl, ho4, hb4⟩
            obtain ⟨Av, cv, rfl, -, -, -, -⟩ := own_shape ho4
            have hv4 := Hd.mk ho4
            have hc4 := Hd.mk (hbr.out.then hb4)
            have hz4 := hb4.size
            have hlow := Nat.le_trans hBw.out.size hb4.size
            clear hre ho4 hb4
            go_wp2
            go_loopw [38] (fun s38 wr => ∃ k : Nat, k ≤ (reach f (-1)).length ∧ s38 = .int .i64 k ∧ Hd ((List.range k).all (domB f) = true) ∧ Hd (Below w4.heap.size w4 wr)) (fun s38 _ => (reach f (-1)).length - (intOf s38).toNat)
            case atStart => exact ⟨0, Nat.zero_le _, rfl, ⟨rfl⟩, ⟨Below.refl _ _⟩⟩
            case round =>
              obtain ⟨k, hk, rfl, hallk, hbk⟩ := hrel
              have hB4 := Hd.mk (hc4.out.then hbk.out)
              have hBk := Hd.mk (hB0'.out.then hB4.out)
              by_cases hlt : k < (reach f (-1)).length
              · have hltb : k < f.blocks.length := by have := hrl.out; omega
                have hsnk := Hd.mk (range_all_snoc (domB f) k)
                have hflk := fun h => Hd.mk (range_all_fail (domB f) f.blocks.length k hltb h)
                obtain ⟨gv, cv', hvv, hgv, hvc⟩ := OwB.at_ (show OwB wo.heap.size wr _ _ from own_mv (show w4.ownsRow _ 4 1 _ _ _ from hv4.out) hbk.out) k hlt
                cases hvv
                have hsee := fun W (hW : Below wr.heap.size wr W) => c_areSeen wo.heap.size f _ k _ W (KM.mv hf'.out (hBk.out.then hW)) hfo'.out hltb (own_mv (show wr.ownsRow wo.heap.size 4 1 _ _ _ from own_mv (show w4.ownsRow _ 4 1 _ _ _ from hv4.out) hbk.out) hW) hP.out
                have hdk : domB f k = !((reach f (-1)).getD k false && !seesB f k) := rfl
                rw [hdk] at hsnk hflk
                have y0 := (bat hB4.out (w.heap.size + 1) (by omega) 0).trans (hzf.out 0 _ rfl)
                have y1 := (bat hB4.out (w.heap.size + 1) (by omega) 1).trans (hzf.out 1 _ rfl)
                have y2 := (bat hB4.out (w.heap.size + 1) (by omega) 2).trans (hzf.out 2 _ rfl)
                generalize (reach f (-1)).getD k false = rq at *
                generalize seesB f k = sq at *
                clear hdk
                have hBr : Below wr.heap.size wr wr := Below.refl _ _
                have hBs := Hd.mk hBr
                clear hBr
                have hdc : Hd (callsOk m f = true) := ⟨hall.out⟩
                cases rq with
                | false =>
                  have hps := Hd.mk (show (List.range (k + 1)).all (domB f) = true by rw [hsnk.out, hallk.out]; rfl)
                  clear hsnk hflk hsee
                  go_wp2
                  go_roundw
                  case rel => exact ⟨k + 1, by omega, by go_num, hps, hbk⟩
                  case measure => simp [intOf]; omega
                | true =>
                  cases sq with
                  | true =>
                    have hps := Hd.mk (show (List.range (k + 1)).all (domB f) = true by rw [hsnk.out, hallk.out]; rfl)
                    clear hsnk hflk
                    go_wp2_with fail
                    refine (hsee _ hBs.out).mono ?_; rintro e w5 ⟨rfl, hS⟩
                    go_wp2
                    go_roundw
                    case rel => exact ⟨k + 1, by omega, by go_num, hps, ⟨hbk.out.then hS⟩⟩
                    case measure => simp [intOf]; omega
                  | false =>
                    rw [checkF_6 hE.out hP.out hT.out hdc.out (hflk rfl).out] at hR'
                    have hv := hR'.out
                    subst hv
                    clear hsnk hflk
                    go_wp2_with fail
                    refine (hsee _ hBs.out).mono ?_; rintro e w5 ⟨rfl, hS⟩
                    go_wp2
                    go_ret
                    exact ⟨rfl, hBk.out.then hS⟩
              · have e : k = (reach f (-1)).length := by omega
                subst e
                have hak : domsOk f = true := by rw [domsOk_all, ← hrl.out]; exact hallk.out
                rw [checkF_0 hE.out hP.out hT.out hall.out hak] at hR'
                have hv := hR'.out
                subst hv
                go_wp2
                go_ret
                exact ⟨rfl, hBk.out⟩
end Go.Proofs.YtkcgejbnhpccdaaGreat
set_option linter.unusedSimpArgs false
set_option linter.unusedVariables false
namespace Go.Proofs.YtkcgejbnhpccdaaGreat
open Go.RowKit
theorem shape_parts {m : XMod} (h : shapeOk m = true) : (1 ≤ m.funcs.length ∧ m.funcs.length ≤ 3) ∧ ∀ f ∈ m.funcs, funcOk f m.funcs.length = true := by
  unfold shapeOk inR at h
  simp only [Bool.and_eq_true, decide_eq_true_eq, List.all_eq_true] at h
  exact ⟨by omega, h.2⟩
theorem inst_imm {ids funcs : Int} {i : XInst} (hi : instOk ids funcs i = true) (ho : i.op = 26) : 0 ≤ i.imm ∧ i.imm < funcs := by
  unfold instOk immFits at hi
  rw [ho] at hi
  simp only [Bool.and_eq_true] at hi
  have := hi.2
  simp [inR] at this
  omega
theorem shape_calls {m : XMod} (h : shapeOk m = true) : ∀ f ∈ m.funcs, ∀ b ∈ f.blocks, ∀ i ∈ b.insts, QCall m i := by
  intro f hf b hb i hi ho
  have h1 := (func_blocks ((shape_parts h).2 f hf)).2.2.2 b hb
  unfold blockOk at h1
  simp only [Bool.and_eq_true, List.all_eq_true] at h1
  exact inst_imm (h1.1.2 i hi) ho
theorem shape_fo {m : XMod} (h : shapeOk m = true) : ∀ f ∈ m.funcs, Fo f := fun f hf => func_fo ((shape_parts h).2 f hf)
theorem firstBad_cons (m : XMod) (f : XFunc) (r : List XFunc) : firstBad m (f :: r) = if checkF m f = 0 then firstBad m r else checkF m f := by
  show (if checkF m f == 0 then _ else _) = _
  simp
theorem firstBad_skip (m : XMod) (l : List XFunc) : ∀ k, (∀ j (h : j < l.length), j < k → checkF m l[j] = 0) → firstBad m l = firstBad m (l.drop k)
  | 0, _ => rfl
  | k + 1, h => by
    cases l with
    | nil => rfl
    | cons f r =>
      rw [firstBad_cons, if_pos (show checkF m f = 0 from h 0 (by simp) (by omega)), List.drop_succ_cons]
      exact firstBad_skip m r k fun j hj hk => h (j + 1) (by simpa using hj) (by omega)
theorem firstBad_hit (m : XMod) (l : List XFunc) (k : Nat) (hk : k < l.length) (h : ∀ j (h : j < l.length), j < k → checkF m l[j] = 0) (hne : checkF m l[k] ≠ 0) : firstBad m l = checkF m l[k] := by
  rw [firstBad_skip m l k h, List.drop_eq_getElem_cons hk, firstBad_cons, if_neg hne]
theorem firstBad_none (m : XMod) (l : List XFunc) (h : ∀ j (h : j < l.length), checkF m l[j] = 0) : firstBad m l = 0 := by
  rw [firstBad_skip m l l.length fun j hj _ => h j hj, List.drop_length]; rfl
set_option maxRecDepth 20000 in
set_option maxHeartbeats 4000000 in
theorem c_Checked (m : XMod) (cm : List Value) (w : World) (hm : KMod lm w m cm) : Calls Tryz.prog 71 #[.agg cm.toArray] w (Ret (.int .i64 (checkM m)) w) := by
  have hm' := Hd.mk hm
  obtain ⟨vm, rfl, hrm⟩ := hm
  obtain ⟨Am, cm, rfl, hcap, hlm, hm0⟩ := hrm.sm
  clear hrm
  have hbl := fun o => (Below.refl w.heap.size w).al (Nat.le_refl _) o
  obtain ⟨W0, hW0⟩ : ∃ W0 : World, W0 = (w.alloc (.cells #[.slice Am m.funcs.length cm] 38)) := ⟨_, rfl⟩
  have hB0 : Below w.heap.size w W0 := by rw [hW0]; exact hbl _
  have hz0 : W0.heap.size = w.heap.size + 1 := by rw [hW0]; simp
  have hmc : Hd (W0.cell? ⟨w.heap.size, 0, none⟩ = some (.slice Am m.funcs.length cm)) := ⟨by rw [hW0]; simp⟩
  have hW0' := Hd.mk hW0
  have hB0' := Hd.mk hB0
  have hsh := fun W (hW : Below w.heap.size w W) => c_ShapeOk m _ W (KM.mv hm'.out hW)
  clear hW0 hB0
  generalize hR : checkM m = R
  have hR' := Hd.mk hR
  clear hR
  unfold checkM at hR'
  go_enter Tryz.func71, Tryz.ntmps71
  go_wp2_with fail
  rw [← hW0'.out]
  have x0 := hmc.out
  go_wp2_with fail
  refine (hsh _ hB0'.out).mono ?_; rintro e w1 ⟨rfl, hb1⟩
  replace x0 := (bat hb1 w.heap.size (by omega) 0).trans x0
  have hc1 := Hd.mk hb1
  have hz1 := hb1.size
  clear hb1 hsh
  cases h1 : shapeOk m with
  | false =>
    rw [h1] at hR'
    have hv : 1 = R := hR'.out
    subst hv
    clear h1
    go_wp2
    go_ret
    exact ⟨rfl, hB0'.out.then hc1.out⟩
  | true =>
    rw [h1] at hR'
    have hR2 : Hd (firstBad m m.funcs = R) := ⟨hR'.out⟩
    have hfo := Hd.mk (shape_fo h1)
    have hqc := Hd.mk (shape_calls h1)
    clear h1 hR'
    go_wp2
    go_loopw [12] (fun s12 wr => ∃ k : Nat, k ≤ m.funcs.length ∧ s12 = .int .i64 k ∧ Hd (∀ j (h : j < m.funcs.length), j < k → checkF m m.funcs[j] = 0) ∧ Hd (Below W0.heap.size W0 wr)) (fun s12 _ => m.funcs.length - (intOf s12).toNat)
    case atStart => exact ⟨0, Nat.zero_le _, rfl, ⟨fun j _ h => absurd h (Nat.not_lt_zero _)⟩, hc1⟩
    case round =>
      obtain ⟨k, hk, rfl, hall, hbr⟩ := hrel
      obtain ⟨wo, rfl⟩ : ∃ wo : World, wo = wr := ⟨_, rfl⟩
      have hBw := Hd.mk (hB0'.out.then hbr.out)
      have hzo := hbr.out.size
      by_cases hlt : k < m.funcs.length
      · obtain ⟨eb, eo, ecs, hA_, heb, ⟨fv1, fv2, rfl, hr_, hr2_⟩, hat_⟩ := (hm0.out).in0 (hBw.out) (k) (hlt)
        cases hA_
        have hew := Nat.lt_of_lt_of_le heb (hBw.out).size
        have g0 := hat_ 0 _ rfl
        have g1 := hat_ 1 _ rfl
        have g2 := hat_ 2 _ rfl
        clear hat_
        simp at g0 g1 g2
        obtain ⟨Af, cf, rfl, hcf, hlf, hrf⟩ := hr_.sm
        obtain ⟨Ab, cb, rfl, hcb, hlb, hrb⟩ := hr2_.sm
        clear hr_ hr2_
        have hhit := fun h => Hd.mk (firstBad_hit m m.funcs k hlt hall.out h)
        have hnxt := fun (h : checkF m m.funcs[k] = 0) => Hd.mk (show ∀ j (hj : j < m.funcs.length), j < k + 1 → checkF m m.funcs[j] = 0 from fun j hj hjk => by
          by_cases e : j = k
          · subst e; exact h
          · exact hall.out j hj (by omega))
        have hfo1 := Hd.mk (hfo.out m.funcs[k] (List.getElem_mem hlt))
        have hqc1 := Hd.mk (hqc.out m.funcs[k] (List.getElem_mem hlt))
        have hal : Hd (∀ o, Below wo.heap.size wo (wo.alloc o)) := ⟨fun o => (Below.refl wo.heap.size wo).al (Nat.le_refl _) o⟩
        have y0 := (bat hbr.out w.heap.size (by omega) 0).trans hmc.out
        have y1 : w.heap.size < wo.heap.size := by omega
        generalize m.funcs[k] = f at *
        have hck := fun W (hW : Below wo.heap.size wo W) => c_checked m _ f [.slice Af f.params.length cf, .int .i64 f.ret, .slice Ab f.blocks.length cb] W (KM.mv hm'.out (hBw.out.then hW)) ⟨_, _, rfl, hrf.out.mv (hBw.out.then hW), hrb.out.mv (hBw.out.then hW)⟩ hfo1.out hqc1.out
        go_wp2_with fail
        refine (hck _ (hal.out _)).mono ?_; rintro e w4 ⟨rfl, hb4⟩
        have hb4' := Hd.mk ((hal.out _).then hb4)
        clear hck hb4
        by_cases h4 : checkF m f = 0
        · have hall2 := hnxt h4
          rw [h4]
          clear hhit hnxt h4
          go_wp2
          go_roundw
          case rel => exact ⟨k + 1, by omega, by go_num, hall2, ⟨hbr.out.then hb4'.out⟩⟩
          case measure => simp [intOf]; omega
        · have hv := (hhit h4).out.symm.trans hR2.out
          clear hhit hnxt
          have d4 := beqF h4
          have d5 : (checkF m f != 0) = true := by simpa using h4
          generalize checkF m f = q at *
          subst hv
          clear h4
          go_wp2
          go_ret
          exact ⟨rfl, hBw.out.then hb4'.out⟩
      · have e : k = m.funcs.length := by omega
        subst e
        have hv := (firstBad_none m m.funcs fun j hj => hall.out j hj hj).symm.trans hR2.out
        subst hv
        go_wp2
        go_ret
        exact ⟨rfl, hBw.out⟩
theorem c_isOk (m : XMod) (cm : List Value) (w : World) (hm : KMod lm w m cm) : Calls Tryz.prog 44 #[.agg cm.toArray] w (Ret (.bool (modOk m)) w) := by
  have hm' := Hd.mk hm
  obtain ⟨vm, rfl, hrm⟩ := hm
  obtain ⟨Am, cm, rfl, -, -, -⟩ := hrm.sm
  clear hrm
  have hbl := fun o => (Below.refl w.heap.size w).al (Nat.le_refl _) o
  have hck := fun W (hW : Below w.heap.size w W) => c_Checked m _ W (KM.mv hm'.out hW)
  unfold modOk
  generalize checkM m = q at *
  go_enter Tryz.func44, Tryz.ntmps44
  go_wp2_with fail
  refine (hck _ (hbl _)).mono ?_; rintro e w4 ⟨rfl, hb4⟩
  go_wp2
  go_ret
  exact ⟨rfl, (hbl _).then hb4⟩
end Go.Proofs.YtkcgejbnhpccdaaGreat
set_option linter.unusedSimpArgs false
set_option linter.unusedVariables false
namespace Go.Proofs.YtkcgejbnhpccdaaGreat
open Go.RowKit
/-! ### a run's state, and what stays as it was beside it -/
/-- All blocks but two, and what was told out, are as they were. -/
structure Off (g gm : Nat) (o : Option Nat) (w w' : World) : Prop where
  os : w'.os = w.os
  tape : w'.tape = w.tape
  output : w'.output = w.output
  size : w.heap.size ≤ w'.heap.size
  block : ∀ b, b < w.heap.size → b ≠ g → b ≠ gm → o ≠ some b → w'.heap[b]? = w.heap[b]?
/-- A row lies where it lay, or in a new block. -/
def Nxt (w : World) (o o' : Option Nat) : Prop := o' = o ∨ ∀ b, o' = some b → w.heap.size ≤ b
theorem Off.refl (g gm : Nat) (o : Option Nat) (w : World) : Off g gm o w w := ⟨rfl, rfl, rfl, Nat.le_refl _, fun _ _ _ _ _ => rfl⟩
theorem Off.of {g gm : Nat} {o : Option Nat} {w w' : World} (h : Below w.heap.size w w') : Off g gm o w w' := ⟨h.os, h.tape, h.output, h.size, fun b hb _ _ _ => h.block b hb⟩
theorem Off.trans {g gm : Nat} {o o' : Option Nat} {a b c : World} (h : Off g gm o a b) (hn : Nxt a o o') (k : Off g gm o' b c) : Off g gm o a c :=
  ⟨k.os.trans h.os, k.tape.trans h.tape, k.output.trans h.output, Nat.le_trans h.size k.size, fun i hi h1 h2 h3 => (k.block i (Nat.lt_of_lt_of_le hi h.size) h1 h2 (by
    rcases hn with rfl | hn
    · exact h3
    · exact fun e => by have := hn i e; omega)).trans (h.block i hi h1 h2 h3)⟩
theorem Off.then {g gm : Nat} {o : Option Nat} {a b c : World} (h : Off g gm o a b) (k : Below b.heap.size b c) : Off g gm o a c := h.trans (.inl rfl) (.of k)
theorem Off.drew {g gm : Nat} {o : Option Nat} {a b : World} (h : Off g gm o a b) : Off g gm o a b.drew := ⟨h.os, h.tape, h.output, h.size, h.block⟩
theorem Off.drewN {g gm : Nat} {o : Option Nat} {a b : World} (h : Off g gm o a b) (n : Nat) : Off g gm o a (b.drewN n) := ⟨h.os, h.tape, h.output, h.size, h.block⟩
theorem Nxt.trans {a b : World} {o o' o'' : Option Nat} (h : Nxt a o o') (hs : a.heap.size ≤ b.heap.size) (k : Nxt b o' o'') : Nxt a o o'' := by
  rcases k with rfl | k
  · exact h
  · exact .inr fun i hi => Nat.le_trans hs (k i hi)
theorem Nxt.refl (w : World) (o : Option Nat) : Nxt w o o := .inl rfl
/-- A store into one of the two. -/
theorem Off.set {g gm b j : Nat} {o : Option Nat} {a w : World} (h : Off g gm o a w) (hb : b = g ∨ b = gm) (u : Value) : Off g gm o a (w.setCell ⟨b, j, none⟩ u) :=
  ⟨h.os, h.tape, h.output, by rw [setCell_size]; exact h.size, fun i hi h1 h2 h3 => (Below.heap_setCell w ⟨b, j, none⟩ u i (by show i ≠ b; rcases hb with rfl | rfl <;> assumption)).trans (h.block i hi h1 h2 h3)⟩
theorem Off.below {g gm B : Nat} {o : Option Nat} {w w' : World} (h : Off g gm o w w') (h1 : B ≤ g) (h2 : B ≤ gm) (h3 : ∀ b, o = some b → B ≤ b) (hB : B ≤ w.heap.size) : Below B w w' :=
  ⟨h.os, h.tape, h.output, h.size, fun b hb => h.block b (by omega) (by omega) (by omega) (fun e => by have := h3 b e; omega)⟩
/-- A new block of one's own is written. -/
theorem Off.setNew {g gm b j : Nat} {o : Option Nat} {a w : World} (h : Off g gm o a w) (hb : a.heap.size ≤ b) (u : Value) : Off g gm o a (w.setCell ⟨b, j, none⟩ u) :=
  ⟨h.os, h.tape, h.output, by rw [setCell_size]; exact h.size, fun i hi h1 h2 h3 => (Below.heap_setCell w ⟨b, j, none⟩ u i (by show i ≠ b; omega)).trans (h.block i hi h1 h2 h3)⟩
theorem Off.grown {g gm : Nat} {o r : Option Nat} {a w w' : World} (h : Off g gm o a w) (hg : w.grownBy w' r) (hr : ∀ b, r = some b → b = g ∨ b = gm ∨ o = some b ∨ a.heap.size ≤ b) : Off g gm o a w' :=
  ⟨hg.os.trans h.os, hg.tape.trans h.tape, hg.output.trans h.output, Nat.le_trans h.size hg.size, fun i hi h1 h2 h3 => (hg.block i (Nat.lt_of_lt_of_le hi h.size) (fun e => by
    rcases hr i e.symm with h | h | h | h
    · exact h1 h
    · exact h2 h
    · exact h3 h
    · omega)).trans (h.block i hi h1 h2 h3)⟩
/-- One number appended to a row of one's own: where the row lies then. -/
theorem step_app_at {ops : Array Oper} {o : Oper} {a : Act} {W : World} {K : Act → World → Prop} {Q : Exit → Act → World → Prop} {E : Prop} (hgd : o.guard = none) (s x : Operand)
    (ho : o.op = .call { callee := .builtin .append, args := #[s, x], argTypes := #[24, 24] }) (base : Nat) (v : Value) (xs ys : List Int) (hs : a.eval s = v)
    (hown : W.ownsRow base 2 1 v xs.length (xs.map (Value.int .i64))) (ad : Addr) (n c : Nat) (hx : a.eval x = .slice (some ad) n c) (hr : RI lm W (.slice (some ad) n c) ys) (hl : xs.length ≤ 1099511627776) (hb : base ≤ W.heap.size)
    (hK : ∀ v' w', w'.ownsRow base 2 1 v' (xs ++ ys).length ((xs ++ ys).map (Value.int .i64)) → W.grownBy w' v.ownBlock → (v'.ownBlock = v.ownBlock ∨ v'.ownBlock = some W.heap.size) → K (a.put o.dst v') w') :
    if Region.wanted o (yielded ops a.tmps) = true then Oper.wp Tryz.prog o a W K Q else E := by
  have hw : Region.wanted o (yielded ops a.tmps) = true := by simp [Region.wanted, hgd]
  rw [if_pos hw]
  obtain ⟨i0, hi, hz0, hz1, hz2⟩ := info_parts infoI
  obtain ⟨rfl, hle, hn, hsrc⟩ := hr.src
  obtain ⟨v', w', hrun, r1, r2, _, r4⟩ := run_append_own_at (P := Tryz.prog) W base 24 o.type 2 i0 (.int .i64 0) 1 8 Tryz.underlying24 hi hz0 hz1 hz2 rfl (by decide) v xs.length _ hown ad ys.length c (ys.map (Value.int .i64)) (by simp) (hsrc ad rfl) (by simp [Value.oneCell']) (by unfold maxLen; omega) (by omega) hb
  unfold Oper.wp
  simp [execOp, ho, resolve, invoke, builtin, hs, hx, hrun, Result.andThen]
  exact hK v' w' (by simpa using r1) r2 r4
theorem app_at {ops : Array Oper} {rest : List Oper} {o : Oper} {a : Act} {Q : Exit → Act → World → Prop} {W : World} (hgd : o.guard = none) (s x : Operand)
    (ho : o.op = .call { callee := .builtin .append, args := #[s, x], argTypes := #[24, 24] }) (base : Nat) (v : Value) (xs ys : List Int) (hs : a.eval s = v)
    (hown : W.ownsRow base 2 1 v xs.length (xs.map (Value.int .i64))) (ad : Addr) (n c : Nat) (hx : a.eval x = .slice (some ad) n c) (hr : RI lm W (.slice (some ad) n c) ys) (hl : xs.length ≤ 1099511627776) (hb : base ≤ W.heap.size)
    (hK : ∀ v' w', w'.ownsRow base 2 1 v' (xs ++ ys).length ((xs ++ ys).map (Value.int .i64)) → W.grownBy w' v.ownBlock → (v'.ownBlock = v.ownBlock ∨ v'.ownBlock = some W.heap.size) → wpList Tryz.prog ops Q rest (a.put o.dst v') w') : wpList Tryz.prog ops Q (o :: rest) a W := by
  refine wpList_plain hgd fun K hK' => ?_
  obtain ⟨i0, hi, hz0, hz1, hz2⟩ := info_parts infoI
  obtain ⟨rfl, hle, hn, hsrc⟩ := hr.src
  obtain ⟨v', w', hrun, r1, r2, _, r4⟩ := run_append_own_at (P := Tryz.prog) W base 24 o.type 2 i0 (.int .i64 0) 1 8 Tryz.underlying24 hi hz0 hz1 hz2 rfl (by decide) v xs.length _ hown ad ys.length c (ys.map (Value.int .i64)) (by simp) (hsrc ad rfl) (by simp [Value.oneCell']) (by unfold maxLen; omega) (by omega) hb
  unfold Oper.wp
  simp [execOp, ho, resolve, invoke, builtin, hs, hx, hrun, Result.andThen]
  exact hK' _ _ (hK v' w' (by simpa using r1) r2 r4)
/-- A row of one's own beside a block that may have turned. -/
theorem own_offb {W W' : World} {lo b e sz n : Nat} {v : Value} {cs : List Value} (h : W.ownsRow lo e sz v n cs) (hb : Off b b none W W') (hl : b < lo) : W'.ownsRow lo e sz v n cs := by
  refine ⟨h.1, ?_⟩
  rcases h.2 with h' | ⟨g, cap, cur, hv, h1, h2, h3⟩
  · exact .inl h'
  · exact .inr ⟨g, cap, cur, hv, h1, (hb.block g (Array.getElem?_eq_some_iff.1 h2).1 (by omega) (by omega) (by simp)).trans h2, h3⟩
/-- A block that is none of those. -/
structure Asd (g gm : Nat) (o : Option Nat) (b : Nat) (w : World) : Prop where
  lt : b < w.heap.size
  g : b ≠ g
  gm : b ≠ gm
  o : o ≠ some b
theorem Off.at {g gm b : Nat} {o : Option Nat} {w w' : World} (h : Off g gm o w w') (ha : Asd g gm o b w) : w'.heap[b]? = w.heap[b]? := h.block b ha.lt ha.g ha.gm ha.o
theorem Off.cell {g gm b : Nat} {o : Option Nat} {w w' : World} (h : Off g gm o w w') (ha : Asd g gm o b w) (j : Nat) : w'.cell? ⟨b, j, none⟩ = w.cell? ⟨b, j, none⟩ := World.cell?_of_block (a := ⟨b, j, none⟩) (h.at ha)
theorem Asd.mv {g gm b : Nat} {o o' : Option Nat} {w w' : World} (ha : Asd g gm o b w) (hs : w.heap.size ≤ w'.heap.size) (hn : Nxt w o o') : Asd g gm o' b w' :=
  ⟨Nat.lt_of_lt_of_le ha.lt hs, ha.g, ha.gm, by
    rcases hn with rfl | hn
    · exact ha.o
    · exact fun e => by have := hn b e; have := ha.lt; omega⟩
/-- The state in block g: its memory in block gm. -/
def SI (mv : Value) (fuel : Nat) (g gm lo : Nat) (d : Int) (s : RS) (A : Option Addr) (c : Nat) (W : World) : Prop := ∃ cm,
  W.heap[g]? = some (.cells #[mv, .slice (some ⟨gm, 0, none⟩) 32 cm, .slice A s.out.length c, .int .i64 fuel, .int .i64 s.steps, .int .i64 d] 103 (0, 0)) ∧
  ByR W gm s.mem ∧ W.ownsRow lo 2 1 (.slice A s.out.length c) s.out.length (s.out.map (Value.int .i64)) ∧ g < lo ∧ gm < lo ∧ lo ≤ W.heap.size ∧ g ≠ gm
abbrev blk (A : Option Addr) : Option Nat := A.map (·.block)
theorem blk_eq (A : Option Addr) (n c : Nat) : (Value.slice A n c).ownBlock = blk A := by cases A <;> rfl
theorem SI.mv {mv : Value} {fuel g gm lo : Nat} {d : Int} {s : RS} {A : Option Addr} {c : Nat} {W W' : World} (h : SI mv fuel g gm lo d s A c W) (hb : Below W.heap.size W W') : SI mv fuel g gm lo d s A c W' := by
  obtain ⟨cm, h1, h2, h3, i1, i2, i3, h4⟩ := h
  exact ⟨cm, (hb.block g (Array.getElem?_eq_some_iff.1 h1).1).trans h1, h2.mv (hb.block gm h2.lt), own_mv h3 hb, i1, i2, Nat.le_trans i3 hb.size, h4⟩
theorem SI.drew {mv : Value} {fuel g gm lo : Nat} {d : Int} {s : RS} {A : Option Addr} {c : Nat} {W : World} (h : SI mv fuel g gm lo d s A c W) : SI mv fuel g gm lo d s A c W.drew := h
theorem SI.drewN {mv : Value} {fuel g gm lo : Nat} {d : Int} {s : RS} {A : Option Addr} {c : Nat} {W : World} (h : SI mv fuel g gm lo d s A c W) (n : Nat) : SI mv fuel g gm lo d s A c (W.drewN n) := h
theorem SI.blk {mv : Value} {fuel g gm lo : Nat} {d : Int} {s : RS} {A : Option Addr} {c : Nat} {W : World} (h : SI mv fuel g gm lo d s A c W) : ∀ b, blk A = some b → lo ≤ b ∧ b < W.heap.size := by
  obtain ⟨cm, h1, h2, h3, i1, i2, i3, h4⟩ := h
  intro b hb
  have hk := own_block_ge h3
  refine ⟨hk b (by rw [blk_eq]; exact hb), ?_⟩
  rcases h3.2 with ⟨e, _⟩ | ⟨g', cap, cur, hv, hl, hx, h''⟩
  · injection e with e1 e2 e3; subst e1; cases hb
  · injection hv with e1 e2 e3; subst e1; cases hb; exact (Array.getElem?_eq_some_iff.1 hx).1
theorem SI.cells {mv : Value} {fuel g gm lo : Nat} {d : Int} {s : RS} {A : Option Addr} {c : Nat} {W : World} (h : SI mv fuel g gm lo d s A c W) : ∃ cm, W.cell? ⟨g, 0, none⟩ = some mv ∧ W.cell? ⟨g, 1, none⟩ = some (.slice (some ⟨gm, 0, none⟩) 32 cm) ∧ W.cell? ⟨g, 2, none⟩ = some (.slice A s.out.length c) ∧
    W.cell? ⟨g, 3, none⟩ = some (.int .i64 fuel) ∧ W.cell? ⟨g, 4, none⟩ = some (.int .i64 s.steps) ∧ W.cell? ⟨g, 5, none⟩ = some (.int .i64 d) ∧ (∀ j, W.frozen? ⟨g, j, none⟩ = false) ∧ g < W.heap.size ∧ gm < W.heap.size ∧ g ≠ gm := by
  obtain ⟨cm, h1, h2, h3, i1, i2, i3, h4⟩ := h
  obtain ⟨c0, f0⟩ := row_facts h1
  exact ⟨cm, c0 0, c0 1, c0 2, c0 3, c0 4, c0 5, f0, (Array.getElem?_eq_some_iff.1 h1).1, h2.lt, h4⟩
theorem SI.setSteps {mv : Value} {fuel g gm lo : Nat} {d : Int} {s : RS} {A : Option Addr} {c : Nat} {W : World} (h : SI mv fuel g gm lo d s A c W) (k : Nat) : SI mv fuel g gm lo d ⟨s.mem, s.out, k⟩ A c (W.setCell ⟨g, 4, none⟩ (.int .i64 k)) := by
  obtain ⟨cm, h1, h2, h3, i1, i2, i3, h4⟩ := h
  exact ⟨cm, by simpa using heap_set (j := 4) (u := .int .i64 k) h1, h2.mv (Below.heap_setCell _ _ _ _ h4.symm), own_far h3 i1, i1, i2, by rw [setCell_size]; exact i3, h4⟩
theorem SI.setDeep {mv : Value} {fuel g gm lo : Nat} {d : Int} {s : RS} {A : Option Addr} {c : Nat} {W : World} (h : SI mv fuel g gm lo d s A c W) (k : Int) : SI mv fuel g gm lo k s A c (W.setCell ⟨g, 5, none⟩ (.int .i64 k)) := by
  obtain ⟨cm, h1, h2, h3, i1, i2, i3, h4⟩ := h
  exact ⟨cm, by simpa using heap_set (j := 5) (u := .int .i64 k) h1, h2.mv (Below.heap_setCell _ _ _ _ h4.symm), own_far h3 i1, i1, i2, by rw [setCell_size]; exact i3, h4⟩
theorem SI.setMem {mv : Value} {fuel g gm lo : Nat} {d : Int} {s : RS} {A : Option Addr} {c : Nat} {W : World} (h : SI mv fuel g gm lo d s A c W) (k : Nat) (v : Int) : SI mv fuel g gm lo d ⟨s.mem.set k v, s.out, s.steps⟩ A c (W.setCell ⟨gm, k, none⟩ (.int .u8 v)) := by
  obtain ⟨cm, h1, h2, h3, i1, i2, i3, h4⟩ := h
  exact ⟨cm, heap_off h1 h4, h2.set k v, own_far h3 i2, i1, i2, by rw [setCell_size]; exact i3, h4⟩
/-- A store elsewhere. -/
theorem SI.setOff {mv : Value} {fuel g gm lo b j : Nat} {d : Int} {s : RS} {A : Option Addr} {c : Nat} {W : World} (h : SI mv fuel g gm lo d s A c W) (hb : Asd g gm (Go.Proofs.YtkcgejbnhpccdaaGreat.blk A) b W) (u : Value) : SI mv fuel g gm lo d s A c (W.setCell ⟨b, j, none⟩ u) := by
  obtain ⟨cm, h1, h2, h3, i1, i2, i3, h4⟩ := h
  refine ⟨cm, heap_off h1 hb.g.symm, h2.mv (Below.heap_setCell _ _ _ _ hb.gm.symm), ?_, i1, i2, by rw [setCell_size]; exact i3, h4⟩
  refine ⟨h3.1, ?_⟩
  rcases h3.2 with h' | ⟨g', cap, cur, hv, hl', hx, h''⟩
  · exact .inl h'
  · exact .inr ⟨g', cap, cur, hv, hl', heap_off hx (fun e => hb.o (by injection hv with e1 e2 e3; subst e1; rw [← e]; rfl)), h''⟩
/-- What is told out has grown, and is written into the state. -/
theorem SI.setOut {mv v' : Value} {fuel g gm lo n : Nat} {d : Int} {s : RS} {A : Option Addr} {c : Nat} {W W' : World} {xs : List Int} (h : SI mv fuel g gm lo d s A c W) (hg : W.grownBy W' (Value.slice A s.out.length c).ownBlock) (h' : W'.ownsRow lo 2 1 v' n (xs.map (Value.int .i64))) (hn : n = xs.length) :
    ∃ A' c', v' = .slice A' xs.length c' ∧ SI mv fuel g gm lo d ⟨s.mem, xs, s.steps⟩ A' c' (W'.setCell ⟨g, 2, none⟩ v') := by
  subst hn
  obtain ⟨cm, h1, h2, h3, i1, i2, i3, h4⟩ := h
  have hk := own_block_ge h3
  have old : ∀ b, b < lo → b < W.heap.size → W'.heap[b]? = W.heap[b]? := fun b hb hw => hg.block b hw (fun e => by
    have := hk b (by first | exact e | exact e.symm)
    omega)
  obtain ⟨A2, c2, rfl, -, -⟩ := own_shape h'
  refine ⟨A2, c2, rfl, cm, ?_, ?_, own_far h' i1, i1, i2, by rw [setCell_size]; exact Nat.le_trans i3 hg.size, h4⟩
  · have := heap_set (j := 2) (u := .slice A2 xs.length c2) ((old g i1 (by omega)).trans h1)
    simpa using this
  · exact (h2.mv (old gm i2 (by omega))).mv (Below.heap_setCell _ _ _ _ (fun e => h4 e.symm))
/-- A step counted, if there is one. -/
def SteppedR (mv : Value) (fuel g gm lo : Nat) (d : Int) (s : RS) (A : Option Addr) (c : Nat) (w : World) (e : Ending) (w' : World) : Prop :=
  e = .returned (.bool (decide (s.steps ≠ fuel))) ∧ SI mv fuel g gm lo d (if s.steps = fuel then s else ⟨s.mem, s.out, s.steps + 1⟩) A c w' ∧ Off g gm (blk A) w w'
set_option maxRecDepth 20000 in
set_option maxHeartbeats 4000000 in
theorem c_stepR (mv : Value) (fuel g gm lo : Nat) (d : Int) (s : RS) (A : Option Addr) (c : Nat) (W : World) (h : SI mv fuel g gm lo d s A c W) (hf : fuel ≤ 2000) (hs : s.steps ≤ fuel) :
    Calls Tryz.prog 96 #[.pointer (some ⟨g, 0, none⟩)] W (SteppedR mv fuel g gm lo d s A c W) := by
  have h' := Hd.mk h
  obtain ⟨cm, k0, k1, k2, k3, k4, k5, kf, kg, kgm, kne⟩ := h.cells
  have f4 := kf 4
  clear h kf
  by_cases e : s.steps = fuel
  · have d1 : ((s.steps : Int) == (fuel : Int)) = true := by simp; omega
    have hv := Hd.mk (show decide (s.steps ≠ fuel) = false by simpa using e)
    have hp := Hd.mk e
    clear e
    go_enter Tryz.func96, Tryz.ntmps96
    go_wp2
    go_quiet (fail)
    go_wp2
    go_ret
    exact ⟨by rw [hv.out]; rfl, by rw [if_pos hp.out]; exact h'.out.drewN _, (Off.refl _ _ _ _).drewN _⟩
  · have d1 : ((s.steps : Int) == (fuel : Int)) = false := by simp; omega
    have hv := Hd.mk (show decide (s.steps ≠ fuel) = true by simpa using e)
    have hp := Hd.mk e
    have ew : IntKind.i64.wrap ((s.steps : Int) + 1) = ((s.steps + 1 : Nat) : Int) := by rw [IntWalk.i64_in _ (by omega)]; simp
    have ew' := ew
    simp only [Int.natCast_add, Int.cast_ofNat_Int] at ew'
    clear e
    go_enter Tryz.func96, Tryz.ntmps96
    go_wp2
    go_quiet (fail)
    go_wp2
    have hst := Hd.mk ((h'.out.drewN nq).setSteps (s.steps + 1))
    have hof : Hd (Off g gm (blk A) W ((W.drewN nq).setCell ⟨g, 4, none⟩ (.int .i64 ((s.steps + 1 : Nat) : Int)))) := ⟨((Off.refl _ _ _ _).drewN _).set (.inl rfl) _⟩
    go_ret
    exact ⟨by rw [hv.out]; rfl, by rw [if_neg hp.out]; exact hst.out, hof.out⟩
end Go.Proofs.YtkcgejbnhpccdaaGreat
set_option linter.unusedSimpArgs false
set_option linter.unusedVariables false
namespace Go.Proofs.YtkcgejbnhpccdaaGreat
open Go.RowKit
/-! ### a frame: its values, in a row of their own -/
theorem first_le (f : XFunc) (b : Nat) (hb : b < f.blocks.length) : firstOf f b + f.blocks[b].phis.length + f.blocks[b].insts.length ≤ countOf f := by
  have h1 := countIn_snoc f.params.length f.blocks b hb
  have h2 : ∀ (n : Int) (l : List XBlock), n ≤ countIn n l := by
    intro n l
    unfold countIn
    have : 0 ≤ (l.map sizeB).sum := by
      induction l with
      | nil => simp
      | cons b l ih => have := sizeB_nn b; simp only [List.map_cons, List.sum_cons]; omega
    omega
  have h3 : countOf f = countIn (countIn f.params.length (f.blocks.take (b + 1))) (f.blocks.drop (b + 1)) := by
    unfold countOf countIn
    rw [Int.add_assoc, ← List.sum_append, ← List.map_append, List.take_append_drop]
  have h4 := h2 (countIn f.params.length (f.blocks.take (b + 1))) (f.blocks.drop (b + 1))
  unfold firstOf
  rw [Int.toNat_natCast]
  unfold sizeB at h1
  omega
theorem idx_mem (x : Int) : ∀ l : List Int, x ∈ l → ∃ k : Nat, k < l.length ∧ idx (fun y => x == y) l = k
  | [], h => by cases h
  | y :: r, h => by
    unfold idx
    by_cases e : x = y
    · exact ⟨0, by simp, by simp [e]⟩
    · obtain ⟨k, hk, hi⟩ := idx_mem x r (by rcases List.mem_cons.1 h with h | h; exact absurd h e; exact h)
      refine ⟨k + 1, by simp; omega, ?_⟩
      rw [if_neg (by simpa using e), hi, if_neg (by omega)]; rfl
theorem putAt_splice (r : List Int) : ∀ (l : List Int) (k : Nat), k + r.length ≤ l.length → putAt l k r = splice l k r := by
  induction r with
  | nil => intro l k h; simp [putAt, splice]
  | cons x r ih =>
    intro l k h
    simp only [List.length_cons] at h
    rw [putAt, ih _ _ (by simp; omega)]
    unfold splice
    rw [List.take_set, List.take_succ_eq_append_getElem (by omega), List.set_append_right _ _ (by simp; omega)]
    simp only [List.length_take, Nat.min_eq_left (show k ≤ l.length by omega), Nat.sub_self, List.set_cons_zero, List.append_assoc, List.cons_append, List.nil_append, List.length_cons]
    rw [List.drop_set_of_lt (by omega), show k + 1 + r.length = k + (r.length + 1) by omega]
theorem map_splice {α β : Type} (g : α → β) (l r : List α) (k : Nat) : (splice l k r).map g = splice (l.map g) k (r.map g) := by simp [splice]
/-- A row copied into a row that is known whole. -/
theorem copy_I {w : World} {ops : Array Oper} {rest : List Oper} {o : Oper} {a : Act} {Q : Exit → Act → World → Prop} (hgd : o.guard = none) (d s : Operand)
    (ho : o.op = .call { callee := .builtin .copy, args := #[d, s], argTypes := #[24, 24] }) (dp : Option Addr) (dLen dCap : Nat) (hd : a.eval d = .slice dp dLen dCap) (A : Option Addr) (n c : Nat) (hs : a.eval s = .slice A n c)
    (ys : List Int) (hr : RI lm w (.slice A n c) ys) (g off : Nat) (vals : List Int) (hg : w.heap[g]? = some (.cells (vals.map (Value.int .i64)).toArray 2 (0, 0))) (hle : ys.length ≤ dLen) (hpos : 0 < ys.length → dp = some ⟨g, off, none⟩) (hfit : off + ys.length ≤ vals.length)
    (h : ∀ w', Hd (w'.heap[g]? = some (.cells ((putAt vals off ys).map (Value.int .i64)).toArray 2 (0, 0))) → Hd (Off g g none w w') → wpList Tryz.prog ops Q rest (a.put o.dst (goInt ys.length)) w') : wpList Tryz.prog ops Q (o :: rest) a w := by
  obtain ⟨rfl, hl, hn, hsrc⟩ := hr.src
  have hsz : (Tryz.prog.info? 2).map (·.size) = some 1 := by
    have := infoI
    cases hq : Tryz.prog.info? 2 with
    | none => rw [hq] at this; cases this
    | some i => rw [hq] at this; simp at this; simp [this]
  rw [putAt_splice ys vals off hfit, map_splice] at h
  by_cases h0 : ys.length = 0
  · obtain rfl : ys = [] := List.eq_nil_of_length_eq_zero h0
    refine wpList_copy_nothing hgd d s 24 24 ho 2 Tryz.underlying24 hsz dp A dLen dCap 0 c hd hs (by simp) ?_
    exact h w ⟨by simpa [splice] using hg⟩ ⟨Off.refl _ _ _ _⟩
  · obtain rfl := hpos (by omega)
    cases A with
    | none => exact absurd (hn rfl) (by rintro rfl; exact h0 rfl)
    | some ad =>
      have hm : (ys.map (Value.int .i64)).length = Nat.min ys.length dLen := by rw [List.length_map]; exact (Nat.min_eq_left hle).symm
      refine wpList_copy_own hgd d s 24 24 ho 2 Tryz.underlying24 hsz g off dLen dCap ad ys.length c hd hs _ 2 hg (ys.map (Value.int .i64)) hm (hsrc ad rfl) (by simpa using hfit) (by simp [Value.oneCell']) ?_
      have := h (w.setRow g (splice (vals.map (Value.int .i64)) off (ys.map (Value.int .i64))).toArray) ⟨setRow_heap w g _ _ _ _ hg⟩ ⟨⟨rfl, rfl, rfl, by simp [World.setRow], fun b hb h1 _ _ => setRow_other w g b _ h1⟩⟩
      simpa [splice] using this
def FR (pv bv : Value) (ret : Int) (gx gv n : Nat) (vals : List Int) (W : World) : Prop :=
  W.heap[gx]? = some (.cells #[pv, .int .i64 ret, bv, .slice (some ⟨gv, 0, none⟩) n n] 127 (0, 0)) ∧ W.heap[gv]? = some (.cells (vals.map (Value.int .i64)).toArray 2 (0, 0)) ∧ gx ≠ gv
theorem FR.mv {pv bv : Value} {ret : Int} {gx gv n : Nat} {vals : List Int} {W W' : World} (h : FR pv bv ret gx gv n vals W) (hb : Below W.heap.size W W') : FR pv bv ret gx gv n vals W' :=
  ⟨(hb.block gx (Array.getElem?_eq_some_iff.1 h.1).1).trans h.1, (hb.block gv (Array.getElem?_eq_some_iff.1 h.2.1).1).trans h.2.1, h.2.2⟩
theorem FR.off {pv bv : Value} {ret : Int} {gx gv n g gm : Nat} {o : Option Nat} {vals : List Int} {W W' : World} (h : FR pv bv ret gx gv n vals W) (hb : Off g gm o W W') (hx : Asd g gm o gx W) (hv : Asd g gm o gv W) : FR pv bv ret gx gv n vals W' :=
  ⟨(hb.at hx).trans h.1, (hb.at hv).trans h.2.1, h.2.2⟩
theorem FR.drewN {pv bv : Value} {ret : Int} {gx gv n : Nat} {vals : List Int} {W : World} (h : FR pv bv ret gx gv n vals W) (k : Nat) : FR pv bv ret gx gv n vals (W.drewN k) := h
theorem FR.drew {pv bv : Value} {ret : Int} {gx gv n : Nat} {vals : List Int} {W : World} (h : FR pv bv ret gx gv n vals W) : FR pv bv ret gx gv n vals W.drew := h
theorem FR.cells {pv bv : Value} {ret : Int} {gx gv n : Nat} {vals : List Int} {W : World} (h : FR pv bv ret gx gv n vals W) : W.cell? ⟨gx, 0, none⟩ = some pv ∧ W.cell? ⟨gx, 1, none⟩ = some (.int .i64 ret) ∧ W.cell? ⟨gx, 2, none⟩ = some bv ∧ W.cell? ⟨gx, 3, none⟩ = some (.slice (some ⟨gv, 0, none⟩) n n) ∧ gx < W.heap.size ∧ gv < W.heap.size := by
  obtain ⟨c0, -⟩ := row_facts h.1
  exact ⟨c0 0, c0 1, c0 2, c0 3, (Array.getElem?_eq_some_iff.1 h.1).1, (Array.getElem?_eq_some_iff.1 h.2.1).1⟩
theorem FR.val {pv bv : Value} {ret : Int} {gx gv n : Nat} {vals : List Int} {W : World} (h : FR pv bv ret gx gv n vals W) (k : Int) (h0 : 0 ≤ k) (h1 : k < vals.length) : W.cell? ⟨gv, k.toNat, none⟩ = some (.int .i64 (vl vals k)) ∧ W.frozen? ⟨gv, k.toNat, none⟩ = false := by
  obtain ⟨c0, f0⟩ := row_facts h.2.1
  refine ⟨?_, f0 _⟩
  rw [c0, List.getElem?_toArray, List.getElem?_map]
  unfold vl
  rw [List.getElem?_eq_getElem (by omega), List.getD_eq_getElem?_getD, List.getElem?_eq_getElem (by omega)]; rfl
theorem FR.set {pv bv : Value} {ret : Int} {gx gv n : Nat} {vals : List Int} {W : World} (h : FR pv bv ret gx gv n vals W) (k : Nat) (v : Int) : FR pv bv ret gx gv n (vals.set k v) (W.setCell ⟨gv, k, none⟩ (.int .i64 v)) := by
  refine ⟨heap_off h.1 h.2.2, ?_, h.2.2⟩
  have := heap_set (j := k) (u := .int .i64 v) h.2.1
  simpa [List.map_set] using this
theorem SI.far {mv : Value} {fuel g gm lo gv : Nat} {d : Int} {s : RS} {A : Option Addr} {c : Nat} {W W' : World} (h : SI mv fuel g gm lo d s A c W) (hb : Off gv gv none W W') (hv : Asd g gm (Go.Proofs.YtkcgejbnhpccdaaGreat.blk A) gv W) : SI mv fuel g gm lo d s A c W' := by
  obtain ⟨cm, h1, h2, h3, i1, i2, i3, h4⟩ := h
  refine ⟨cm, (hb.block g (Array.getElem?_eq_some_iff.1 h1).1 hv.g.symm hv.g.symm (by simp)).trans h1, h2.mv (hb.block gm h2.lt hv.gm.symm hv.gm.symm (by simp)), ?_, i1, i2, Nat.le_trans i3 hb.size, h4⟩
  refine ⟨h3.1, ?_⟩
  rcases h3.2 with h' | ⟨g', cap, cur, hv', hl', hx, h''⟩
  · exact .inl h'
  · have hne : g' ≠ gv := fun e => hv.o (by injection hv' with e1 e2 e3; subst e1; rw [← e]; rfl)
    exact .inr ⟨g', cap, cur, hv', hl', (hb.block g' (Array.getElem?_eq_some_iff.1 hx).1 hne hne (by simp)).trans hx, h''⟩
end Go.Proofs.YtkcgejbnhpccdaaGreat
