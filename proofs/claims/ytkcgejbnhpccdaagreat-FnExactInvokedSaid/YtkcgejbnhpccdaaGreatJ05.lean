/- Contracts of the law's marks on results, and of the look whether they hold. Condition: the row is the call's own. That the reference's way to count units gives what the program's gives. No conditions. Contracts of the reference's l2Term and CountOf. No conditions. -/
import Derived.Test.YtkcgejbnhpccdaaGreatJ01
import Derived.Test.YtkcgejbnhpccdaaGreatJ04
import Derived.Deep.QuietTactic
import Derived.BigQuiet
import Derived.Deep.RegionWith
set_option linter.unusedSimpArgs false
set_option linter.unusedVariables false
namespace Go.Proofs.YtkcgejbnhpccdaaGreat
open Go.RowKit
set_option maxHeartbeats 1000000 in
theorem m_Res (x : XRes) (A : Option Addr) (n c : Nat) (k : Int) (w : World) (hl : n ≤ 1048576) (h : ∀ W, Below w.heap.size w W → Wr W A n) (h0 : 0 ≤ k) (h1 : k ≤ 1099511627776) :
    Calls Tryz.prog 36 #[resV x (.slice A n c), .int .i64 k] w (fun e w' => e = .returned (.int .i64 (k + n)) ∧ ∃ W0, Below w.heap.size w W0 ∧ w' = setAll W0 (gblk A) 0 (marks k n)) := by
  have hbl := fun o => (Below.refl w.heap.size w).al (Nat.le_refl _) o
  have hm := fun W (hW : Below w.heap.size w W) => m_I A n c k W hl (h W hW) h0 h1
  clear h
  unfold resV
  go_enter Tryz.func36, Tryz.ntmps36
  go_wp2_with fail
  refine (hm _ (hbl _)).mono ?_; rintro e w1 ⟨rfl, hw1⟩
  go_wp2
  go_ret
  exact ⟨rfl, _, hbl (.cells #[.int .i64 x.code, .int .i64 x.value, .slice A n c, .string x.mem, .int .i64 x.steps] 40), rfl⟩
theorem h_Res (x : XRes) (A : Option Addr) (n c : Nat) (k : Int) (w : World) (hl : n ≤ 1048576) (h : Hld w A n k) (h0 : 0 ≤ k) (h1 : k ≤ 1099511627776) :
    Calls Tryz.prog 37 #[resV x (.slice A n c), .int .i64 k] w (Ret (.int .i64 (k + n)) w) := by
  have hbl := fun o => (Below.refl w.heap.size w).al (Nat.le_refl _) o
  have hm := fun W (hW : Below w.heap.size w W) => h_I A n c k W hl (h.mv hW) h0 h1
  clear h
  have d : (0 : Int) ≤ k + n := by omega
  unfold resV
  go_enter Tryz.func37, Tryz.ntmps37
  go_wp2_with fail
  refine (hm _ (hbl _)).mono ?_; rintro e w1 ⟨rfl, hb1⟩
  go_wp2
  go_ret
  exact ⟨rfl, (hbl _).then hb1⟩
end Go.Proofs.YtkcgejbnhpccdaaGreat
set_option linter.unusedSimpArgs false
set_option linter.unusedVariables false
namespace Go.Proofs.YtkcgejbnhpccdaaGreat
open Go.RowKit
theorem countIn_append (n : Int) (l1 l2 : List XBlock) : countIn n (l1 ++ l2) = countIn (countIn n l1) l2 := by
  simp [countIn, List.sum_append]; omega
theorem countIn_take_le (n : Int) (l : List XBlock) (k : Nat) : countIn n (l.take k) ≤ countIn n l := by
  have h : countIn n l = countIn n (l.take k ++ l.drop k) := by rw [List.take_append_drop]
  rw [h, countIn_append]
  exact countIn_le _ _
theorem placeIn_at (l : List XBlock) : ∀ (k : Nat) (hk : k < l.length) (b0 n id : Int), countIn n (l.take k) ≤ id → id < countIn n (l.take k) + sizeB l[k] → placeIn l b0 n id = (b0 + k, id - countIn n (l.take k)) := by
  induction l with
  | nil => intro k hk; simp at hk
  | cons x r ih =>
    intro k hk b0 n id h1 h2
    unfold placeIn
    cases k with
    | zero =>
      simp [countIn] at h1 h2 ⊢
      intro h; omega
    | succ k =>
      have hc : countIn n ((x :: r).take (k + 1)) = countIn (n + sizeB x) (r.take k) := by simp [countIn]; omega
      rw [hc] at h1 h2 ⊢
      have := countIn_le (n + sizeB x) (r.take k)
      rw [if_neg (by omega), ih k (by simpa using hk) (b0 + 1) (n + sizeB x) id h1 (by simpa using h2)]
      congr 1
      push_cast; omega
theorem placeOf_at (f : XFunc) (k : Nat) (hk : k < f.blocks.length) (id : Int) (h1 : countIn f.params.length (f.blocks.take k) ≤ id) (h2 : id < countIn f.params.length (f.blocks.take k) + sizeB f.blocks[k]) :
    placeOf f id = ((k : Int), id - countIn f.params.length (f.blocks.take k)) := by
  have h3 := countIn_take_le f.params.length f.blocks (k + 1)
  rw [countIn_snoc _ _ _ hk] at h3
  have h4 := countIn_le f.params.length (f.blocks.take k)
  have h5 : isIdB (countOf f) id = true := by
    have : countIn f.params.length f.blocks = countOf f := rfl
    simp [isIdB, inR]; omega
  unfold placeOf
  rw [if_pos h5, if_neg (by omega), placeIn_at f.blocks k hk 0 _ id h1 h2]
  simp
theorem instAt_phi (f : XFunc) (k : Nat) (hk : k < f.blocks.length) (j : Nat) (hj : j < f.blocks[k].phis.length) : instAt f (countIn f.params.length (f.blocks.take k) + j) = (inst0, false) := by
  have hp := placeOf_at f k hk (countIn f.params.length (f.blocks.take k) + j) (by omega) (by unfold sizeB; omega)
  simp only [instAt, hp]
  rw [if_neg (by omega), Int.toNat_natCast, show f.blocks.getD k block0 = f.blocks[k] by simp [hk], if_pos (by omega)]
theorem instAt_inst (f : XFunc) (k : Nat) (hk : k < f.blocks.length) (j : Nat) (hj : j < f.blocks[k].insts.length) : instAt f (countIn f.params.length (f.blocks.take k) + f.blocks[k].phis.length + j) = (f.blocks[k].insts[j], true) := by
  have hp := placeOf_at f k hk (countIn f.params.length (f.blocks.take k) + f.blocks[k].phis.length + j) (by omega) (by unfold sizeB; omega)
  simp only [instAt, hp]
  rw [if_neg (by omega), Int.toNat_natCast, show f.blocks.getD k block0 = f.blocks[k] by simp [hk], if_neg (by omega)]
  rw [show (countIn f.params.length (f.blocks.take k) + f.blocks[k].phis.length + j - countIn f.params.length (f.blocks.take k) - f.blocks[k].phis.length).toNat = j by omega]
  simp [hj]
theorem instAt_param (f : XFunc) (j : Int) (h0 : 0 ≤ j) (hj : j < f.params.length) : instAt f j = (inst0, false) := by
  have : (placeOf f j).1 < 0 := by
    unfold placeOf
    rw [if_pos hj]
    split
    · show (-1 : Int) < 0; omega
    · show (-2 : Int) < 0; omega
  simp [instAt, this]
/-- The units below an id. -/
def unitsTo (f : XFunc) (n : Int) : List Int := (upTo n.toNat).filter (isUnit f)
theorem unitsTo_succ (f : XFunc) (n : Int) (h : 0 ≤ n) : unitsTo f (n + 1) = unitsTo f n ++ (if isUnit f n then [n] else []) := by
  obtain ⟨m, rfl⟩ := Int.eq_ofNat_of_zero_le h
  unfold unitsTo
  rw [show ((m : Int) + 1).toNat = m + 1 by omega, Int.toNat_natCast, upTo_succ, List.filter_append]
  congr 1
  cases h : isUnit f m <;> simp [h]
theorem unitsTo_skip (f : XFunc) (n : Int) (h : 0 ≤ n) (m : Nat) (hn : ∀ j : Nat, j < m → isUnit f (n + j) = false) : unitsTo f (n + m) = unitsTo f n := by
  induction m with
  | zero => simp
  | succ m ih =>
    rw [show n + ((m + 1 : Nat) : Int) = (n + m) + 1 by omega, unitsTo_succ f _ (by omega), hn m (by omega), ih (fun j hj => hn j (by omega))]
    simp
theorem unitsTo_params (f : XFunc) : unitsTo f f.params.length = [] := by
  have := unitsTo_skip f 0 (by omega) f.params.length (fun j hj => by
    rw [isUnit, instAt_param f _ (by omega) (by omega)]; rfl)
  rw [Int.zero_add] at this
  rw [this]; rfl
theorem unitsTo_phis (f : XFunc) (k : Nat) (hk : k < f.blocks.length) : unitsTo f (countIn f.params.length (f.blocks.take k) + f.blocks[k].phis.length) = unitsTo f (countIn f.params.length (f.blocks.take k)) :=
  unitsTo_skip f _ (by have := countIn_le f.params.length (f.blocks.take k); omega) _ (fun j hj => by rw [isUnit, instAt_phi f k hk j hj]; rfl)
theorem unitsTo_inst (f : XFunc) (k : Nat) (hk : k < f.blocks.length) (j : Nat) (hj : j < f.blocks[k].insts.length) :
    unitsTo f (countIn f.params.length (f.blocks.take k) + f.blocks[k].phis.length + j + 1) = unitsTo f (countIn f.params.length (f.blocks.take k) + f.blocks[k].phis.length + j) ++ (if f.blocks[k].insts[j].op == 24 || f.blocks[k].insts[j].op == 25 then [countIn f.params.length (f.blocks.take k) + f.blocks[k].phis.length + j] else []) := by
  rw [unitsTo_succ f _ (by have := countIn_le f.params.length (f.blocks.take k); omega), isUnit, instAt_inst f k hk j hj]
  rfl
theorem unitsOf_eq (f : XFunc) : unitsOf f = unitsTo f (countOf f) := rfl
theorem unitsTo_le (f : XFunc) (n : Int) : (unitsTo f n).length ≤ n.toNat := by
  refine Nat.le_trans (List.length_filter_le _ _) (by simp [upTo])
end Go.Proofs.YtkcgejbnhpccdaaGreat
set_option linter.unusedSimpArgs false
set_option linter.unusedVariables false
namespace Go.Proofs.YtkcgejbnhpccdaaGreat
open Go.RowKit
/-! ### graphs, types, checks: plain -/
def phi0 : XPhi := ⟨0, []⟩
def func0 : XFunc := ⟨[], 0, []⟩
def blkAt (f : XFunc) (b : Int) : XBlock := f.blocks.getD b.toNat block0
def firstOf (f : XFunc) (b : Int) : Int := countIn f.params.length (f.blocks.take b.toNat)
def resW (op w : Int) : Int := if bin op && widthOk w then (if 14 ≤ op then 1 else w) else 0
def widthOf (i : XInst) : Int := if bin i.op then resW i.op i.w else if i.op == 24 || i.op == 25 then 0 else i.w
def typeOf (f : XFunc) (id : Int) : Int :=
  if (placeOf f id).1 == -2 then -1 else if (placeOf f id).1 == -1 then f.params.getD (placeOf f id).2.toNat 0
  else if (placeOf f id).2 < ((blkAt f (placeOf f id).1).phis.length : Int) then ((blkAt f (placeOf f id).1).phis.getD (placeOf f id).2.toNat phi0).w
  else widthOf (instAt f id).1
def leadsTo (t : XTerm) : List Int := if t.kind == 2 then [t.x] else if t.kind == 3 then [t.x, t.y] else []
def predsOf (f : XFunc) (b : Int) : List Int := (upTo f.blocks.length).filter fun k => hasI (leadsTo (blkAt f k).term) b
/-- What is reached: n rounds at most, from a queue, with the marks so far. -/
def reachGo (f : XFunc) (wo : Int) : Nat → List Int → List Bool → List Bool
  | 0, _, out => out
  | _ + 1, [], out => out
  | n + 1, b :: left, out => if b == wo || out.getD b.toNat false then reachGo f wo n left out else reachGo f wo n (left ++ leadsTo (blkAt f b).term) (out.set b.toNat true)
def reach (f : XFunc) (wo : Int) : List Bool := reachGo f wo (3 * f.blocks.length + 1) [0] (List.replicate f.blocks.length false)
def dom (f : XFunc) (a b : Int) : Bool := (reach f (-1)).getD b.toNat false && !(reach f a).getD b.toNat false
def entryOk (f : XFunc) : Bool := (blkAt f 0).phis.isEmpty && (predsOf f 0).isEmpty
def phisOk (f : XFunc) : Bool := (List.range f.blocks.length).all fun k => (blkAt f k).phis.all fun p => p.ins.length == (predsOf f k).length
def typedI (f : XFunc) (i : XInst) : Bool :=
  if bin i.op then typeOf f i.a == i.w && typeOf f i.b == i.w
  else if i.op == 27 then typeOf f i.a == i.w
  else if i.op == 18 || i.op == 19 then typeOf f i.a != 0 && decide (typeOf f i.a < i.w)
  else if i.op == 20 then decide (i.w < typeOf f i.a)
  else if i.op == 22 then typeOf f i.a == 1 && typeOf f i.b == i.w && typeOf f i.c == i.w
  else if i.op == 23 then typeOf f i.a == 32
  else if i.op == 24 then typeOf f i.a == 32 && typeOf f i.b == 8
  else if i.op == 25 then typeOf f i.a != 0 else true
def typedT (f : XFunc) (t : XTerm) : Bool := !(t.kind == 1 && typeOf f t.a != f.ret || t.kind == 3 && typeOf f t.a != 1)
def typesB (f : XFunc) (b : XBlock) : Bool := b.phis.all (fun p => p.ins.all fun id => typeOf f id == p.w) && b.insts.all (typedI f) && typedT f b.term
def typesOk (f : XFunc) : Bool := f.blocks.all (typesB f)
def fits2 (f : XFunc) : List Int → List Int → Bool
  | [], _ => true
  | _, [] => true
  | a :: r, w :: ws => typeOf f a == w && fits2 f r ws
def callOk (m : XMod) (f : XFunc) (i : XInst) : Bool :=
  i.w == (m.funcs.getD i.imm.toNat func0).ret && i.args.length == (m.funcs.getD i.imm.toNat func0).params.length && fits2 f i.args (m.funcs.getD i.imm.toNat func0).params
def callsOk (m : XMod) (f : XFunc) : Bool := f.blocks.all fun b => b.insts.all fun i => !(i.op == 26 && !callOk m f i)
def seen (f : XFunc) (id b ahead : Int) : Bool := if (placeOf f id).1 == -1 then true else if (placeOf f id).1 == b then decide (id < ahead) else dom f (placeOf f id).1 b
def seesP (f : XFunc) (b : Int) (p : XPhi) : Bool := (List.range p.ins.length).all fun k => !((reach f (-1)).getD ((predsOf f b).getD k 0).toNat false && !seen f (p.ins.getD k 0) ((predsOf f b).getD k 0) (countOf f))
def seesI (f : XFunc) (b : Int) (k : Nat) : Bool := (opsOf ((blkAt f b).insts.getD k inst0)).all fun id => seen f id b (firstOf f b + (blkAt f b).phis.length + k)
def seesB (f : XFunc) (b : Int) : Bool :=
  (blkAt f b).phis.all (seesP f b) && (List.range (blkAt f b).insts.length).all (seesI f b)
    && (!((blkAt f b).term.kind == 1 || (blkAt f b).term.kind == 3) || seen f (blkAt f b).term.a b (countOf f))
def domsOk (f : XFunc) : Bool := (List.range f.blocks.length).all fun b => !((reach f (-1)).getD b false && !seesB f b)
def checkF (m : XMod) (f : XFunc) : Int := if !entryOk f then 2 else if !phisOk f then 3 else if !typesOk f then 4 else if !callsOk m f then 5 else if !domsOk f then 6 else 0
def shapeOk (m : XMod) : Bool := inR m.funcs.length 1 3 && m.funcs.all fun f => funcOk f m.funcs.length
def firstBad (m : XMod) : List XFunc → Int
  | [] => 0
  | f :: r => if checkF m f == 0 then firstBad m r else checkF m f
def checkM (m : XMod) : Int := if shapeOk m then firstBad m m.funcs else 1
def modOk (m : XMod) : Bool := checkM m == 0
end Go.Proofs.YtkcgejbnhpccdaaGreat
set_option linter.unusedSimpArgs false
set_option linter.unusedVariables false
namespace Go.Proofs.YtkcgejbnhpccdaaGreat
open Go.RowKit
/-! ### what is reached: the marks, and the numbers that are marked -/
theorem upTo_len' (n : Nat) : (upTo n).length = n := by simp [upTo]
theorem upTo_mem (n : Nat) (x : Int) : x ∈ upTo n ↔ 0 ≤ x ∧ x < n := by
  unfold upTo
  simp only [List.mem_map, List.mem_range]
  constructor
  · rintro ⟨a, h, rfl⟩; omega
  · intro h; exact ⟨x.toNat, by omega, by omega⟩
theorem upTo_get (n k : Nat) (h : k < (upTo n).length) : (upTo n)[k] = (k : Int) := by simp [upTo]
theorem hasI_iff (xs : List Int) (x : Int) : hasI xs x = true ↔ x ∈ xs := by
  unfold hasI
  rw [List.any_eq_true]
  constructor
  · rintro ⟨y, hy, h⟩; rw [beq_iff_eq] at h; rw [h]; exact hy
  · intro h; exact ⟨x, h, by simp⟩
/-- The numbers that are marked. -/
def trues (out : List Bool) : List Int := (upTo out.length).filter fun i => out.getD i.toNat false
/-- A number put into numbers that rise. -/
def putS (l : List Int) (n : Int) : List Int := l.takeWhile (fun x => decide (x < n)) ++ n :: l.dropWhile (fun x => decide (x < n))
theorem trues_has (out : List Bool) (b : Int) (h0 : 0 ≤ b) : hasI (trues out) b = out.getD b.toNat false := by
  rw [Bool.eq_iff_iff, hasI_iff]
  unfold trues
  rw [List.mem_filter, upTo_mem]
  constructor
  · exact fun h => h.2
  · intro h
    refine ⟨⟨h0, ?_⟩, h⟩
    rw [List.getD_eq_getElem?_getD] at h
    by_cases hb : b.toNat < out.length
    · omega
    · rw [List.getElem?_eq_none (by omega)] at h; cases h
theorem filter_upTo (p q : Int → Bool) (n : Nat) (h : ∀ i : Nat, i < n → p i = q i) : (upTo n).filter p = (upTo n).filter q := by
  refine List.filter_congr fun x hx => ?_
  obtain ⟨h1, h2⟩ := (upTo_mem n x).1 hx
  have := h x.toNat (by omega)
  rwa [show ((x.toNat : Nat) : Int) = x by omega] at this
theorem rise_upTo (p : Int → Bool) (n b : Nat) (hb : b < n) (hp : p b = false) : ∀ k, b ≤ k → k ≤ n →
    (((upTo k).filter p).takeWhile (fun x => decide (x < (b : Int))) = (upTo b).filter p ∧ ((upTo k).filter p).dropWhile (fun x => decide (x < (b : Int))) = ((upTo k).filter p).drop ((upTo b).filter p).length ∧ ((upTo k).filter p).take ((upTo b).filter p).length = (upTo b).filter p) := by
  intro k hk hn
  have hsplit : (upTo k).filter p = (upTo b).filter p ++ ((List.range (k - b)).map (fun (i : Nat) => ((b + i : Nat) : Int))).filter p := by
    rw [← List.filter_append]
    congr 1
    unfold upTo
    have : List.range k = List.range b ++ (List.range (k - b)).map (b + ·) := by
      rw [← List.range_add]; congr 1; omega
    rw [this, List.map_append, List.map_map]
    rfl
  have hlow : ∀ x ∈ (upTo b).filter p, decide (x < (b : Int)) = true := fun x hx => by
    have := (upTo_mem b x).1 (List.mem_filter.1 hx).1
    simp; omega
  have hhigh : ∀ x ∈ ((List.range (k - b)).map (fun (i : Nat) => ((b + i : Nat) : Int))).filter p, decide (x < (b : Int)) = false := fun x hx => by
    obtain ⟨i, -, rfl⟩ := List.mem_map.1 (List.mem_filter.1 hx).1
    simp; omega
  rw [hsplit]
  refine ⟨?_, ?_, by simp⟩
  · rw [List.takeWhile_append_of_pos hlow]
    cases h : ((List.range (k - b)).map (fun (i : Nat) => ((b + i : Nat) : Int))).filter p with
    | nil => simp
    | cons y r => rw [List.takeWhile_cons, hhigh y (by rw [h]; simp)]; simp
  · rw [List.dropWhile_append_of_pos hlow, List.drop_left]
    cases h : ((List.range (k - b)).map (fun (i : Nat) => ((b + i : Nat) : Int))).filter p with
    | nil => simp
    | cons y r => rw [List.dropWhile_cons, hhigh y (by rw [h]; simp)]; simp
theorem putS_trues (out : List Bool) (b : Nat) (hb : b < out.length) (hf : out.getD b false = false) : putS (trues out) b = trues (out.set b true) := by
  unfold putS trues
  have hp : (fun i : Int => out.getD i.toNat false) (b : Int) = false := by simpa using hf
  obtain ⟨h1, h2, -⟩ := rise_upTo (fun i : Int => out.getD i.toNat false) out.length b hb hp out.length (by omega) (Nat.le_refl _)
  rw [h1, h2]
  have split3 : ∀ q : Int → Bool, (upTo out.length).filter q = (upTo b).filter q ++ ((if q b then [(b : Int)] else []) ++ ((List.range (out.length - b - 1)).map (fun (i : Nat) => ((b + 1 + i : Nat) : Int))).filter q) := fun q => by
    have : upTo out.length = upTo b ++ ([(b : Int)] ++ (List.range (out.length - b - 1)).map (fun (i : Nat) => ((b + 1 + i : Nat) : Int))) := by
      unfold upTo
      have e : List.range out.length = List.range (b + 1) ++ (List.range (out.length - b - 1)).map (b + 1 + ·) := by
        rw [← List.range_add]; congr 1; omega
      rw [e, List.map_append, List.map_map, List.range_succ, List.map_append, List.append_assoc]
      rfl
    rw [this, List.filter_append, List.filter_append]
    congr 2
    cases h : q b <;> simp [h]
  rw [List.length_set, split3 (fun i => (out.set b true).getD i.toNat false), split3 (fun i => out.getD i.toNat false)]
  have e0 : (out.set b true).getD ((b : Int).toNat) false = true := by simp [hb]
  simp only [e0, if_true]
  have e1 : (upTo b).filter (fun i => (out.set b true).getD i.toNat false) = (upTo b).filter (fun i => out.getD i.toNat false) := filter_upTo _ _ b fun i hi => by
    simp only [Int.toNat_natCast, List.getD_eq_getElem?_getD]
    rw [List.getElem?_set_ne (by omega)]
  have e2 : ((List.range (out.length - b - 1)).map (fun (i : Nat) => ((b + 1 + i : Nat) : Int))).filter (fun i => (out.set b true).getD i.toNat false) = ((List.range (out.length - b - 1)).map (fun (i : Nat) => ((b + 1 + i : Nat) : Int))).filter (fun i => out.getD i.toNat false) := by
    refine List.filter_congr fun x hx => ?_
    obtain ⟨i, -, rfl⟩ := List.mem_map.1 hx
    simp only [Int.toNat_natCast, List.getD_eq_getElem?_getD]
    rw [List.getElem?_set_ne (by omega)]
  rw [e1, e2]
  simp only [Int.toNat_natCast, hf]
  simp
theorem trues_len (out : List Bool) : (trues out).length ≤ out.length := by
  unfold trues
  exact Nat.le_trans (List.length_filter_le _ _) (by simp [upTo])
theorem trues_none (n : Nat) : trues (List.replicate n false) = [] := by
  unfold trues
  rw [List.filter_eq_nil_iff]
  intro x _
  rw [List.getD_eq_getElem?_getD]
  by_cases h : x.toNat < n
  · rw [List.getElem?_eq_getElem (by simpa using h)]; simp
  · rw [List.getElem?_eq_none (by simp; omega)]; simp
/-! ### the rounds -/
def falses (out : List Bool) : Nat := out.countP (!·)
theorem falses_set (out : List Bool) (b : Nat) (hb : b < out.length) (hf : out[b] = false) : falses (out.set b true) + 1 = falses out := by
  unfold falses
  induction out generalizing b with
  | nil => simp at hb
  | cons x r ih =>
    cases b with
    | zero => simp only [List.getElem_cons_zero] at hf; subst hf; simp [List.set]
    | succ b =>
      have := ih b (by simpa using hb) (by simpa using hf)
      simp only [List.set, List.countP_cons]
      omega
theorem falses_rep (n : Nat) : falses (List.replicate n false) = n := by unfold falses; simp [List.countP_replicate]
theorem leads_len (t : XTerm) : (leadsTo t).length ≤ 2 := by
  unfold leadsTo
  split
  · simp
  split
  · simp
  · simp
theorem reach_done (f : XFunc) (wo : Int) (n : Nat) (out : List Bool) : reachGo f wo n [] out = out := by cases n <;> rfl
theorem reachGo_len (f : XFunc) (wo : Int) : ∀ (n : Nat) (left : List Int) (out : List Bool), (reachGo f wo n left out).length = out.length
  | 0, _, _ => rfl
  | _ + 1, [], _ => rfl
  | n + 1, b :: left, out => by
    unfold reachGo
    split
    · exact reachGo_len f wo n left out
    · rw [reachGo_len f wo n]; simp
theorem reach_len (f : XFunc) (wo : Int) : (reach f wo).length = f.blocks.length := by unfold reach; rw [reachGo_len]; simp
/-- All ends lead to blocks. -/
def inGraph (f : XFunc) : Prop := ∀ b ∈ f.blocks, ∀ x ∈ leadsTo b.term, 0 ≤ x ∧ x < f.blocks.length
theorem blkAt_get (f : XFunc) (b : Int) (h0 : 0 ≤ b) (h : b < f.blocks.length) : blkAt f b = f.blocks[b.toNat]'(by omega) := by
  unfold blkAt
  rw [List.getD_eq_getElem?_getD, List.getElem?_eq_getElem (by omega)]; rfl
theorem blkAt_nat (f : XFunc) (b : Nat) (h : b < f.blocks.length) : blkAt f b = f.blocks[b] := blkAt_get f b (by omega) (by omega)
theorem inGraph.at_ {f : XFunc} (h : inGraph f) (b : Int) (h0 : 0 ≤ b) (hb : b < f.blocks.length) : ∀ x ∈ leadsTo (blkAt f b).term, 0 ≤ x ∧ x < f.blocks.length := by
  rw [blkAt_get f b h0 hb]; exact h _ (List.getElem_mem _)
theorem reach_step (f : XFunc) (wo : Int) (n : Nat) (b : Int) (left : List Int) (out : List Bool) :
    reachGo f wo (n + 1) (b :: left) out = if b == wo || out.getD b.toNat false then reachGo f wo n left out else reachGo f wo n (left ++ leadsTo (blkAt f b).term) (out.set b.toNat true) := rfl
theorem reach_at0 (f : XFunc) (wo : Int) (h : 0 < f.blocks.length) : reach f wo = reachGo f wo (3 * f.blocks.length + 1) [0] (List.replicate f.blocks.length false) := rfl
theorem reach_wo0 (f : XFunc) : reach f 0 = List.replicate f.blocks.length false := by
  unfold reach
  rw [reach_step]
  simp [reach_done]
/-! ### functions that are in their form -/
theorem term_in {ids n : Int} {t : XTerm} (h : termOk ids n t = true) : ∀ x ∈ leadsTo t, 0 ≤ x ∧ x < n := by
  unfold termOk isIdB inR at h
  unfold leadsTo
  by_cases h2 : t.kind = 2
  · rw [if_neg (by simp [h2]), if_pos (by simp [h2])] at h
    rw [if_pos (by simp [h2])]
    simp at h
    simp; omega
  by_cases h3 : t.kind = 3
  · rw [if_neg (by simp [h3]), if_neg (by simp [h3]), if_pos (by simp [h3])] at h
    rw [if_neg (by simp [h3]), if_pos (by simp [h3])]
    simp at h
    intro x hx
    simp at hx
    rcases hx with rfl | rfl <;> omega
  · rw [if_neg (by simpa using h2), if_neg (by simpa using h3)]
    intro x hx; cases hx
theorem func_blocks {f : XFunc} {n : Int} (h : funcOk f n = true) : (1 ≤ f.blocks.length ∧ f.blocks.length ≤ 10) ∧ f.params.length ≤ 4 ∧ countOf f ≤ 60 ∧ ∀ b ∈ f.blocks, blockOk (countOf f) n f.blocks.length b = true := by
  unfold funcOk inR at h
  simp only [Bool.and_eq_true, decide_eq_true_eq, List.all_eq_true] at h
  obtain ⟨⟨⟨⟨⟨h1, h2⟩, h3, h4⟩, h5⟩, h6⟩, h7⟩ := h
  exact ⟨by omega, h1, h6, h7⟩
theorem func_graph {f : XFunc} {n : Int} (h : funcOk f n = true) : inGraph f := by
  intro b hb x hx
  have h1 := (func_blocks h).2.2.2 b hb
  unfold blockOk at h1
  simp only [Bool.and_eq_true] at h1
  exact term_in h1.2 x hx
end Go.Proofs.YtkcgejbnhpccdaaGreat
set_option linter.unusedSimpArgs false
set_option linter.unusedVariables false
namespace Go.Proofs.YtkcgejbnhpccdaaGreat
open Go.RowKit
set_option maxHeartbeats 2000000 in
theorem s_l2Term (t : XTerm) (ids m : Int) (w : World) (hi : 0 ≤ ids) (hi2 : ids ≤ 1048576) (hm : 0 ≤ m) (hm2 : m ≤ 1048576) : Calls Tryz.prog 146 #[termV t, .int .i64 ids, .int .i64 m] w (Ret (.bool (termOk ids m t)) w) := by
  have hbl := fun o => (Below.refl w.heap.size w).al (Nat.le_refl _) o
  obtain ⟨k, a, x, y⟩ := t
  simp only [termV] at *
  have ha : isIdB ids a = inR a 0 (ids - 1) := rfl
  have hx : isIdB m x = inR x 0 (m - 1) := rfl
  have hy : isIdB m y = inR y 0 (m - 1) := rfl
  by_cases h1 : k = 1
  · subst h1
    rw [show termOk ids m ⟨1, a, x, y⟩ = (isIdB ids a && x == 0 && y == 0) from rfl, ha]
    clear ha hx hy
    cases qa : inR a 0 (ids - 1)
    all_goals by_cases hx : x = 0
    all_goals by_cases hy : y = 0
    all_goals
      go_enter Tryz.func146, Tryz.ntmps146
      go_wp2_with (go_at_call 47; refine (s_l1In _ _ _ _).mono ?_; rintro e w' ⟨rfl, rfl⟩)
      go_ret
      exact ⟨by simp [hx, hy], hbl _⟩
  by_cases h2 : k = 2
  · subst h2
    rw [show termOk ids m ⟨2, a, x, y⟩ = (a == 0 && isIdB m x && y == 0) from rfl, hx]
    clear ha hx hy
    cases qa : inR x 0 (m - 1)
    all_goals by_cases hA : a = 0
    all_goals by_cases hy : y = 0
    all_goals
      go_enter Tryz.func146, Tryz.ntmps146
      go_wp2_with (go_at_call 47; refine (s_l1In _ _ _ _).mono ?_; rintro e w' ⟨rfl, rfl⟩)
      go_ret
      exact ⟨by simp [hA, hy], hbl _⟩
  by_cases h3 : k = 3
  · subst h3
    rw [show termOk ids m ⟨3, a, x, y⟩ = (isIdB ids a && isIdB m x && isIdB m y && x != y) from rfl, ha, hx, hy]
    clear ha hx hy
    cases qa : inR a 0 (ids - 1)
    all_goals cases qx : inR x 0 (m - 1)
    all_goals cases qy : inR y 0 (m - 1)
    all_goals
      go_enter Tryz.func146, Tryz.ntmps146
      go_wp2_with (go_at_call 47; refine (s_l1In _ _ _ _).mono ?_; rintro e w' ⟨rfl, rfl⟩)
      go_ret
      exact ⟨by simp, hbl _⟩
  by_cases h4 : k = 4
  · subst h4
    rw [show termOk ids m ⟨4, a, x, y⟩ = (a == 0 && x == 0 && y == 0) from rfl]
    clear ha hx hy
    by_cases hA : a = 0
    all_goals by_cases hX : x = 0
    all_goals
      go_enter Tryz.func146, Tryz.ntmps146
      go_wp2
      go_ret
      exact ⟨by simp [hA, hX], hbl _⟩
  · rw [show termOk ids m ⟨k, a, x, y⟩ = false by simp [termOk, h1, h2, h3, h4]]
    clear ha hx hy
    have b1 := beqF h1
    have b2 := beqF h2
    have b3 := beqF h3
    have b4 := beqF h4
    go_enter Tryz.func146, Tryz.ntmps146
    go_wp2
    go_ret
    exact ⟨by simp, hbl _⟩
theorem pw_drewN {B : Nat} {a w : World} (h : Below B a w) (q : Nat) : Below B a (w.drewN q) := ⟨h.os, h.tape, h.output, h.size, h.block⟩
set_option maxHeartbeats 1000000 in
theorem s_CountOf (f : XFunc) (cs : List Value) (w : World) (hf : KFunc lm w f cs) : Calls Tryz.prog 79 #[.agg cs.toArray] w (Ret (.int .i64 (countOf f)) w) := by
  obtain ⟨v1, v2, rfl, hp, hb⟩ := hf
  have hbd := Hd.mk hb.blocks
  obtain ⟨A1, c1, rfl, -, hl1, -⟩ := hp.sm
  obtain ⟨A2, c2, rfl, -, hl2, hb0⟩ := hb.sm
  clear hb hp
  unfold countOf
  generalize f.params.length = n at *
  generalize f.blocks = l at *
  generalize f.ret = r at *
  have hbl := fun o => (Below.refl w.heap.size w).al (Nat.le_refl _) o
  go_enter Tryz.func79, Tryz.ntmps79
  go_wp2
  go_loopw [3, 4] (fun s3 s4 wr => ∃ k : Nat, k ≤ l.length ∧ s4 = .int .i64 k ∧ s3 = .int .i64 (countIn n (l.take k)) ∧ Hd (Below (w.heap.size + 1) (w.alloc (.cells #[.slice A1 n c1, .int .i64 r, .slice A2 l.length c2] 35)) wr)) (fun _ s4 _ => l.length - (intOf s4).toNat)
  case atStart => exact ⟨0, Nat.zero_le _, rfl, by simp [countIn], ⟨Below.refl _ _⟩⟩
  case round =>
    obtain ⟨k, hk, rfl, rfl, hbr⟩ := hrel
    have k0 := bat hbr.out w.heap.size (by omega)
    simp at k0
    have hbw : Below w.heap.size w wr := (hbl _).trans (hbr.out.mono (by omega))
    have hc1 := countIn_bd n l k hbd.out hk
    have hc2 := countIn_le n (l.take k)
    by_cases hlt : k < l.length
    · obtain ⟨b, off, cs, hA, hbl', ⟨v1, v2, rfl, hr, hr2⟩, hat⟩ := hb0.out.in0 hbw k hlt
      cases hA
      have g0 := hat 0 _ rfl
      have g1 := hat 1 _ rfl
      clear hat
      simp at g0 g1
      obtain ⟨A1, c1, rfl, -, hl3, -⟩ := hr.sm
      obtain ⟨A2, c2, rfl, -, hl4, -⟩ := hr2.sm
      have hsn := Hd.mk (countIn_snoc n l k hlt)
      have hsz := Hd.mk (show sizeB l[k] = l[k].phis.length + l[k].insts.length from rfl)
      generalize countIn n (l.take k) = s at *
      have hltz : (k : Int) < (l.length : Int) := by omega
      have hk0 : (0 : Int) ≤ (k : Int) := by omega
      have e1 : IntKind.i64.wrap ((l[k].phis.length : Int) + (l[k].insts.length : Int)) = (l[k].phis.length : Int) + (l[k].insts.length : Int) := IntWalk.i64_in _ (by omega)
      have e2 : IntKind.i64.wrap (s + ((l[k].phis.length : Int) + (l[k].insts.length : Int))) = s + ((l[k].phis.length : Int) + (l[k].insts.length : Int)) := IntWalk.i64_in _ (by omega)
      generalize l[k].phis.length = p1 at *
      generalize l[k].insts.length = p2 at *
      go_wp2
      go_quiet (fail)
      clear e1 e2
      go_wp2
      go_roundw
      case rel => exact ⟨k + 1, by omega, by go_num, by rw [hsn.out, hsz.out], ⟨pw_drewN hbr.out _⟩⟩
      case measure => simp [intOf]; omega
    · have e : k = l.length := by omega
      subst e
      go_wp2
      go_ret
      exact ⟨by rw [List.take_length]; rfl, hbw⟩
end Go.Proofs.YtkcgejbnhpccdaaGreat
set_option linter.unusedSimpArgs false
set_option linter.unusedVariables false
namespace Go.Proofs.YtkcgejbnhpccdaaGreat
open Go.RowKit
theorem c_leadsTo (t : XTerm) (w : World) : Calls Tryz.prog 178 #[termV t] w (RetI (leadsTo t) w) := by
  have hbl := fun o => (Below.refl w.heap.size w).al (Nat.le_refl _) o
  obtain ⟨k, a, x, y⟩ := t
  simp only [termV] at *
  by_cases h1 : k = 2
  · subst h1
    rw [show leadsTo ⟨2, a, x, y⟩ = [x] from rfl]
    go_enter Tryz.func178, Tryz.ntmps178
    go_wp2
    go_ret
    exact retI_made (hbl _) [x] 1 _ rfl (by simp) (by omega)
  by_cases h2 : k = 3
  · subst h2
    rw [show leadsTo ⟨3, a, x, y⟩ = [x, y] from rfl]
    go_enter Tryz.func178, Tryz.ntmps178
    go_wp2
    go_ret
    exact retI_made (hbl _) [x, y] 2 _ rfl (by simp) (by omega)
  · rw [show leadsTo ⟨k, a, x, y⟩ = [] by simp [leadsTo, h1, h2]]
    have b1 := beqF h1
    have b2 := beqF h2
    go_enter Tryz.func178, Tryz.ntmps178
    go_wp2
    go_ret
    exact ⟨_, rfl, ownI_nil _ _, hbl _⟩
theorem c_ResultWidth (op wd : Int) (w : World) : Calls Tryz.prog 216 #[.int .i64 op, .int .i64 wd] w (Same (.int .i64 (resW op wd)) w) := by
  have h1 : ∀ W, Calls _ _ _ W _ := fun W => c_isBinary op W
  have h2 : ∀ W, Calls _ _ _ W _ := fun W => c_WidthOk wd W
  generalize hR : resW op wd = R
  have hR' := Hd.mk hR
  clear hR
  cases q1 : bin op
  · have hv : R = 0 := by rw [← hR'.out]; simp [resW, q1]
    subst hv
    clear hR'
    rw [q1] at h1
    clear h2 q1
    go_enter Tryz.func216, Tryz.ntmps216
    go_wp2_with fail
    refine (h1 _).mono ?_; rintro e w' ⟨rfl, rfl⟩
    go_wp2
    go_ret
    exact ⟨rfl, rfl⟩
  cases q2 : widthOk wd
  · have hv : R = 0 := by rw [← hR'.out]; simp [resW, q1, q2]
    subst hv
    clear hR'
    rw [q1] at h1
    rw [q2] at h2
    clear q1 q2
    go_enter Tryz.func216, Tryz.ntmps216
    go_wp2_with fail
    refine (h1 _).mono ?_; rintro e w' ⟨rfl, rfl⟩
    go_wp2_with fail
    refine (h2 _).mono ?_; rintro e w' ⟨rfl, rfl⟩
    go_wp2
    go_ret
    exact ⟨rfl, rfl⟩
  by_cases h3 : 14 ≤ op
  · have hv : R = 1 := by rw [← hR'.out]; unfold resW; rw [if_pos (by rw [q1, q2]; rfl), if_pos h3]
    subst hv
    clear hR'
    have d3 : decide (14 ≤ op) = true := by simpa using h3
    rw [q1] at h1
    rw [q2] at h2
    clear q1 q2 h3
    go_enter Tryz.func216, Tryz.ntmps216
    go_wp2_with fail
    refine (h1 _).mono ?_; rintro e w' ⟨rfl, rfl⟩
    go_wp2_with fail
    refine (h2 _).mono ?_; rintro e w' ⟨rfl, rfl⟩
    go_wp2
    go_ret
    exact ⟨rfl, rfl⟩
  · have hv : R = wd := by rw [← hR'.out]; unfold resW; rw [if_pos (by rw [q1, q2]; rfl), if_neg h3]
    subst hv
    clear hR'
    have d3 : decide (14 ≤ op) = false := by simpa using h3
    rw [q1] at h1
    rw [q2] at h2
    clear q1 q2 h3
    go_enter Tryz.func216, Tryz.ntmps216
    go_wp2_with fail
    refine (h1 _).mono ?_; rintro e w' ⟨rfl, rfl⟩
    go_wp2_with fail
    refine (h2 _).mono ?_; rintro e w' ⟨rfl, rfl⟩
    go_wp2
    go_ret
    exact ⟨rfl, rfl⟩
theorem s_ResultWidth (op wd : Int) (w : World) : Calls Tryz.prog 217 #[.int .i64 op, .int .i64 wd] w (Same (.int .i64 (resW op wd)) w) := by
  have h1 : ∀ W, Calls _ _ _ W _ := fun W => s_l1In op 1 17 W
  have h2 : ∀ W, Calls _ _ _ W _ := fun W => s_WidthOk wd W
  simp only [show inR op 1 17 = bin op from rfl] at h1
  generalize hR : resW op wd = R
  have hR' := Hd.mk hR
  clear hR
  cases q2 : widthOk wd
  · have hv : R = 0 := by rw [← hR'.out]; simp [resW, q2]
    subst hv
    clear hR'
    rw [q2] at h2
    clear h1 q2
    go_enter Tryz.func217, Tryz.ntmps217
    go_wp2_with fail
    refine (h2 _).mono ?_; rintro e w' ⟨rfl, rfl⟩
    go_wp2
    go_ret
    exact ⟨rfl, rfl⟩
  cases q1 : bin op
  · have hv : R = 0 := by rw [← hR'.out]; simp [resW, q1, q2]
    subst hv
    clear hR'
    rw [q2] at h2
    rw [q1] at h1
    clear q2 q1
    go_enter Tryz.func217, Tryz.ntmps217
    go_wp2_with fail
    refine (h2 _).mono ?_; rintro e w' ⟨rfl, rfl⟩
    go_wp2_with fail
    refine (h1 _).mono ?_; rintro e w' ⟨rfl, rfl⟩
    go_wp2
    go_ret
    exact ⟨rfl, rfl⟩
  by_cases h3 : 14 ≤ op
  · have hv : R = 1 := by rw [← hR'.out]; unfold resW; rw [if_pos (by rw [q1, q2]; rfl), if_pos h3]
    subst hv
    clear hR'
    have d3 : decide (14 ≤ op) = true := by simpa using h3
    rw [q2] at h2
    rw [q1] at h1
    clear q2 q1 h3
    go_enter Tryz.func217, Tryz.ntmps217
    go_wp2_with fail
    refine (h2 _).mono ?_; rintro e w' ⟨rfl, rfl⟩
    go_wp2_with fail
    refine (h1 _).mono ?_; rintro e w' ⟨rfl, rfl⟩
    go_wp2
    go_ret
    exact ⟨rfl, rfl⟩
  · have hv : R = wd := by rw [← hR'.out]; unfold resW; rw [if_pos (by rw [q1, q2]; rfl), if_neg h3]
    subst hv
    clear hR'
    have d3 : decide (14 ≤ op) = false := by simpa using h3
    rw [q2] at h2
    rw [q1] at h1
    clear q2 q1 h3
    go_enter Tryz.func217, Tryz.ntmps217
    go_wp2_with fail
    refine (h2 _).mono ?_; rintro e w' ⟨rfl, rfl⟩
    go_wp2_with fail
    refine (h1 _).mono ?_; rintro e w' ⟨rfl, rfl⟩
    go_wp2
    go_ret
    exact ⟨rfl, rfl⟩
theorem c_widthOf (i : XInst) (v : Value) (w : World) : Calls Tryz.prog 186 #[instV i v] w (Ret (.int .i64 (widthOf i)) w) := by
  have hbl := fun o => (Below.refl w.heap.size w).al (Nat.le_refl _) o
  obtain ⟨op, wd, a, b, c, imm, args⟩ := i
  simp only [instV] at *
  have h1 := fun W => c_isBinary op W
  have h2 := fun W => c_ResultWidth op wd W
  unfold widthOf
  simp only
  cases q1 : bin op
  rotate_left
  · rw [q1] at h1
    clear q1
    go_enter Tryz.func186, Tryz.ntmps186
    go_wp2_with fail
    refine (h1 _).mono ?_; rintro e w' ⟨rfl, rfl⟩
    go_wp2_with fail
    refine (h2 _).mono ?_; rintro e w' ⟨rfl, rfl⟩
    go_wp2
    go_ret
    exact ⟨rfl, hbl _⟩
  rw [q1] at h1
  clear q1 h2
  by_cases h24 : op = 24
  · subst h24
    go_enter Tryz.func186, Tryz.ntmps186
    go_wp2_with fail
    refine (h1 _).mono ?_; rintro e w' ⟨rfl, rfl⟩
    go_wp2
    go_ret
    exact ⟨rfl, hbl _⟩
  have b1 := beqF h24
  by_cases h25 : op = 25
  · subst h25
    go_enter Tryz.func186, Tryz.ntmps186
    go_wp2_with fail
    refine (h1 _).mono ?_; rintro e w' ⟨rfl, rfl⟩
    go_wp2
    go_ret
    exact ⟨rfl, hbl _⟩
  have b2 := beqF h25
  go_enter Tryz.func186, Tryz.ntmps186
  go_wp2_with fail
  refine (h1 _).mono ?_; rintro e w' ⟨rfl, rfl⟩
  go_wp2
  go_ret
  exact ⟨by simp [h24, h25], hbl _⟩
/-- The reference asks no more than whether an instruction reckons: of what is in its form it is the same. -/
theorem s_l2Width (i : XInst) (v : Value) (w : World) (h0 : (i.op = 24 ∨ i.op = 25) → i.w = 0) : Calls Tryz.prog 189 #[instV i v] w (Ret (.int .i64 (widthOf i)) w) := by
  have hbl := fun o => (Below.refl w.heap.size w).al (Nat.le_refl _) o
  obtain ⟨op, wd, a, b, c, imm, args⟩ := i
  simp only [instV] at *
  have h1 := fun W => s_l1In op 1 17 W
  have h2 := fun W => s_ResultWidth op wd W
  simp only [show inR op 1 17 = bin op from rfl] at h1
  have hR : widthOf ⟨op, wd, a, b, c, imm, args⟩ = if bin op then resW op wd else wd := by
    unfold widthOf
    simp only
    split
    · rfl
    split
    · rename_i h
      rw [h0 (by simpa using h)]
    · rfl
  rw [hR]
  clear h0 hR
  cases q1 : bin op
  rotate_left
  · rw [q1] at h1
    clear q1
    go_enter Tryz.func189, Tryz.ntmps189
    go_wp2_with fail
    refine (h1 _).mono ?_; rintro e w' ⟨rfl, rfl⟩
    go_wp2_with fail
    refine (h2 _).mono ?_; rintro e w' ⟨rfl, rfl⟩
    go_wp2
    go_ret
    exact ⟨rfl, hbl _⟩
  · rw [q1] at h1
    clear q1 h2
    go_enter Tryz.func189, Tryz.ntmps189
    go_wp2_with fail
    refine (h1 _).mono ?_; rintro e w' ⟨rfl, rfl⟩
    go_wp2
    go_ret
    exact ⟨rfl, hbl _⟩
set_option maxHeartbeats 1000000 in
theorem c_firstOf (f : XFunc) (cs : List Value) (b : Nat) (w : World) (hf : KFunc lm w f cs) (hb0 : b ≤ f.blocks.length) : Calls Tryz.prog 95 #[.agg cs.toArray, .int .i64 b] w (Ret (.int .i64 (firstOf f b)) w) := by
  obtain ⟨v1, v2, rfl, hp, hb⟩ := hf
  have hbd := Hd.mk hb.blocks
  obtain ⟨A1, c1, rfl, -, hl1, -⟩ := hp.sm
  obtain ⟨A2, c2, rfl, hcap, hl2, hb0'⟩ := hb.sm
  have hcap2 : (b : Int) ≤ (c2 : Int) := by omega
  have hcap3 : b ≤ c2 := by omega
  clear hb hp
  unfold firstOf
  rw [Int.toNat_natCast]
  generalize f.params.length = n at *
  generalize f.blocks = l at *
  generalize f.ret = r at *
  go_enter Tryz.func95, Tryz.ntmps95
  go_wp2
  go_loopw [5, 16] (fun s5 s16 wr => ∃ k : Nat, k ≤ b ∧ s16 = .int .i64 k ∧ s5 = .int .i64 (countIn n (l.take k)) ∧ Hd (Below w.heap.size w wr)) (fun _ s16 _ => b - (intOf s16).toNat)
  case atStart => exact ⟨0, Nat.zero_le _, rfl, by simp [countIn], ⟨(Below.refl _ w).al (Nat.le_refl _) _⟩⟩
  case round =>
    obtain ⟨k, hk, rfl, rfl, hbw⟩ := hrel
    have hc1 := countIn_bd n l k hbd.out (by omega)
    have hc2 := countIn_le n (l.take k)
    by_cases hlt : k < b
    · obtain ⟨b', off, cs, hA, hbl, ⟨v1, v2, rfl, hr, hr2⟩, hat⟩ := hb0'.out.in_ hbw.out k (by omega)
      cases hA
      have g0 := hat 0 _ rfl
      have g1 := hat 1 _ rfl
      have g2 := hat 2 _ rfl
      have g3 := hat 3 _ rfl
      have g4 := hat 4 _ rfl
      have g5 := hat 5 _ rfl
      clear hat
      simp at g0 g1 g2 g3 g4 g5
      obtain ⟨A1, c1, rfl, -, hl3, -⟩ := hr.sm
      obtain ⟨A2, c2, rfl, -, hl4, -⟩ := hr2.sm
      have hsn := Hd.mk (countIn_snoc n l k (by omega))
      generalize countIn n (l.take k) = s at *
      have hb1 := hbw.out.size
      go_wp2
      go_roundw
      case rel => exact ⟨k + 1, by omega, by go_num, by rw [hsn.out]; rfl, ⟨hbw.out.al hb1 _⟩⟩
      case measure => simp [intOf]; omega
    · have e : k = b := by omega
      subst e
      go_wp2
      go_ret
      exact ⟨rfl, hbw.out⟩
end Go.Proofs.YtkcgejbnhpccdaaGreat
set_option linter.unusedSimpArgs false
set_option linter.unusedVariables false
namespace Go.Proofs.YtkcgejbnhpccdaaGreat
open Go.RowKit
set_option maxHeartbeats 1000000 in
theorem s_l2First (f : XFunc) (cs : List Value) (b : Nat) (w : World) (hf : KFunc lm w f cs) (hb0 : b ≤ f.blocks.length) : Calls Tryz.prog 109 #[.agg cs.toArray, .int .i64 b] w (Ret (.int .i64 (firstOf f b)) w) := by
  obtain ⟨v1, v2, rfl, hp, hb⟩ := hf
  have hbd := Hd.mk hb.blocks
  obtain ⟨A1, c1, rfl, -, hl1, -⟩ := hp.sm
  obtain ⟨A2, c2, rfl, hcap, hl2, hb0'⟩ := hb.sm
  clear hb hp
  unfold firstOf
  rw [Int.toNat_natCast]
  generalize f.params.length = n at *
  generalize f.blocks = l at *
  generalize f.ret = r at *
  have hbl := fun o => (Below.refl w.heap.size w).al (Nat.le_refl _) o
  go_enter Tryz.func109, Tryz.ntmps109
  go_wp2
  go_loopw [5, 6] (fun s5 s6 wr => ∃ k : Nat, k ≤ b ∧ s6 = .int .i64 k ∧ s5 = .int .i64 (countIn n (l.take k)) ∧ Hd (Below (w.heap.size + 1) (w.alloc (.cells #[.slice A1 n c1, .int .i64 r, .slice A2 l.length c2] 35)) wr)) (fun _ s6 _ => b - (intOf s6).toNat)
  case atStart => exact ⟨0, Nat.zero_le _, rfl, by simp [countIn], ⟨Below.refl _ _⟩⟩
  case round =>
    obtain ⟨k, hk, rfl, rfl, hbr⟩ := hrel
    have k0 := bat hbr.out w.heap.size (by omega)
    simp at k0
    have hbw : Below w.heap.size w wr := (hbl _).trans (hbr.out.mono (by omega))
    have hc1 := countIn_bd n l k hbd.out (by omega)
    have hc2 := countIn_le n (l.take k)
    by_cases hlt : k < b
    · obtain ⟨eb, eo, ecs, hA_, heb, ⟨bv1, bv2, rfl, hr_, hr2_⟩, hat_⟩ := (hb0'.out).in0 (hbw) (k) (by omega)
      cases hA_
      have hew := Nat.lt_of_lt_of_le heb (hbw).size
      have g0 := hat_ 0 _ rfl
      have g1 := hat_ 1 _ rfl
      have g2 := hat_ 2 _ rfl
      have g3 := hat_ 3 _ rfl
      have g4 := hat_ 4 _ rfl
      have g5 := hat_ 5 _ rfl
      clear hat_
      simp at g0 g1 g2 g3 g4 g5
      obtain ⟨Ap, cp, rfl, hcp, hlp, hrp⟩ := hr_.sm
      obtain ⟨Ai, ci, rfl, hci, hli, hri⟩ := hr2_.sm
      clear hr_ hr2_
      have hsn := Hd.mk (countIn_snoc n l k (by omega))
      have hsz := Hd.mk (show sizeB (l[k]'(by omega)) = (l[k]'(by omega)).phis.length + (l[k]'(by omega)).insts.length from rfl)
      generalize countIn n (l.take k) = s at *
      have hltz : (k : Int) < (l.length : Int) := by omega
      have hk0 : (0 : Int) ≤ (k : Int) := by omega
      generalize l[k]'(by omega) = x at *
      have e1 : IntKind.i64.wrap ((x.phis.length : Int) + (x.insts.length : Int)) = (x.phis.length : Int) + (x.insts.length : Int) := IntWalk.i64_in _ (by omega)
      have e2 : IntKind.i64.wrap (s + ((x.phis.length : Int) + (x.insts.length : Int))) = s + ((x.phis.length : Int) + (x.insts.length : Int)) := IntWalk.i64_in _ (by omega)
      generalize x.phis.length = p1 at *
      generalize x.insts.length = p2 at *
      go_wp2
      go_quiet (fail)
      clear e1 e2
      go_wp2
      go_roundw
      case rel => exact ⟨k + 1, by omega, by go_num, by rw [hsn.out, hsz.out], ⟨pw_drewN hbr.out _⟩⟩
      case measure => simp [intOf]; omega
    · have e : k = b := by omega
      subst e
      go_wp2
      go_ret
      exact ⟨rfl, hbw⟩
theorem any_take_snoc {α : Type} (p : α → Bool) (l : List α) (k : Nat) (h : k < l.length) : (l.take (k + 1)).any p = ((l.take k).any p || p l[k]) := by
  rw [List.take_succ_eq_append_getElem h, List.any_append]; simp
theorem any_true_of {α : Type} (p : α → Bool) (l : List α) (k : Nat) (h : k < l.length) (hp : p l[k] = true) : l.any p = true := by
  rw [List.any_eq_true]; exact ⟨_, List.getElem_mem h, hp⟩
theorem s_l1Has (v : Value) (xs : List Int) (x : Int) (w : World) (hv : RI lm w v xs) : Calls Tryz.prog 147 #[v, .int .i64 x] w (Ret (.bool (hasI xs x)) w) := by
  obtain ⟨A, c, rfl, h1, h2, hv0⟩ := hv.sm
  clear hv
  generalize hR : hasI xs x = R
  have hR' := Hd.mk hR
  clear hR
  unfold hasI at hR'
  go_enter Tryz.func147, Tryz.ntmps147
  go_wp2
  go_loopw [5] (fun s5 wr => ∃ k : Nat, k ≤ xs.length ∧ s5 = .int .i64 k ∧ wr = w ∧ Hd ((xs.take k).any (fun y => x == y) = false)) (fun s5 _ => xs.length - (intOf s5).toNat)
  case atStart => exact ⟨0, Nat.zero_le _, rfl, rfl, ⟨rfl⟩⟩
  case round =>
    obtain ⟨k, hk, rfl, rfl, hn⟩ := hrel
    by_cases hlt : k < xs.length
    · obtain ⟨eb, eo, ecs, hA_, heb, hk_, hat_⟩ := (hv0.out).in0 (Below.refl wr.heap.size wr) (k) (hlt)
      cases hA_
      cases hk_
      have hew := Nat.lt_of_lt_of_le heb (Below.refl wr.heap.size wr).size
      have g0 := hat_ 0 _ rfl
      clear hat_
      simp at g0
      have hsn := Hd.mk (any_take_snoc (fun y => x == y) xs k hlt)
      have htr := fun h => Hd.mk (any_true_of (fun y => x == y) xs k hlt h)
      generalize xs[k] = y at *
      by_cases hq : y = x
      · have hq2 : (y == x) = true := by simpa using hq
        have hv : R = true := by rw [← hR'.out]; exact (htr (by simp [hq])).out
        subst hv
        clear htr hsn hR' hq
        go_wp2
        go_ret
        exact ⟨rfl, Below.refl _ _⟩
      · have hq2 : (y == x) = false := by simpa using hq
        have hq3 : (x == y) = false := by simpa using fun e => hq e.symm
        have hn2 := Hd.mk (show (xs.take (k + 1)).any (fun y => x == y) = false by rw [hsn.out, hn.out, hq3]; rfl)
        clear htr hsn hq hq3
        go_wp2
        go_roundw
        case rel => exact ⟨k + 1, by omega, by go_num, by trivial, hn2⟩
        case measure => simp [intOf]; omega
    · have e : k = xs.length := by omega
      subst e
      have hv : R = false := by rw [← hR'.out]; have := hn.out; rwa [List.take_length] at this
      subst hv
      go_wp2
      go_ret
      exact ⟨rfl, Below.refl _ _⟩
theorem s_l3Succs (f : XFunc) (cs : List Value) (b : Nat) (w : World) (hf : KFunc lm w f cs) (hb : b < f.blocks.length) : Calls Tryz.prog 148 #[.agg cs.toArray, .int .i64 b] w (RetI (leadsTo (blkAt f b).term) w) := by
  rw [blkAt_nat f b hb]
  obtain ⟨v1, v2, rfl, hp, hb'⟩ := hf
  obtain ⟨A1, c1, rfl, -, hl1, -⟩ := hp.sm
  obtain ⟨A2, c2, rfl, hcap, hl2, hb0⟩ := hb'.sm
  clear hp hb'
  have hbl := fun o o' => ((Below.refl w.heap.size w).al (Nat.le_refl _) o).al (by simp) o'
  obtain ⟨eb, eo, ecs, hA_, heb, ⟨bv1, bv2, rfl, hr_, hr2_⟩, hat_⟩ := (hb0.out).in0 (Below.refl w.heap.size w) (b) (hb)
  cases hA_
  have hew := Nat.lt_of_lt_of_le heb (Below.refl w.heap.size w).size
  have g0 := hat_ 0 _ rfl
  have g1 := hat_ 1 _ rfl
  have g2 := hat_ 2 _ rfl
  have g3 := hat_ 3 _ rfl
  have g4 := hat_ 4 _ rfl
  have g5 := hat_ 5 _ rfl
  clear hat_
  simp at g0 g1 g2 g3 g4 g5
  obtain ⟨Ap, cp, rfl, hcp, hlp, hrp⟩ := hr_.sm
  obtain ⟨Ai, ci, rfl, hci, hli, hri⟩ := hr2_.sm
  clear hr_ hr2_
  have h0 : (0 : Int) ≤ (b : Int) := by omega
  have h1 : (b : Int) < (f.blocks.length : Int) := by omega
  generalize f.blocks[b] = x at *
  generalize f.blocks.length = n at *
  generalize x.term = t at *
  obtain ⟨k, ta, tx, ty⟩ := t
  simp only at *
  by_cases h2 : k = 2
  · subst h2
    rw [show leadsTo ⟨2, ta, tx, ty⟩ = [tx] from rfl]
    go_enter Tryz.func148, Tryz.ntmps148
    go_wp2
    go_ret
    exact retI_made (hbl _ _) [tx] 1 _ rfl (by simp) (by omega)
  by_cases h3 : k = 3
  · subst h3
    rw [show leadsTo ⟨3, ta, tx, ty⟩ = [tx, ty] from rfl]
    go_enter Tryz.func148, Tryz.ntmps148
    go_wp2
    go_ret
    exact retI_made (hbl _ _) [tx, ty] 2 _ rfl (by simp) (by omega)
  · rw [show leadsTo ⟨k, ta, tx, ty⟩ = [] by simp [leadsTo, h2, h3]]
    have b1 := beqF h2
    have b2 := beqF h3
    go_enter Tryz.func148, Tryz.ntmps148
    go_wp2
    go_ret
    exact retI_made (hbl _ _) [] 0 _ rfl (by simp) (by omega)
theorem upTo_filter_snoc (p : Int → Bool) (k : Nat) : (upTo (k + 1)).filter p = (upTo k).filter p ++ (if p k then [(k : Int)] else []) := by
  rw [upTo_succ, List.filter_append]
  congr 1
  cases h : p k <;> simp [h]
theorem upTo_filter_len (p : Int → Bool) (k : Nat) : ((upTo k).filter p).length ≤ k := by
  have := List.length_filter_le p (upTo k)
  rwa [upTo_len'] at this
set_option maxHeartbeats 4000000 in
theorem c_predsOf (f : XFunc) (cs : List Value) (b : Int) (w : World) (hf : KFunc lm w f cs) : Calls Tryz.prog 144 #[.agg cs.toArray, .int .i64 b] w (RetI (predsOf f b) w) := by
  obtain ⟨v1, v2, rfl, hp, hb'⟩ := hf
  obtain ⟨A1, c1, rfl, -, hl1, -⟩ := hp.sm
  obtain ⟨A2, c2, rfl, hcap, hl2, hb0⟩ := hb'.sm
  clear hp hb'
  have hbl := fun o o' => ((Below.refl w.heap.size w).al (Nat.le_refl _) o).al (by simp) o'
  unfold predsOf
  have hpk := fun k h => blkAt_nat f k h
  generalize hP : (fun k => hasI (leadsTo (blkAt f k).term) b) = P at *
  have hPk : ∀ (k : Nat) (h : k < f.blocks.length), Hd (P k = hasI (leadsTo f.blocks[k].term) b) := fun k h => ⟨by rw [← hP, ← hpk k h]⟩
  clear hP hpk
  have hlen := fun k => Hd.mk (upTo_filter_len P k)
  have hsn := fun k => Hd.mk (upTo_filter_snoc P k)
  have hown0 : ((w.alloc (.cells #[.slice A1 f.params.length c1, .int .i64 f.ret, .slice A2 f.blocks.length c2] 35)).alloc (.cells #[] 2)).ownsRow (w.heap.size + 1) 2 1 (.slice (some ⟨w.heap.size + 1, 0, none⟩) 0 0) 0 [] := own_empty _ _ _ _ _ (by simp) (by simp)
  have hown := Hd.mk hown0
  clear hown0
  generalize f.params.length = n at *
  generalize f.blocks = l at *
  generalize f.ret = r at *
  go_enter Tryz.func144, Tryz.ntmps144
  go_wp2
  go_loopw [5, 12] (fun s5 s12 wr => ∃ k : Nat, k ≤ l.length ∧ s12 = .int .i64 k ∧ Hd (wr.ownsRow (w.heap.size + 1) 2 1 s5 ((upTo k).filter P).length (((upTo k).filter P).map (Value.int .i64))) ∧ Hd (Below w.heap.size w wr)) (fun _ s12 _ => l.length - (intOf s12).toNat)
  case atStart => exact ⟨0, Nat.zero_le _, rfl, ⟨by simpa [upTo] using hown.out⟩, ⟨hbl _ _⟩⟩
  case round =>
    obtain ⟨k, hk, rfl, ho, hbr⟩ := hrel
    by_cases hlt : k < l.length
    · obtain ⟨eb, eo, ecs, hA_, heb, ⟨bv1, bv2, rfl, hr_, hr2_⟩, hat_⟩ := (hb0.out).in0 (hbr.out) (k) (hlt)
      cases hA_
      have hew := Nat.lt_of_lt_of_le heb (hbr.out).size
      have g0 := hat_ 0 _ rfl
      have g1 := hat_ 1 _ rfl
      have g2 := hat_ 2 _ rfl
      have g3 := hat_ 3 _ rfl
      have g4 := hat_ 4 _ rfl
      have g5 := hat_ 5 _ rfl
      clear hat_
      simp at g0 g1 g2 g3 g4 g5
      obtain ⟨Ap, cp, rfl, hcp, hlp, hrp⟩ := hr_.sm
      obtain ⟨Ai, ci, rfl, hci, hli, hri⟩ := hr2_.sm
      clear hr_ hr2_
      have hrl := (hlen k).out
      have hsk := hsn k
      have hpk := hPk k hlt
      generalize (upTo k).filter P = xs at *
      generalize l[k] = x at *
      have hz := hbr.out.size
      have hct := fun W => c_leadsTo x.term W
      obtain ⟨A7, c7, rfl, hc7, -, -⟩ := own_shape ho.out
      go_wp2_with fail
      refine (hct _).mono ?_; rintro e w1 ⟨v1, rfl, ho1, hb1⟩
      have hr1 : RI lm w1 v1 (leadsTo x.term) := (own_ints ho1 (by have := leads_len x.term; show _ ≤ 1048576; omega)).2
      have hcc := c_ContainsI v1 (leadsTo x.term) b w1 hr1
      have hbw : Below wr.heap.size wr w1 := ((Below.refl wr.heap.size wr).al (Nat.le_refl _) _).then hb1
      go_wp2_with fail
      refine hcc.mono ?_; rintro e w2 ⟨rfl, hb2⟩
      have hb02 := Hd.mk (hbw.then hb2)
      have hB2 := Hd.mk (hbr.out.then hb02.out)
      have hz2 := hB2.out.size
      have ho2 := Hd.mk (own_mv ho.out hb02.out)
      clear hb1 hb2 hbw hcc hct ho1 hr1
      cases hq : hasI (leadsTo x.term) b
      · rw [hpk.out, hq] at hsk
        clear hpk hq
        go_wp2
        go_roundw
        case rel => exact ⟨k + 1, by omega, by go_num, ⟨by rw [hsk.out]; simpa using ho2.out⟩, hB2⟩
        case measure => simp [intOf]; omega
      · rw [hpk.out, hq] at hsk
        clear hpk hq
        have hal := Hd.mk fun (o : Obj) => (Below.refl w2.heap.size w2).al (Nat.le_refl _) o
        go_wp2_with (at_builtin; refine app_I rfl _ _ rfl (w.heap.size + 1) _ xs [(k : Int)] rfl (own_mv ho2.out (hal.out _)) _ 1 1 rfl (rd_one _ _) (by omega) (by simp; omega) ?_; intro v' w4 ho4 hg4; have hB4 := Hd.mk (below_app (hB2.out.then (hal.out (.cells #[.int .i64 (k : Int)] 2))) hg4 (by simp; omega) (own_mv ho2.out (hal.out _)) (by omega)))
        go_roundw
        case rel => exact ⟨k + 1, by omega, by go_num, ⟨by rw [hsk.out]; simpa using ho4⟩, hB4⟩
        case measure => simp [intOf]; omega
    · have e : k = l.length := by omega
      subst e
      go_wp2
      go_ret
      exact ⟨_, rfl, own_lower ho.out (by omega), hbr.out⟩
end Go.Proofs.YtkcgejbnhpccdaaGreat
