/- The plain functions of places and units. No conditions. That the reference's way to count units gives what the program's gives. No conditions. What is read as data of a type of the laws is read as lists of my plain types. No conditions. -/
import Derived.Test.YtkcgejbnhpccdaaGreatJ02
import Derived.Test.YtkcgejbnhpccdaaGreatJ06
import Derived.Deep.Slices
import Derived.ProofKit
set_option linter.unusedSimpArgs false
set_option linter.unusedVariables false
namespace Go.Proofs.YtkcgejbnhpccdaaGreat
open Go.RowKit
/-! ### places -/
def placeIn : List XBlock → Int → Int → Int → Int × Int
  | [], _, _, _ => (-2, 0)
  | x :: r, b, n, id => if id < n + sizeB x then (b, id - n) else placeIn r (b + 1) (n + sizeB x) id
def placeOf (f : XFunc) (id : Int) : Int × Int :=
  if isIdB (countOf f) id then (if id < f.params.length then (-1, id) else placeIn f.blocks 0 f.params.length id) else (-2, 0)
theorem placeOf_eq (f : XFunc) (id : Int) : placeOf f id = if isIdB (countOf f) id then (if id < f.params.length then (-1, id) else placeIn f.blocks 0 f.params.length id) else (-2, 0) := rfl
theorem placeIn_drop (l : List XBlock) (k : Nat) (h : k < l.length) (n id : Int) : placeIn (l.drop k) k n id = if id < n + sizeB l[k] then ((k : Int), id - n) else placeIn (l.drop (k + 1)) ((k + 1 : Nat) : Int) (n + sizeB l[k]) id := by
  rw [List.drop_eq_getElem_cons h]; simp [placeIn]
theorem placeIn_spec (l : List XBlock) : ∀ (b0 n id : Int), 0 ≤ b0 → n ≤ id → (placeIn l b0 n id = (-2, 0) ∧ countIn n l ≤ id) ∨
    ∃ k, ∃ h : k < l.length, placeIn l b0 n id = (b0 + k, id - countIn n (l.take k)) ∧ countIn n (l.take k) ≤ id ∧ id < countIn n (l.take k) + sizeB l[k] := by
  induction l with
  | nil => intro b0 n id _ h; left; exact ⟨rfl, by simpa [countIn] using h⟩
  | cons x r ih =>
    intro b0 n id hb hn
    unfold placeIn
    by_cases h : id < n + sizeB x
    · right; refine ⟨0, by simp, ?_, ?_, ?_⟩
      · rw [if_pos h]; simp [countIn]
      · simpa [countIn] using hn
      · simpa [countIn] using h
    · rw [if_neg h]
      rcases ih (b0 + 1) (n + sizeB x) id (by omega) (by omega) with ⟨h1, h2⟩ | ⟨k, hk, h1, h2, h3⟩
      · left; exact ⟨h1, by simpa [countIn, Int.add_assoc] using h2⟩
      · right
        refine ⟨k + 1, by simpa using hk, ?_, ?_, ?_⟩
        · rw [h1]; simp [countIn]; omega
        · simpa [countIn, Int.add_assoc] using h2
        · simpa [countIn, Int.add_assoc] using h3
/-- What the place of an id is. -/
theorem placeOf_cases (f : XFunc) (id : Int) : (placeOf f id = (-2, 0) ∧ isIdB (countOf f) id = false) ∨ (placeOf f id = (-1, id) ∧ 0 ≤ id ∧ id < f.params.length) ∨
    ∃ k, ∃ h : k < f.blocks.length, placeOf f id = ((k : Int), id - countIn f.params.length (f.blocks.take k)) ∧ countIn f.params.length (f.blocks.take k) ≤ id ∧ id < countIn f.params.length (f.blocks.take k) + sizeB f.blocks[k] := by
  unfold placeOf
  cases h : isIdB (countOf f) id with
  | false => left; simp
  | true =>
    right
    have h' : 0 ≤ id ∧ id ≤ countOf f - 1 := by simpa [isIdB, inR] using h
    by_cases h2 : id < f.params.length
    · left; simp [h2]; omega
    · right
      rcases placeIn_spec f.blocks 0 f.params.length id (by omega) (by omega) with ⟨h1, h3⟩ | ⟨k, hk, h1, h3, h4⟩
      · unfold countOf at h'; omega
      · exact ⟨k, hk, by simp [h2, h1], h3, h4⟩
def inst0 : XInst := ⟨0, 0, 0, 0, 0, 0, []⟩
def block0 : XBlock := ⟨[], [], ⟨0, 0, 0, 0⟩⟩
def instAt (f : XFunc) (id : Int) : XInst × Bool :=
  if (placeOf f id).1 < 0 then (inst0, false)
  else if (placeOf f id).2 < ((f.blocks.getD (placeOf f id).1.toNat block0).phis.length : Int) then (inst0, false)
  else ((f.blocks.getD (placeOf f id).1.toNat block0).insts.getD ((placeOf f id).2 - (f.blocks.getD (placeOf f id).1.toNat block0).phis.length).toNat inst0, true)
def isUnit (f : XFunc) (id : Int) : Bool := (instAt f id).2 && ((instAt f id).1.op == 24 || (instAt f id).1.op == 25)
/-- 0, 1, .. below n. -/
def upTo (n : Nat) : List Int := (List.range n).map fun (i : Nat) => (i : Int)
theorem upTo_succ (n : Nat) : upTo (n + 1) = upTo n ++ [(n : Int)] := by simp [upTo, List.range_succ]
def unitsOf (f : XFunc) : List Int := (upTo (countOf f).toNat).filter (isUnit f)
end Go.Proofs.YtkcgejbnhpccdaaGreat
set_option linter.unusedSimpArgs false
set_option linter.unusedVariables false
namespace Go.Proofs.YtkcgejbnhpccdaaGreat
open Go.RowKit
theorem countIn_append (n : Int) (l1 l2 : List XBlock) : countIn n (l1 ++ l2) = countIn (countIn n l1) l2 := by
  simp [countIn, List.sum_append]; omega
theorem countIn_take_le (n : Int) (l : List XBlock) (k : Nat) : countIn n (l.take k) ≤ countIn n l := by
  have h : countIn n l = countIn n (l.take k ++ l.drop k) := by rw [List.take_append_drop]
  rw [h, countIn_append]
  exact countIn_le _ _
theorem placeIn_at (l : List XBlock) : ∀ (k : Nat) (hk : k < l.length) (b0 n id : Int), countIn n (l.take k) ≤ id → id < countIn n (l.take k) + sizeB l[k] → placeIn l b0 n id = (b0 + k, id - countIn n (l.take k)) := by
  induction l with
  | nil => intro k hk; simp at hk
  | cons x r ih =>
    intro k hk b0 n id h1 h2
    unfold placeIn
    cases k with
    | zero =>
      simp [countIn] at h1 h2 ⊢
      intro h; omega
    | succ k =>
      have hc : countIn n ((x :: r).take (k + 1)) = countIn (n + sizeB x) (r.take k) := by simp [countIn]; omega
      rw [hc] at h1 h2 ⊢
      have := countIn_le (n + sizeB x) (r.take k)
      rw [if_neg (by omega), ih k (by simpa using hk) (b0 + 1) (n + sizeB x) id h1 (by simpa using h2)]
      congr 1
      push_cast; omega
theorem placeOf_at (f : XFunc) (k : Nat) (hk : k < f.blocks.length) (id : Int) (h1 : countIn f.params.length (f.blocks.take k) ≤ id) (h2 : id < countIn f.params.length (f.blocks.take k) + sizeB f.blocks[k]) :
    placeOf f id = ((k : Int), id - countIn f.params.length (f.blocks.take k)) := by
  have h3 := countIn_take_le f.params.length f.blocks (k + 1)
  rw [countIn_snoc _ _ _ hk] at h3
  have h4 := countIn_le f.params.length (f.blocks.take k)
  have h5 : isIdB (countOf f) id = true := by
    have : countIn f.params.length f.blocks = countOf f := rfl
    simp [isIdB, inR]; omega
  unfold placeOf
  rw [if_pos h5, if_neg (by omega), placeIn_at f.blocks k hk 0 _ id h1 h2]
  simp
theorem instAt_phi (f : XFunc) (k : Nat) (hk : k < f.blocks.length) (j : Nat) (hj : j < f.blocks[k].phis.length) : instAt f (countIn f.params.length (f.blocks.take k) + j) = (inst0, false) := by
  have hp := placeOf_at f k hk (countIn f.params.length (f.blocks.take k) + j) (by omega) (by unfold sizeB; omega)
  simp only [instAt, hp]
  rw [if_neg (by omega), Int.toNat_natCast, show f.blocks.getD k block0 = f.blocks[k] by simp [hk], if_pos (by omega)]
theorem instAt_inst (f : XFunc) (k : Nat) (hk : k < f.blocks.length) (j : Nat) (hj : j < f.blocks[k].insts.length) : instAt f (countIn f.params.length (f.blocks.take k) + f.blocks[k].phis.length + j) = (f.blocks[k].insts[j], true) := by
  have hp := placeOf_at f k hk (countIn f.params.length (f.blocks.take k) + f.blocks[k].phis.length + j) (by omega) (by unfold sizeB; omega)
  simp only [instAt, hp]
  rw [if_neg (by omega), Int.toNat_natCast, show f.blocks.getD k block0 = f.blocks[k] by simp [hk], if_neg (by omega)]
  rw [show (countIn f.params.length (f.blocks.take k) + f.blocks[k].phis.length + j - countIn f.params.length (f.blocks.take k) - f.blocks[k].phis.length).toNat = j by omega]
  simp [hj]
theorem instAt_param (f : XFunc) (j : Int) (h0 : 0 ≤ j) (hj : j < f.params.length) : instAt f j = (inst0, false) := by
  have : (placeOf f j).1 < 0 := by
    unfold placeOf
    rw [if_pos hj]
    split
    · show (-1 : Int) < 0; omega
    · show (-2 : Int) < 0; omega
  simp [instAt, this]
/-- The units below an id. -/
def unitsTo (f : XFunc) (n : Int) : List Int := (upTo n.toNat).filter (isUnit f)
theorem unitsTo_succ (f : XFunc) (n : Int) (h : 0 ≤ n) : unitsTo f (n + 1) = unitsTo f n ++ (if isUnit f n then [n] else []) := by
  obtain ⟨m, rfl⟩ := Int.eq_ofNat_of_zero_le h
  unfold unitsTo
  rw [show ((m : Int) + 1).toNat = m + 1 by omega, Int.toNat_natCast, upTo_succ, List.filter_append]
  congr 1
  cases h : isUnit f m <;> simp [h]
theorem unitsTo_skip (f : XFunc) (n : Int) (h : 0 ≤ n) (m : Nat) (hn : ∀ j : Nat, j < m → isUnit f (n + j) = false) : unitsTo f (n + m) = unitsTo f n := by
  induction m with
  | zero => simp
  | succ m ih =>
    rw [show n + ((m + 1 : Nat) : Int) = (n + m) + 1 by omega, unitsTo_succ f _ (by omega), hn m (by omega), ih (fun j hj => hn j (by omega))]
    simp
theorem unitsTo_params (f : XFunc) : unitsTo f f.params.length = [] := by
  have := unitsTo_skip f 0 (by omega) f.params.length (fun j hj => by
    rw [isUnit, instAt_param f _ (by omega) (by omega)]; rfl)
  rw [Int.zero_add] at this
  rw [this]; rfl
theorem unitsTo_phis (f : XFunc) (k : Nat) (hk : k < f.blocks.length) : unitsTo f (countIn f.params.length (f.blocks.take k) + f.blocks[k].phis.length) = unitsTo f (countIn f.params.length (f.blocks.take k)) :=
  unitsTo_skip f _ (by have := countIn_le f.params.length (f.blocks.take k); omega) _ (fun j hj => by rw [isUnit, instAt_phi f k hk j hj]; rfl)
theorem unitsTo_inst (f : XFunc) (k : Nat) (hk : k < f.blocks.length) (j : Nat) (hj : j < f.blocks[k].insts.length) :
    unitsTo f (countIn f.params.length (f.blocks.take k) + f.blocks[k].phis.length + j + 1) = unitsTo f (countIn f.params.length (f.blocks.take k) + f.blocks[k].phis.length + j) ++ (if f.blocks[k].insts[j].op == 24 || f.blocks[k].insts[j].op == 25 then [countIn f.params.length (f.blocks.take k) + f.blocks[k].phis.length + j] else []) := by
  rw [unitsTo_succ f _ (by have := countIn_le f.params.length (f.blocks.take k); omega), isUnit, instAt_inst f k hk j hj]
  rfl
theorem unitsOf_eq (f : XFunc) : unitsOf f = unitsTo f (countOf f) := rfl
theorem unitsTo_le (f : XFunc) (n : Int) : (unitsTo f n).length ≤ n.toNat := by
  refine Nat.le_trans (List.length_filter_le _ _) (by simp [upTo])
end Go.Proofs.YtkcgejbnhpccdaaGreat
set_option linter.unusedSimpArgs false
set_option linter.unusedVariables false
namespace Go.Proofs.YtkcgejbnhpccdaaGreat
open Go.RowKit Go.Deep Go.ChangeShapes Go.WideShapes
theorem ln2 {cs : List Value} (h : cs.length = 2) : ∃ c0 c1, cs = [c0, c1] := by
  match cs, h with
  | [c0, c1], _ => exact ⟨_, _, rfl⟩
theorem ln3 {cs : List Value} (h : cs.length = 3) : ∃ c0 c1 c2, cs = [c0, c1, c2] := by
  match cs, h with
  | [c0, c1, c2], _ => exact ⟨_, _, _, rfl⟩
theorem ln4 {cs : List Value} (h : cs.length = 4) : ∃ c0 c1 c2 c3, cs = [c0, c1, c2, c3] := by
  match cs, h with
  | [c0, c1, c2, c3], _ => exact ⟨_, _, _, _, rfl⟩
theorem ln6 {cs : List Value} (h : cs.length = 6) : ∃ c0 c1 c2 c3 c4 c5, cs = [c0, c1, c2, c3, c4, c5] := by
  match cs, h with
  | [c0, c1, c2, c3, c4, c5], _ => exact ⟨_, _, _, _, _, _, rfl⟩
theorem ln7 {cs : List Value} (h : cs.length = 7) : ∃ c0 c1 c2 c3 c4 c5 c6, cs = [c0, c1, c2, c3, c4, c5, c6] := by
  match cs, h with
  | [c0, c1, c2, c3, c4, c5, c6], _ => exact ⟨_, _, _, _, _, _, _, rfl⟩
theorem ini_of {n : Int} (h : (Lit.int .i64 n).wf = true) : InI n := by
  unfold Lit.wf at h
  simp only [Bool.and_eq_true, decide_eq_true_eq] at h
  exact h
section
variable {H : Type} {enc : TypeId × Value → H}
/-- What is read as data of a type is of a kind. -/
def Op {α : Type} (enc : TypeId × Value → H) (W : World) (t sz : Nat) (K : World → α → List Value → Prop) : Prop := ∀ (n : Nat) (cs : List Value) (y : DataW H × List MemPlace), DataW.trod enc Tryz.prog W 0 (fun _ => true) true n t cs = some y → ∃ x, K W x cs ∧ cs.length = sz
theorem op_int {W : World} : Op enc W 2 1 KInt := fun n cs y h => by
  obtain ⟨q, rfl, _, _⟩ := DataW.trod_int Tryz.underlying2 h
  exact ⟨q, rfl, rfl⟩
theorem op_slice {α : Type} [Inhabited α] {W : World} {t e sz : Nat} {K : World → α → List Value → Prop} (ht : Tryz.prog.underlying t = some (.slice e)) (hc : Tryz.prog.cellsOf e = sz) (hz : 0 < sz) (hK : Op enc W e sz K) {n : Nat} {cs : List Value} {y : DataW H × List MemPlace} (h : DataW.trod enc Tryz.prog W 0 (fun _ => true) true n t cs = some y) : ∃ v xs, cs = [v] ∧ Rd lw sz K W v xs := by
  rcases open_slice ht h with ⟨rfl, _⟩ | ⟨a, len, cap, m, n', D, Pl, rfl, _, hl, hm, hmm, _, hx⟩
  · exact ⟨_, [], rfl, none, 0, rfl, Nat.le_refl _, Nat.zero_le _, fun _ => rfl, fun h => absurd h (Nat.lt_irrefl _)⟩
  have hlm : len ≤ m := by rw [hmm]; simpa using hl
  clear hmm
  have each : ∀ i, i < m → ∃ x cs', K W x cs' ∧ cs'.length = sz ∧ ∀ j, j < sz → W.cell? ((a.add (i * sz)).add j) = cs'[j]? := fun i hi => by
    obtain ⟨cs', h1, h2⟩ := hx i hi
    rw [hc] at h1
    obtain ⟨_, hlen, hcell⟩ := World.cells?_some h1
    obtain ⟨x, h3, _⟩ := hK _ _ _ h2
    exact ⟨x, cs', h3, hlen, hcell⟩
  obtain ⟨f, hf⟩ := choose_lt each
  refine ⟨_, (List.range len).map f, rfl, some a, cap, by simp, by simpa using hl, by simp; unfold maxLen at hm; show len ≤ 9223372036854775807; omega, (by simp), fun h0 => ?_⟩
  have h0' : 0 < len := by simpa using h0
  obtain ⟨cs0, _, hl0, hc0⟩ := hf 0 (by omega)
  have h00 := hc0 0 hz
  rw [List.getElem?_eq_getElem (by omega)] at h00
  have hsp : a.spot = none := by simpa [Addr.add] using World.cell?_spot h00
  obtain ⟨b, off, sp⟩ := a
  cases hsp
  have hb : b < W.heap.size := by
    unfold World.cell? at h00
    split at h00
    · rename_i hh; rw [add_plain, add_plain] at hh; exact (Array.getElem?_eq_some_iff.1 hh).1
    · cases h00
  refine ⟨b, off, rfl, hb, fun i hi => ?_⟩
  have hi' : i < len := by simpa using hi
  obtain ⟨cs', h1, h2, h3⟩ := hf i (by omega)
  refine ⟨cs', by simpa using h1, h2, fun j hj => ?_⟩
  have := h3 j (by omega)
  rw [List.getElem?_eq_getElem hj] at this
  rw [add_plain, add_plain] at this
  exact this
theorem cells_int : Tryz.prog.cellsOf 2 = 1 := by kernel_rfl
theorem op_ints {W : World} {n : Nat} {cs : List Value} {y : DataW H × List MemPlace} (h : DataW.trod enc Tryz.prog W 0 (fun _ => true) true n 24 cs = some y) : ∃ v xs, cs = [v] ∧ RI lw W v xs := op_slice Tryz.underlying24 cells_int (by omega) op_int h
theorem cells_ints : Tryz.prog.cellsOf 24 = 1 := by kernel_rfl
theorem cells_Phi : Tryz.prog.cellsOf 208 = 2 := by kernel_rfl
theorem op_Phi {W : World} : Op enc W 208 2 (KPhi lw) := fun n cs y h => by
  obtain ⟨xs, m, _, _, hl, hs, hf⟩ := DataW.trod_struct Tryz.underlying208 h
  rw [cells_Phi] at hl
  have hs : xs.length = 2 := hs
  obtain ⟨c0, c1, rfl⟩ := ln2 hl
  have u0 : DataW.trod enc Tryz.prog W 0 (fun _ => true) true m 2 (([c0, c1].drop 0).take (Tryz.prog.cellsOf 2)) = xs[0]? := hf 0 _ rfl
  rw [cells_int, List.getElem?_eq_getElem (by omega)] at u0
  have u1 : DataW.trod enc Tryz.prog W 0 (fun _ => true) true m 24 (([c0, c1].drop 1).take (Tryz.prog.cellsOf 24)) = xs[1]? := hf 1 _ rfl
  rw [cells_ints, List.getElem?_eq_getElem (by omega)] at u1
  obtain ⟨i0, e0, _, f0⟩ := DataW.trod_int Tryz.underlying2 u0
  obtain rfl : c0 = .int .i64 i0 := by simpa using e0
  obtain ⟨v1, x1, e1, r1⟩ := op_ints u1
  obtain rfl : c1 = v1 := by simpa using e1
  exact ⟨⟨i0, x1⟩, ⟨_, rfl, r1⟩, rfl⟩
theorem cells_sPhi : Tryz.prog.cellsOf 175 = 1 := by kernel_rfl
theorem op_sPhi {W : World} {n : Nat} {cs : List Value} {y : DataW H × List MemPlace} (h : DataW.trod enc Tryz.prog W 0 (fun _ => true) true n 175 cs = some y) : ∃ v xs, cs = [v] ∧ Rd lw 2 (KPhi lw) W v xs := op_slice Tryz.underlying175 cells_Phi (by omega) op_Phi h
theorem cells_Inst : Tryz.prog.cellsOf 210 = 7 := by kernel_rfl
theorem op_Inst {W : World} : Op enc W 210 7 (KInst lw) := fun n cs y h => by
  obtain ⟨xs, m, _, _, hl, hs, hf⟩ := DataW.trod_struct Tryz.underlying210 h
  rw [cells_Inst] at hl
  have hs : xs.length = 7 := hs
  obtain ⟨c0, c1, c2, c3, c4, c5, c6, rfl⟩ := ln7 hl
  have u0 : DataW.trod enc Tryz.prog W 0 (fun _ => true) true m 2 (([c0, c1, c2, c3, c4, c5, c6].drop 0).take (Tryz.prog.cellsOf 2)) = xs[0]? := hf 0 _ rfl
  rw [cells_int, List.getElem?_eq_getElem (by omega)] at u0
  have u1 : DataW.trod enc Tryz.prog W 0 (fun _ => true) true m 2 (([c0, c1, c2, c3, c4, c5, c6].drop 1).take (Tryz.prog.cellsOf 2)) = xs[1]? := hf 1 _ rfl
  rw [cells_int, List.getElem?_eq_getElem (by omega)] at u1
  have u2 : DataW.trod enc Tryz.prog W 0 (fun _ => true) true m 2 (([c0, c1, c2, c3, c4, c5, c6].drop 2).take (Tryz.prog.cellsOf 2)) = xs[2]? := hf 2 _ rfl
  rw [cells_int, List.getElem?_eq_getElem (by omega)] at u2
  have u3 : DataW.trod enc Tryz.prog W 0 (fun _ => true) true m 2 (([c0, c1, c2, c3, c4, c5, c6].drop 3).take (Tryz.prog.cellsOf 2)) = xs[3]? := hf 3 _ rfl
  rw [cells_int, List.getElem?_eq_getElem (by omega)] at u3
  have u4 : DataW.trod enc Tryz.prog W 0 (fun _ => true) true m 2 (([c0, c1, c2, c3, c4, c5, c6].drop 4).take (Tryz.prog.cellsOf 2)) = xs[4]? := hf 4 _ rfl
  rw [cells_int, List.getElem?_eq_getElem (by omega)] at u4
  have u5 : DataW.trod enc Tryz.prog W 0 (fun _ => true) true m 2 (([c0, c1, c2, c3, c4, c5, c6].drop 5).take (Tryz.prog.cellsOf 2)) = xs[5]? := hf 5 _ rfl
  rw [cells_int, List.getElem?_eq_getElem (by omega)] at u5
  have u6 : DataW.trod enc Tryz.prog W 0 (fun _ => true) true m 24 (([c0, c1, c2, c3, c4, c5, c6].drop 6).take (Tryz.prog.cellsOf 24)) = xs[6]? := hf 6 _ rfl
  rw [cells_ints, List.getElem?_eq_getElem (by omega)] at u6
  obtain ⟨i0, e0, _, f0⟩ := DataW.trod_int Tryz.underlying2 u0
  obtain rfl : c0 = .int .i64 i0 := by simpa using e0
  obtain ⟨i1, e1, _, f1⟩ := DataW.trod_int Tryz.underlying2 u1
  obtain rfl : c1 = .int .i64 i1 := by simpa using e1
  obtain ⟨i2, e2, _, f2⟩ := DataW.trod_int Tryz.underlying2 u2
  obtain rfl : c2 = .int .i64 i2 := by simpa using e2
  obtain ⟨i3, e3, _, f3⟩ := DataW.trod_int Tryz.underlying2 u3
  obtain rfl : c3 = .int .i64 i3 := by simpa using e3
  obtain ⟨i4, e4, _, f4⟩ := DataW.trod_int Tryz.underlying2 u4
  obtain rfl : c4 = .int .i64 i4 := by simpa using e4
  obtain ⟨i5, e5, _, f5⟩ := DataW.trod_int Tryz.underlying2 u5
  obtain rfl : c5 = .int .i64 i5 := by simpa using e5
  obtain ⟨v6, x6, e6, r6⟩ := op_ints u6
  obtain rfl : c6 = v6 := by simpa using e6
  exact ⟨⟨i0, i1, i2, i3, i4, i5, x6⟩, ⟨_, rfl, r6⟩, rfl⟩
theorem cells_sInst : Tryz.prog.cellsOf 176 = 1 := by kernel_rfl
theorem op_sInst {W : World} {n : Nat} {cs : List Value} {y : DataW H × List MemPlace} (h : DataW.trod enc Tryz.prog W 0 (fun _ => true) true n 176 cs = some y) : ∃ v xs, cs = [v] ∧ Rd lw 7 (KInst lw) W v xs := op_slice Tryz.underlying176 cells_Inst (by omega) op_Inst h
theorem cells_Term : Tryz.prog.cellsOf 177 = 4 := by kernel_rfl
theorem op_Term {W : World} : Op enc W 177 4 (KTerm) := fun n cs y h => by
  obtain ⟨xs, m, _, _, hl, hs, hf⟩ := DataW.trod_struct Tryz.underlying177 h
  rw [cells_Term] at hl
  have hs : xs.length = 4 := hs
  obtain ⟨c0, c1, c2, c3, rfl⟩ := ln4 hl
  have u0 : DataW.trod enc Tryz.prog W 0 (fun _ => true) true m 2 (([c0, c1, c2, c3].drop 0).take (Tryz.prog.cellsOf 2)) = xs[0]? := hf 0 _ rfl
  rw [cells_int, List.getElem?_eq_getElem (by omega)] at u0
  have u1 : DataW.trod enc Tryz.prog W 0 (fun _ => true) true m 2 (([c0, c1, c2, c3].drop 1).take (Tryz.prog.cellsOf 2)) = xs[1]? := hf 1 _ rfl
  rw [cells_int, List.getElem?_eq_getElem (by omega)] at u1
  have u2 : DataW.trod enc Tryz.prog W 0 (fun _ => true) true m 2 (([c0, c1, c2, c3].drop 2).take (Tryz.prog.cellsOf 2)) = xs[2]? := hf 2 _ rfl
  rw [cells_int, List.getElem?_eq_getElem (by omega)] at u2
  have u3 : DataW.trod enc Tryz.prog W 0 (fun _ => true) true m 2 (([c0, c1, c2, c3].drop 3).take (Tryz.prog.cellsOf 2)) = xs[3]? := hf 3 _ rfl
  rw [cells_int, List.getElem?_eq_getElem (by omega)] at u3
  obtain ⟨i0, e0, _, f0⟩ := DataW.trod_int Tryz.underlying2 u0
  obtain rfl : c0 = .int .i64 i0 := by simpa using e0
  obtain ⟨i1, e1, _, f1⟩ := DataW.trod_int Tryz.underlying2 u1
  obtain rfl : c1 = .int .i64 i1 := by simpa using e1
  obtain ⟨i2, e2, _, f2⟩ := DataW.trod_int Tryz.underlying2 u2
  obtain rfl : c2 = .int .i64 i2 := by simpa using e2
  obtain ⟨i3, e3, _, f3⟩ := DataW.trod_int Tryz.underlying2 u3
  obtain rfl : c3 = .int .i64 i3 := by simpa using e3
  exact ⟨⟨i0, i1, i2, i3⟩, rfl, rfl⟩
theorem cells_Block : Tryz.prog.cellsOf 179 = 6 := by kernel_rfl
theorem op_Block {W : World} : Op enc W 179 6 (KBlock lw) := fun n cs y h => by
  obtain ⟨xs, m, _, _, hl, hs, hf⟩ := DataW.trod_struct Tryz.underlying179 h
  rw [cells_Block] at hl
  have hs : xs.length = 3 := hs
  obtain ⟨c0, c1, c2, c3, c4, c5, rfl⟩ := ln6 hl
  have u0 : DataW.trod enc Tryz.prog W 0 (fun _ => true) true m 175 (([c0, c1, c2, c3, c4, c5].drop 0).take (Tryz.prog.cellsOf 175)) = xs[0]? := hf 0 _ rfl
  rw [cells_sPhi, List.getElem?_eq_getElem (by omega)] at u0
  have u1 : DataW.trod enc Tryz.prog W 0 (fun _ => true) true m 176 (([c0, c1, c2, c3, c4, c5].drop 1).take (Tryz.prog.cellsOf 176)) = xs[1]? := hf 1 _ rfl
  rw [cells_sInst, List.getElem?_eq_getElem (by omega)] at u1
  have u2 : DataW.trod enc Tryz.prog W 0 (fun _ => true) true m 177 (([c0, c1, c2, c3, c4, c5].drop 2).take (Tryz.prog.cellsOf 177)) = xs[2]? := hf 2 _ rfl
  rw [cells_Term, List.getElem?_eq_getElem (by omega)] at u2
  obtain ⟨v0, x0, e0, r0⟩ := op_sPhi u0
  obtain rfl : c0 = v0 := by simpa using e0
  obtain ⟨v1, x1, e1, r1⟩ := op_sInst u1
  obtain rfl : c1 = v1 := by simpa using e1
  obtain ⟨t2, e2, _⟩ := op_Term _ _ _ u2
  unfold KTerm at e2
  simp at e2
  obtain ⟨rfl, rfl, rfl, rfl⟩ := e2
  exact ⟨⟨x0, x1, t2⟩, ⟨_, _, rfl, r0, r1⟩, rfl⟩
theorem cells_sBlock : Tryz.prog.cellsOf 118 = 1 := by kernel_rfl
theorem op_sBlock {W : World} {n : Nat} {cs : List Value} {y : DataW H × List MemPlace} (h : DataW.trod enc Tryz.prog W 0 (fun _ => true) true n 118 cs = some y) : ∃ v xs, cs = [v] ∧ Rd lw 6 (KBlock lw) W v xs := op_slice Tryz.underlying118 cells_Block (by omega) op_Block h
theorem cells_Func : Tryz.prog.cellsOf 120 = 3 := by kernel_rfl
theorem op_Func {W : World} : Op enc W 120 3 (KFunc lw) := fun n cs y h => by
  obtain ⟨xs, m, _, _, hl, hs, hf⟩ := DataW.trod_struct Tryz.underlying120 h
  rw [cells_Func] at hl
  have hs : xs.length = 3 := hs
  obtain ⟨c0, c1, c2, rfl⟩ := ln3 hl
  have u0 : DataW.trod enc Tryz.prog W 0 (fun _ => true) true m 24 (([c0, c1, c2].drop 0).take (Tryz.prog.cellsOf 24)) = xs[0]? := hf 0 _ rfl
  rw [cells_ints, List.getElem?_eq_getElem (by omega)] at u0
  have u1 : DataW.trod enc Tryz.prog W 0 (fun _ => true) true m 2 (([c0, c1, c2].drop 1).take (Tryz.prog.cellsOf 2)) = xs[1]? := hf 1 _ rfl
  rw [cells_int, List.getElem?_eq_getElem (by omega)] at u1
  have u2 : DataW.trod enc Tryz.prog W 0 (fun _ => true) true m 118 (([c0, c1, c2].drop 2).take (Tryz.prog.cellsOf 118)) = xs[2]? := hf 2 _ rfl
  rw [cells_sBlock, List.getElem?_eq_getElem (by omega)] at u2
  obtain ⟨v0, x0, e0, r0⟩ := op_ints u0
  obtain rfl : c0 = v0 := by simpa using e0
  obtain ⟨i1, e1, _, f1⟩ := DataW.trod_int Tryz.underlying2 u1
  obtain rfl : c1 = .int .i64 i1 := by simpa using e1
  obtain ⟨v2, x2, e2, r2⟩ := op_sBlock u2
  obtain rfl : c2 = v2 := by simpa using e2
  exact ⟨⟨x0, i1, x2⟩, ⟨_, _, rfl, r0, r2⟩, rfl⟩
end
end Go.Proofs.YtkcgejbnhpccdaaGreat
