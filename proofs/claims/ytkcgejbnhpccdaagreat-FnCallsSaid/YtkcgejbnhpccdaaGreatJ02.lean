/- The plain functions behind the checks of the program (widths, operators, forms), in Lean's own words. No conditions. -/
import Derived.Test.YtkcgejbnhpccdaaGreatJ01
set_option linter.unusedSimpArgs false
set_option linter.unusedVariables false
namespace Go.Proofs.YtkcgejbnhpccdaaGreat
open Go.RowKit
/-! ### what the functions compute: widths, forms -/
def inR (n lo hi : Int) : Bool := decide (lo ≤ n) && decide (n ≤ hi)
def widthOk (w : Int) : Bool := w == 1 || w == 8 || w == 16 || w == 32
def isVal (w v : Int) : Bool := widthOk w && inR v 0 (2 ^ w.toNat - 1)
def bin (op : Int) : Bool := inR op 1 17
def cst (op : Int) : Bool := inR op 18 20
def opsOf (i : XInst) : List Int :=
  if bin i.op || i.op == 24 then [i.a, i.b]
  else if cst i.op || i.op == 23 || i.op == 25 || i.op == 27 then [i.a]
  else if i.op == 22 then [i.a, i.b, i.c]
  else if i.op == 26 then i.args else []
def wFits (i : XInst) : Bool := if i.op == 24 || i.op == 25 then i.w == 0 else if i.op == 23 then i.w == 8 else widthOk i.w
def immFits (i : XInst) (funcs : Int) : Bool := if i.op == 21 then isVal i.w i.imm else if i.op == 26 then inR i.imm 0 (funcs - 1) else i.imm == 0
def isIdB (ids : Int) (id : Int) : Bool := inR id 0 (ids - 1)
def ownN (i : XInst) : Nat := if i.op == 26 then 0 else (opsOf i).length
def instOk (ids funcs : Int) (i : XInst) : Bool :=
  inR i.op 1 27 && decide (i.args.length ≤ 4) && (i.args.isEmpty || i.op == 26) && (opsOf i).all (isIdB ids)
    && (([i.a, i.b, i.c].drop (ownN i)).all (· == 0)) && wFits i && immFits i funcs
def termOk (ids blocks : Int) (t : XTerm) : Bool :=
  if t.kind == 1 then isIdB ids t.a && t.x == 0 && t.y == 0
  else if t.kind == 2 then t.a == 0 && isIdB blocks t.x && t.y == 0
  else if t.kind == 3 then isIdB ids t.a && isIdB blocks t.x && isIdB blocks t.y && t.x != t.y
  else if t.kind == 4 then t.a == 0 && t.x == 0 && t.y == 0 else false
def phiOk (ids : Int) (p : XPhi) : Bool := widthOk p.w && decide (p.ins.length ≤ 10) && p.ins.all (isIdB ids)
def blockOk (ids funcs blocks : Int) (b : XBlock) : Bool := b.phis.all (phiOk ids) && b.insts.all (instOk ids funcs) && termOk ids blocks b.term
def sizeB (b : XBlock) : Int := b.phis.length + b.insts.length
def countIn (n : Int) (l : List XBlock) : Int := n + (l.map sizeB).sum
def countOf (f : XFunc) : Int := countIn f.params.length f.blocks
def funcOk (f : XFunc) (funcs : Int) : Bool :=
  decide (f.params.length ≤ 4) && widthOk f.ret && inR f.blocks.length 1 10 && f.params.all widthOk && decide (countOf f ≤ 60)
    && f.blocks.all (blockOk (countOf f) funcs f.blocks.length)
theorem sizeB_nn (b : XBlock) : 0 ≤ sizeB b := by unfold sizeB; omega
theorem countIn_le (n : Int) (l : List XBlock) : n ≤ countIn n l := by
  unfold countIn
  induction l with
  | nil => simp
  | cons b l ih => have := sizeB_nn b; simp only [List.map_cons, List.sum_cons]; omega
theorem countIn_snoc (n : Int) (l : List XBlock) (k : Nat) (h : k < l.length) : countIn n (l.take (k + 1)) = countIn n (l.take k) + sizeB l[k] := by
  unfold countIn
  rw [List.take_succ_eq_append_getElem h, List.map_append, List.sum_append]
  simp; omega
theorem all_false {α : Type} (p : α → Bool) (l : List α) : (!l.any fun x => !p x) = l.all p := by
  induction l with
  | nil => rfl
  | cons x l ih => simp only [List.any_cons, List.all_cons, ← ih]; cases p x <;> simp
theorem any_not {α : Type} (p : α → Bool) (l : List α) : (l.any fun x => !p x) = !l.all p := by rw [← all_false, Bool.not_not]
theorem opsOf_le (i : XInst) : (opsOf i).length ≤ 3 ∨ (opsOf i = i.args ∧ i.op = 26) := by
  unfold opsOf
  repeat' split
  all_goals first | (left; simp; done) | (right; rename_i h; exact ⟨rfl, by simpa using h⟩)
end Go.Proofs.YtkcgejbnhpccdaaGreat
