import Derived.Test.YtkcgejbnhpccdaaGreatP05
import Derived.Test.YtkcgejbnhpccdaaGreatP02
set_option linter.unusedSimpArgs false
set_option linter.unusedVariables false
namespace Go.Proofs.YtkcgejbnhpccdaaGreat
open Go.RowKit
def phi0 : XPhi := ⟨0, []⟩
def func0 : XFunc := ⟨[], 0, []⟩
def blkAt (f : XFunc) (b : Int) : XBlock := f.blocks.getD b.toNat block0
def firstOf (f : XFunc) (b : Int) : Int := countIn f.params.length (f.blocks.take b.toNat)
def resW (op w : Int) : Int := if bin op && widthOk w then (if 14 ≤ op then 1 else w) else 0
def widthOf (i : XInst) : Int := if bin i.op then resW i.op i.w else if i.op == 24 || i.op == 25 then 0 else i.w
def typeOf (f : XFunc) (id : Int) : Int :=
  if (placeOf f id).1 == -2 then -1 else if (placeOf f id).1 == -1 then f.params.getD (placeOf f id).2.toNat 0
  else if (placeOf f id).2 < ((blkAt f (placeOf f id).1).phis.length : Int) then ((blkAt f (placeOf f id).1).phis.getD (placeOf f id).2.toNat phi0).w
  else widthOf (instAt f id).1
def leadsTo (t : XTerm) : List Int := if t.kind == 2 then [t.x] else if t.kind == 3 then [t.x, t.y] else []
def predsOf (f : XFunc) (b : Int) : List Int := (upTo f.blocks.length).filter fun k => hasI (leadsTo (blkAt f k).term) b
def reachGo (f : XFunc) (wo : Int) : Nat → List Int → List Bool → List Bool
  | 0, _, out => out
  | _ + 1, [], out => out
  | n + 1, b :: left, out => if b == wo || out.getD b.toNat false then reachGo f wo n left out else reachGo f wo n (left ++ leadsTo (blkAt f b).term) (out.set b.toNat true)
def reach (f : XFunc) (wo : Int) : List Bool := reachGo f wo (3 * f.blocks.length + 1) [0] (List.replicate f.blocks.length false)
def dom (f : XFunc) (a b : Int) : Bool := (reach f (-1)).getD b.toNat false && !(reach f a).getD b.toNat false
def entryOk (f : XFunc) : Bool := (blkAt f 0).phis.isEmpty && (predsOf f 0).isEmpty
def phisOk (f : XFunc) : Bool := (List.range f.blocks.length).all fun k => (blkAt f k).phis.all fun p => p.ins.length == (predsOf f k).length
def typedI (f : XFunc) (i : XInst) : Bool :=
  if bin i.op then typeOf f i.a == i.w && typeOf f i.b == i.w
  else if i.op == 27 then typeOf f i.a == i.w
  else if i.op == 18 || i.op == 19 then typeOf f i.a != 0 && decide (typeOf f i.a < i.w)
  else if i.op == 20 then decide (i.w < typeOf f i.a)
  else if i.op == 22 then typeOf f i.a == 1 && typeOf f i.b == i.w && typeOf f i.c == i.w
  else if i.op == 23 then typeOf f i.a == 32
  else if i.op == 24 then typeOf f i.a == 32 && typeOf f i.b == 8
  else if i.op == 25 then typeOf f i.a != 0 else true
def typedT (f : XFunc) (t : XTerm) : Bool := !(t.kind == 1 && typeOf f t.a != f.ret || t.kind == 3 && typeOf f t.a != 1)
def typesB (f : XFunc) (b : XBlock) : Bool := b.phis.all (fun p => p.ins.all fun id => typeOf f id == p.w) && b.insts.all (typedI f) && typedT f b.term
def typesOk (f : XFunc) : Bool := f.blocks.all (typesB f)
def fits2 (f : XFunc) : List Int → List Int → Bool
  | [], _ => true
  | _, [] => true
  | a :: r, w :: ws => typeOf f a == w && fits2 f r ws
def callOk (m : XMod) (f : XFunc) (i : XInst) : Bool :=
  i.w == (m.funcs.getD i.imm.toNat func0).ret && i.args.length == (m.funcs.getD i.imm.toNat func0).params.length && fits2 f i.args (m.funcs.getD i.imm.toNat func0).params
def callsOk (m : XMod) (f : XFunc) : Bool := f.blocks.all fun b => b.insts.all fun i => !(i.op == 26 && !callOk m f i)
def seen (f : XFunc) (id b ahead : Int) : Bool := if (placeOf f id).1 == -1 then true else if (placeOf f id).1 == b then decide (id < ahead) else dom f (placeOf f id).1 b
def seesP (f : XFunc) (b : Int) (p : XPhi) : Bool := (List.range p.ins.length).all fun k => !((reach f (-1)).getD ((predsOf f b).getD k 0).toNat false && !seen f (p.ins.getD k 0) ((predsOf f b).getD k 0) (countOf f))
def seesI (f : XFunc) (b : Int) (k : Nat) : Bool := (opsOf ((blkAt f b).insts.getD k inst0)).all fun id => seen f id b (firstOf f b + (blkAt f b).phis.length + k)
def seesB (f : XFunc) (b : Int) : Bool :=
  (blkAt f b).phis.all (seesP f b) && (List.range (blkAt f b).insts.length).all (seesI f b)
    && (!((blkAt f b).term.kind == 1 || (blkAt f b).term.kind == 3) || seen f (blkAt f b).term.a b (countOf f))
def domsOk (f : XFunc) : Bool := (List.range f.blocks.length).all fun b => !((reach f (-1)).getD b false && !seesB f b)
def checkF (m : XMod) (f : XFunc) : Int := if !entryOk f then 2 else if !phisOk f then 3 else if !typesOk f then 4 else if !callsOk m f then 5 else if !domsOk f then 6 else 0
def shapeOk (m : XMod) : Bool := inR m.funcs.length 1 3 && m.funcs.all fun f => funcOk f m.funcs.length
def firstBad (m : XMod) : List XFunc → Int
  | [] => 0
  | f :: r => if checkF m f == 0 then firstBad m r else checkF m f
def checkM (m : XMod) : Int := if shapeOk m then firstBad m m.funcs else 1
def modOk (m : XMod) : Bool := checkM m == 0
def mskd (w n : Int) : Int := if widthOk w then n % 2 ^ w.toNat else 0
theorem and_mask (n : Int) (i : Nat) (hi : i ≤ 32) : bits .and .i64 n (2 ^ i - 1) = n % 2 ^ i := by
  have hpos : 0 < 2 ^ i := Nat.two_pow_pos i
  have h32 : 2 ^ i ≤ 2 ^ 32 := Nat.pow_le_pow_right (by decide) hi
  have hc : ((2 : Int) ^ i - 1) = ((2 ^ i - 1 : Nat) : Int) := by rw [Int.natCast_sub hpos]; simp
  have hm : (2 ^ i - 1) % 2 ^ 64 = 2 ^ i - 1 := Nat.mod_eq_of_lt (by omega)
  have h64 : (2 : Nat) ^ i ∣ 2 ^ 64 := Nat.pow_dvd_pow 2 (by omega)
  have hz : (n % 2 ^ 64).toNat % 2 ^ i = (n % 2 ^ i).toNat := by
    have e1 : ((n % 2 ^ 64).toNat : Int) = n % 2 ^ 64 := Int.toNat_of_nonneg (Int.emod_nonneg _ (by decide))
    have hp : (0 : Int) < 2 ^ i := Int.pow_pos (by decide)
    have e2 : ((n % 2 ^ i).toNat : Int) = n % 2 ^ i := Int.toNat_of_nonneg (Int.emod_nonneg _ (by omega))
    have hd : (2 : Int) ^ i ∣ 2 ^ 64 := by
      obtain ⟨c, hc⟩ := h64
      exact ⟨(c : Int), by exact_mod_cast hc⟩
    apply Int.ofNat_inj.1
    rw [Int.natCast_emod, e1, e2]
    rw [show ((2 ^ i : Nat) : Int) = 2 ^ i by simp]
    exact Int.emod_emod_of_dvd n hd
  rw [hc]
  simp only [bits]
  rw [BitVec.ofInt_natCast, BitVec.toNat_and, BitVec.toNat_ofNat]
  change IntKind.i64.wrap (((BitVec.ofInt 64 n).toNat &&& ((2 ^ i - 1) % 2 ^ 64) : Nat) : Int) = _
  rw [hm, Nat.and_two_pow_sub_one_eq_mod, BitVec.toNat_ofInt]
  change IntKind.i64.wrap (((n % 2 ^ 64).toNat % 2 ^ i : Nat) : Int) = _
  rw [hz]
  have hp : (0 : Int) < 2 ^ i := Int.pow_pos (by decide)
  have hn := Int.emod_nonneg n (show (2 : Int) ^ i ≠ 0 by omega)
  have hl := Int.emod_lt_of_pos n hp
  have h32' : (2 : Int) ^ i ≤ 4294967296 := by
    have h9 := Int.ofNat_le.2 h32
    rw [show ((2 ^ i : Nat) : Int) = 2 ^ i by simp] at h9
    exact h9
  rw [Int.toNat_of_nonneg hn]
  exact IntWalk.i64_in _ (by omega)
theorem wd4 {w : Int} (h : widthOk w = true) : w = 1 ∨ w = 8 ∨ w = 16 ∨ w = 32 := by
  simp only [widthOk, Bool.or_eq_true, beq_iff_eq] at h
  rcases h with ((rfl | rfl) | rfl) | rfl <;> simp
theorem c_Masked (w n : Int) (W : World) : Calls Tryz.prog 20 #[.int .i64 w, .int .i64 n] W (Same (.int .i64 (mskd w n)) W) := by
  cases h : widthOk w
  · have hw := c_WidthOk w
    rw [h] at hw
    have hm : mskd w n = 0 := by unfold mskd; rw [h]; rfl
    rw [hm]
    clear h hm
    go_enter Tryz.func20, Tryz.ntmps20
    go_wp2_with fail
    refine (hw _).mono ?_; rintro e w1 ⟨rfl, rfl⟩
    go_wp2
    go_ret
    exact ⟨rfl, rfl⟩
  · have hw := c_WidthOk w
    rw [h] at hw
    have hk := fun W => c_mask w W h
    have hm : mskd w n = n % 2 ^ w.toNat := by unfold mskd; rw [h]; rfl
    rw [hm]
    have h' := Hd.mk h
    clear hm h
    go_enter Tryz.func20, Tryz.ntmps20
    go_wp2_with fail
    refine (hw _).mono ?_; rintro e w1 ⟨rfl, rfl⟩
    go_wp2_with fail
    refine (hk _).mono ?_; rintro e w1 ⟨rfl, rfl⟩
    go_wp2
    go_ret
    refine ⟨?_, rfl⟩
    have hl : w.toNat ≤ 32 := by rcases wd4 h'.out with rfl | rfl | rfl | rfl <;> decide
    rw [← and_mask n w.toNat hl]
    rfl
def b01 (b : Bool) : Int := if b then 1 else 0
theorem c_truth (b : Bool) (W : World) : Calls Tryz.prog 213 #[.bool b] W (Same (.int .i64 (b01 b)) W) := by
  cases b
  all_goals
    go_enter Tryz.func213, Tryz.ntmps213
    go_wp2
    go_ret
    exact ⟨rfl, rfl⟩
theorem s_l1Bit (b : Bool) (W : World) : Calls Tryz.prog 218 #[.bool b] W (Same (.int .i64 (b01 b)) W) := by
  cases b
  all_goals
    go_enter Tryz.func218, Tryz.ntmps218
    go_wp2
    go_ret
    exact ⟨rfl, rfl⟩
def sgn (w v : Int) : Int := if 2 ^ w.toNat ≤ 2 * v then v - 2 ^ w.toNat else v
theorem c_signOf (w v : Int) (W : World) (h : isVal w v = true) : Calls Tryz.prog 183 #[.int .i64 w, .int .i64 v] W (Same (.int .i64 (sgn w v)) W) := by
  unfold isVal at h
  simp only [Bool.and_eq_true] at h
  obtain ⟨hw, hv⟩ := h
  have hk := fun W => c_mask w W hw
  unfold inR at hv
  simp only [Bool.and_eq_true, decide_eq_true_eq] at hv
  obtain ⟨v1, v2⟩ := hv
  rcases wd4 hw with rfl | rfl | rfl | rfl
  · have v2' : v ≤ 1 := v2
    by_cases hs : 1 ≤ v
    · have hb : bits BinOp.and IntKind.i64 v 1 = 1 := by
        have := and_mask v 1 (by decide)
        simp only [Int.pow_succ, Int.pow_zero] at this
        rw [show (1 : Int) * 2 - 1 = 1 from rfl] at this
        rw [this]; omega
      have ht : (bits BinOp.and IntKind.i64 v 1 == 1) = true := by rw [hb]; rfl
      have hr : sgn 1 v = v - 2 := by unfold sgn; rw [if_pos (by show (2 : Int) ≤ _; omega)]; rfl
      rw [hr]
      clear hr hb v2
      go_enter Tryz.func183, Tryz.ntmps183
      go_wp2_with fail
      refine (hk _).mono ?_; rintro e w1 ⟨rfl, rfl⟩
      go_wp2
      go_ret
      exact ⟨by first | rfl | (congr 2; omega) | (simp; omega), rfl⟩
    · have hb : bits BinOp.and IntKind.i64 v 1 = 0 := by
        have := and_mask v 1 (by decide)
        simp only [Int.pow_succ, Int.pow_zero] at this
        rw [show (1 : Int) * 2 - 1 = 1 from rfl] at this
        rw [this]; omega
      have ht : (bits BinOp.and IntKind.i64 v 1 == 1) = false := by rw [hb]; rfl
      have hr : sgn 1 v = v := by unfold sgn; rw [if_neg (by show ¬ (2 : Int) ≤ _; omega)]
      rw [hr]
      clear hr hb v2
      go_enter Tryz.func183, Tryz.ntmps183
      go_wp2
      go_ret
      exact ⟨rfl, rfl⟩
  · have v2' : v ≤ 255 := v2
    by_cases hs : 128 ≤ v
    · have hb : bits BinOp.and IntKind.i64 (v / 128) 1 = 1 := by
        have := and_mask (v / 128) 1 (by decide)
        simp only [Int.pow_succ, Int.pow_zero] at this
        rw [show (1 : Int) * 2 - 1 = 1 from rfl] at this
        rw [this]; omega
      have ht : (bits BinOp.and IntKind.i64 (v / 128) 1 == 1) = true := by rw [hb]; rfl
      have hr : sgn 8 v = v - 256 := by unfold sgn; rw [if_pos (by show (256 : Int) ≤ _; omega)]; rfl
      rw [hr]
      clear hr hb v2
      go_enter Tryz.func183, Tryz.ntmps183
      go_wp2_with fail
      refine (hk _).mono ?_; rintro e w1 ⟨rfl, rfl⟩
      go_wp2
      go_ret
      exact ⟨by first | rfl | (congr 2; omega) | (simp; omega), rfl⟩
    · have hb : bits BinOp.and IntKind.i64 (v / 128) 1 = 0 := by
        have := and_mask (v / 128) 1 (by decide)
        simp only [Int.pow_succ, Int.pow_zero] at this
        rw [show (1 : Int) * 2 - 1 = 1 from rfl] at this
        rw [this]; omega
      have ht : (bits BinOp.and IntKind.i64 (v / 128) 1 == 1) = false := by rw [hb]; rfl
      have hr : sgn 8 v = v := by unfold sgn; rw [if_neg (by show ¬ (256 : Int) ≤ _; omega)]
      rw [hr]
      clear hr hb v2
      go_enter Tryz.func183, Tryz.ntmps183
      go_wp2
      go_ret
      exact ⟨rfl, rfl⟩
  · have v2' : v ≤ 65535 := v2
    by_cases hs : 32768 ≤ v
    · have hb : bits BinOp.and IntKind.i64 (v / 32768) 1 = 1 := by
        have := and_mask (v / 32768) 1 (by decide)
        simp only [Int.pow_succ, Int.pow_zero] at this
        rw [show (1 : Int) * 2 - 1 = 1 from rfl] at this
        rw [this]; omega
      have ht : (bits BinOp.and IntKind.i64 (v / 32768) 1 == 1) = true := by rw [hb]; rfl
      have hr : sgn 16 v = v - 65536 := by unfold sgn; rw [if_pos (by show (65536 : Int) ≤ _; omega)]; rfl
      rw [hr]
      clear hr hb v2
      go_enter Tryz.func183, Tryz.ntmps183
      go_wp2_with fail
      refine (hk _).mono ?_; rintro e w1 ⟨rfl, rfl⟩
      go_wp2
      go_ret
      exact ⟨by first | rfl | (congr 2; omega) | (simp; omega), rfl⟩
    · have hb : bits BinOp.and IntKind.i64 (v / 32768) 1 = 0 := by
        have := and_mask (v / 32768) 1 (by decide)
        simp only [Int.pow_succ, Int.pow_zero] at this
        rw [show (1 : Int) * 2 - 1 = 1 from rfl] at this
        rw [this]; omega
      have ht : (bits BinOp.and IntKind.i64 (v / 32768) 1 == 1) = false := by rw [hb]; rfl
      have hr : sgn 16 v = v := by unfold sgn; rw [if_neg (by show ¬ (65536 : Int) ≤ _; omega)]
      rw [hr]
      clear hr hb v2
      go_enter Tryz.func183, Tryz.ntmps183
      go_wp2
      go_ret
      exact ⟨rfl, rfl⟩
  · have v2' : v ≤ 4294967295 := v2
    by_cases hs : 2147483648 ≤ v
    · have hb : bits BinOp.and IntKind.i64 (v / 2147483648) 1 = 1 := by
        have := and_mask (v / 2147483648) 1 (by decide)
        simp only [Int.pow_succ, Int.pow_zero] at this
        rw [show (1 : Int) * 2 - 1 = 1 from rfl] at this
        rw [this]; omega
      have ht : (bits BinOp.and IntKind.i64 (v / 2147483648) 1 == 1) = true := by rw [hb]; rfl
      have hr : sgn 32 v = v - 4294967296 := by unfold sgn; rw [if_pos (by show (4294967296 : Int) ≤ _; omega)]; rfl
      rw [hr]
      clear hr hb v2
      go_enter Tryz.func183, Tryz.ntmps183
      go_wp2_with fail
      refine (hk _).mono ?_; rintro e w1 ⟨rfl, rfl⟩
      go_wp2
      go_ret
      exact ⟨by first | rfl | (congr 2; omega) | (simp; omega), rfl⟩
    · have hb : bits BinOp.and IntKind.i64 (v / 2147483648) 1 = 0 := by
        have := and_mask (v / 2147483648) 1 (by decide)
        simp only [Int.pow_succ, Int.pow_zero] at this
        rw [show (1 : Int) * 2 - 1 = 1 from rfl] at this
        rw [this]; omega
      have ht : (bits BinOp.and IntKind.i64 (v / 2147483648) 1 == 1) = false := by rw [hb]; rfl
      have hr : sgn 32 v = v := by unfold sgn; rw [if_neg (by show ¬ (4294967296 : Int) ≤ _; omega)]
      rw [hr]
      clear hr hb v2
      go_enter Tryz.func183, Tryz.ntmps183
      go_wp2
      go_ret
      exact ⟨rfl, rfl⟩
theorem val_rng {w v : Int} (h : isVal w v = true) : 0 ≤ v ∧ v ≤ 4294967295 ∧ widthOk w = true ∧ v < 2 ^ w.toNat := by
  unfold isVal inR at h
  simp only [Bool.and_eq_true, decide_eq_true_eq] at h
  obtain ⟨hw, v1, v2⟩ := h
  refine ⟨v1, ?_, hw, by omega⟩
  rcases wd4 hw with rfl | rfl | rfl | rfl
  · have : v ≤ 1 := v2
    omega
  · have : v ≤ 255 := v2
    omega
  · have : v ≤ 65535 := v2
    omega
  · exact v2
theorem sgn_rng {w v : Int} (h : isVal w v = true) : -4294967295 ≤ sgn w v ∧ sgn w v ≤ 4294967295 := by
  obtain ⟨h1, h2, h3, h4⟩ := val_rng h
  have : (2 : Int) ^ w.toNat ≤ 4294967296 := (pow_bd w h3).2
  unfold sgn; split <;> omega
def shR (op w a b : Int) : Int := if op = 13 then sgn w a / 2 ^ (min b 63).toNat else if w ≤ b then 0 else if op = 11 then wrap64 (a * 2 ^ b.toNat) else a / 2 ^ b.toNat
set_option maxHeartbeats 1000000 in
theorem c_shifted (op w a b : Int) (W : World) (ha : isVal w a = true) (hb : isVal w b = true) : Calls Tryz.prog 214 #[.int .i64 op, .int .i64 w, .int .i64 a, .int .i64 b] W (Same (.int .i64 (shR op w a b)) W) := by
  unfold shR
  obtain ⟨a1, a2, -, -⟩ := val_rng ha
  obtain ⟨b1, b2, hw, -⟩ := val_rng hb
  have hs := fun W => c_signOf w a W ha
  have hsr := sgn_rng ha
  have hw32 : 1 ≤ w ∧ w ≤ 32 := by rcases wd4 hw with rfl | rfl | rfl | rfl <;> decide
  clear ha hb hw
  by_cases h13 : op = 13
  · subst h13
    rw [if_pos rfl]
    generalize sgn w a = x at *
    by_cases hm : b ≤ 63
    · have e : min b 63 = b := Int.min_eq_left hm
      rw [e]
      go_enter Tryz.func214, Tryz.ntmps214
      go_wp2_with fail
      refine (hs _).mono ?_; rintro e w1 ⟨rfl, rfl⟩
      go_wp2
      go_ret
      exact ⟨rfl, rfl⟩
    · have e : min b 63 = 63 := Int.min_eq_right (by omega)
      rw [e]
      go_enter Tryz.func214, Tryz.ntmps214
      go_wp2_with fail
      refine (hs _).mono ?_; rintro e w1 ⟨rfl, rfl⟩
      go_wp2
      go_ret
      exact ⟨rfl, rfl⟩
  · rw [if_neg h13]
    have t13 := beqF h13
    by_cases hlt : w ≤ b
    · rw [if_pos hlt]
      go_enter Tryz.func214, Tryz.ntmps214
      go_wp2
      go_ret
      exact ⟨rfl, rfl⟩
    · rw [if_neg hlt]
      have hb32 : b ≤ 64 := by omega
      by_cases h11 : op = 11
      · subst h11
        rw [if_pos rfl]
        go_enter Tryz.func214, Tryz.ntmps214
        go_wp2
        go_ret
        exact ⟨rfl, rfl⟩
      · rw [if_neg h11]
        have t11 := beqF h11
        go_enter Tryz.func214, Tryz.ntmps214
        go_wp2
        go_ret
        exact ⟨rfl, rfl⟩
theorem c_isDivision (n : Int) (w : World) : Calls Tryz.prog 181 #[.int .i64 n] w (Same (.bool (inR n 4 7)) w) := by
  go_enter Tryz.func181, Tryz.ntmps181
  go_wp2_with (go_at_call 62; refine (c_within _ _ _ _).mono ?_; rintro e w' ⟨rfl, rfl⟩)
  go_ret
  exact ⟨rfl, rfl⟩
def reck (op w a b : Int) : Int :=
  if op = 1 then (a + b) else
  if op = 2 then (a - b) else
  if op = 3 then (wrap64 (a * b)) else
  if op = 4 then (a / b) else
  if op = 5 then (wrap64 ((sgn w a).tdiv (sgn w b))) else
  if op = 6 then (a % b) else
  if op = 7 then ((sgn w a).tmod (sgn w b)) else
  if op = 8 then (bits .and .i64 a b) else
  if op = 9 then (bits .or .i64 a b) else
  if op = 10 then (bits .xor .i64 a b) else
  if op = 14 then (b01 (a == b)) else
  if op = 15 then (b01 (a != b)) else
  if op = 16 then (b01 (decide (a < b))) else
  if op = 17 then (b01 (decide (sgn w a < sgn w b))) else
  shR op w a b
set_option maxHeartbeats 4000000 in
theorem c_reckoned (op w a b : Int) (W : World) (ho : bin op = true) (ha : isVal w a = true) (hb : isVal w b = true) (hd : inR op 4 7 = true → b ≠ 0) : Calls Tryz.prog 182 #[.int .i64 op, .int .i64 w, .int .i64 a, .int .i64 b] W (Same (.int .i64 (reck op w a b)) W) := by
  obtain ⟨a1, a2, -, -⟩ := val_rng ha
  obtain ⟨b1, b2, -, hb4⟩ := val_rng hb
  have hs := fun W => c_signOf w a W ha
  have hs' := fun W => c_signOf w b W hb
  have hr := sgn_rng ha
  have hr' := sgn_rng hb
  have hy0 : b ≠ 0 → sgn w b ≠ 0 := fun h => by unfold sgn; split <;> omega
  have hsh := fun W => c_shifted op w a b W ha hb
  unfold bin inR at ho
  simp only [Bool.and_eq_true, decide_eq_true_eq] at ho
  obtain ⟨o1, o2⟩ := ho
  clear ha hb hb4
  have hop : op = 1 ∨ op = 2 ∨ op = 3 ∨ op = 4 ∨ op = 5 ∨ op = 6 ∨ op = 7 ∨ op = 8 ∨ op = 9 ∨ op = 10 ∨ op = 11 ∨ op = 12 ∨ op = 13 ∨ op = 14 ∨ op = 15 ∨ op = 16 ∨ op = 17 := by omega
  clear o1 o2
  rcases hop with rfl | rfl | rfl | rfl | rfl | rfl | rfl | rfl | rfl | rfl | rfl | rfl | rfl | rfl | rfl | rfl | rfl
  · have hR : reck 1 w a b = a + b := rfl
    rw [hR]
    clear hR
    clear hd hy0
    clear hsh
    generalize sgn w a = x at *
    generalize sgn w b = y at *
    go_enter Tryz.func182, Tryz.ntmps182
    go_wp2_with fail
    refine (hs _).mono ?_; rintro e w1 ⟨rfl, rfl⟩
    go_wp2_with fail
    refine (hs' _).mono ?_; rintro e w1 ⟨rfl, rfl⟩
    go_wp2
    go_ret
    exact ⟨rfl, rfl⟩
  · have hR : reck 2 w a b = a - b := rfl
    rw [hR]
    clear hR
    clear hd hy0
    clear hsh
    generalize sgn w a = x at *
    generalize sgn w b = y at *
    go_enter Tryz.func182, Tryz.ntmps182
    go_wp2_with fail
    refine (hs _).mono ?_; rintro e w1 ⟨rfl, rfl⟩
    go_wp2_with fail
    refine (hs' _).mono ?_; rintro e w1 ⟨rfl, rfl⟩
    go_wp2
    go_ret
    exact ⟨rfl, rfl⟩
  · have hR : reck 3 w a b = wrap64 (a * b) := rfl
    rw [hR]
    clear hR
    clear hd hy0
    clear hsh
    generalize sgn w a = x at *
    generalize sgn w b = y at *
    go_enter Tryz.func182, Tryz.ntmps182
    go_wp2_with fail
    refine (hs _).mono ?_; rintro e w1 ⟨rfl, rfl⟩
    go_wp2_with fail
    refine (hs' _).mono ?_; rintro e w1 ⟨rfl, rfl⟩
    go_wp2
    go_ret
    exact ⟨rfl, rfl⟩
  · have hR : reck 4 w a b = a / b := rfl
    rw [hR]
    clear hR
    have hb0 : b ≠ 0 := hd (by decide)
    have hb1 : 1 ≤ b := by omega
    have hy := hy0 hb0
    clear hd hy0
    clear hsh
    generalize sgn w a = x at *
    generalize sgn w b = y at *
    go_enter Tryz.func182, Tryz.ntmps182
    go_wp2_with fail
    refine (hs _).mono ?_; rintro e w1 ⟨rfl, rfl⟩
    go_wp2_with fail
    refine (hs' _).mono ?_; rintro e w1 ⟨rfl, rfl⟩
    go_wp2
    go_ret
    exact ⟨rfl, rfl⟩
  · have hR : reck 5 w a b = wrap64 ((sgn w a).tdiv (sgn w b)) := rfl
    rw [hR]
    clear hR
    have hb0 : b ≠ 0 := hd (by decide)
    have hb1 : 1 ≤ b := by omega
    have hy := hy0 hb0
    clear hd hy0
    clear hsh
    generalize sgn w a = x at *
    generalize sgn w b = y at *
    go_enter Tryz.func182, Tryz.ntmps182
    go_wp2_with fail
    refine (hs _).mono ?_; rintro e w1 ⟨rfl, rfl⟩
    go_wp2_with fail
    refine (hs' _).mono ?_; rintro e w1 ⟨rfl, rfl⟩
    go_wp2
    go_ret
    exact ⟨rfl, rfl⟩
  · have hR : reck 6 w a b = a % b := rfl
    rw [hR]
    clear hR
    have hb0 : b ≠ 0 := hd (by decide)
    have hb1 : 1 ≤ b := by omega
    have hy := hy0 hb0
    clear hd hy0
    clear hsh
    generalize sgn w a = x at *
    generalize sgn w b = y at *
    go_enter Tryz.func182, Tryz.ntmps182
    go_wp2_with fail
    refine (hs _).mono ?_; rintro e w1 ⟨rfl, rfl⟩
    go_wp2_with fail
    refine (hs' _).mono ?_; rintro e w1 ⟨rfl, rfl⟩
    go_wp2
    go_ret
    exact ⟨rfl, rfl⟩
  · have hR : reck 7 w a b = (sgn w a).tmod (sgn w b) := rfl
    rw [hR]
    clear hR
    have hb0 : b ≠ 0 := hd (by decide)
    have hb1 : 1 ≤ b := by omega
    have hy := hy0 hb0
    clear hd hy0
    clear hsh
    generalize sgn w a = x at *
    generalize sgn w b = y at *
    go_enter Tryz.func182, Tryz.ntmps182
    go_wp2_with fail
    refine (hs _).mono ?_; rintro e w1 ⟨rfl, rfl⟩
    go_wp2_with fail
    refine (hs' _).mono ?_; rintro e w1 ⟨rfl, rfl⟩
    go_wp2
    go_ret
    exact ⟨rfl, rfl⟩
  · have hR : reck 8 w a b = bits .and .i64 a b := rfl
    rw [hR]
    clear hR
    clear hd hy0
    clear hsh
    generalize sgn w a = x at *
    generalize sgn w b = y at *
    go_enter Tryz.func182, Tryz.ntmps182
    go_wp2_with fail
    refine (hs _).mono ?_; rintro e w1 ⟨rfl, rfl⟩
    go_wp2_with fail
    refine (hs' _).mono ?_; rintro e w1 ⟨rfl, rfl⟩
    go_wp2
    go_ret
    exact ⟨rfl, rfl⟩
  · have hR : reck 9 w a b = bits .or .i64 a b := rfl
    rw [hR]
    clear hR
    clear hd hy0
    clear hsh
    generalize sgn w a = x at *
    generalize sgn w b = y at *
    go_enter Tryz.func182, Tryz.ntmps182
    go_wp2_with fail
    refine (hs _).mono ?_; rintro e w1 ⟨rfl, rfl⟩
    go_wp2_with fail
    refine (hs' _).mono ?_; rintro e w1 ⟨rfl, rfl⟩
    go_wp2
    go_ret
    exact ⟨rfl, rfl⟩
  · have hR : reck 10 w a b = bits .xor .i64 a b := rfl
    rw [hR]
    clear hR
    clear hd hy0
    clear hsh
    generalize sgn w a = x at *
    generalize sgn w b = y at *
    go_enter Tryz.func182, Tryz.ntmps182
    go_wp2_with fail
    refine (hs _).mono ?_; rintro e w1 ⟨rfl, rfl⟩
    go_wp2_with fail
    refine (hs' _).mono ?_; rintro e w1 ⟨rfl, rfl⟩
    go_wp2
    go_ret
    exact ⟨rfl, rfl⟩
  · have hR : reck 11 w a b = shR 11 w a b := rfl
    rw [hR]
    clear hR
    clear hd hy0
    generalize shR 11 w a b = z at *
    generalize sgn w a = x at *
    generalize sgn w b = y at *
    go_enter Tryz.func182, Tryz.ntmps182
    go_wp2_with fail
    refine (hs _).mono ?_; rintro e w1 ⟨rfl, rfl⟩
    go_wp2_with fail
    refine (hs' _).mono ?_; rintro e w1 ⟨rfl, rfl⟩
    go_wp2_with (go_at_call 214; refine (hsh _).mono ?_; rintro e w1 ⟨rfl, rfl⟩)
    go_ret
    exact ⟨rfl, rfl⟩
  · have hR : reck 12 w a b = shR 12 w a b := rfl
    rw [hR]
    clear hR
    clear hd hy0
    generalize shR 12 w a b = z at *
    generalize sgn w a = x at *
    generalize sgn w b = y at *
    go_enter Tryz.func182, Tryz.ntmps182
    go_wp2_with fail
    refine (hs _).mono ?_; rintro e w1 ⟨rfl, rfl⟩
    go_wp2_with fail
    refine (hs' _).mono ?_; rintro e w1 ⟨rfl, rfl⟩
    go_wp2_with (go_at_call 214; refine (hsh _).mono ?_; rintro e w1 ⟨rfl, rfl⟩)
    go_ret
    exact ⟨rfl, rfl⟩
  · have hR : reck 13 w a b = shR 13 w a b := rfl
    rw [hR]
    clear hR
    clear hd hy0
    generalize shR 13 w a b = z at *
    generalize sgn w a = x at *
    generalize sgn w b = y at *
    go_enter Tryz.func182, Tryz.ntmps182
    go_wp2_with fail
    refine (hs _).mono ?_; rintro e w1 ⟨rfl, rfl⟩
    go_wp2_with fail
    refine (hs' _).mono ?_; rintro e w1 ⟨rfl, rfl⟩
    go_wp2_with (go_at_call 214; refine (hsh _).mono ?_; rintro e w1 ⟨rfl, rfl⟩)
    go_ret
    exact ⟨rfl, rfl⟩
  · have hR : reck 14 w a b = b01 (a == b) := rfl
    rw [hR]
    clear hR
    clear hd hy0
    clear hsh
    generalize sgn w a = x at *
    generalize sgn w b = y at *
    go_enter Tryz.func182, Tryz.ntmps182
    go_wp2_with fail
    refine (hs _).mono ?_; rintro e w1 ⟨rfl, rfl⟩
    go_wp2_with fail
    refine (hs' _).mono ?_; rintro e w1 ⟨rfl, rfl⟩
    go_wp2_with (go_at_call 213; refine (c_truth _ _).mono ?_; rintro e w1 ⟨rfl, rfl⟩)
    go_ret
    exact ⟨rfl, rfl⟩
  · have hR : reck 15 w a b = b01 (a != b) := rfl
    rw [hR]
    clear hR
    clear hd hy0
    clear hsh
    generalize sgn w a = x at *
    generalize sgn w b = y at *
    go_enter Tryz.func182, Tryz.ntmps182
    go_wp2_with fail
    refine (hs _).mono ?_; rintro e w1 ⟨rfl, rfl⟩
    go_wp2_with fail
    refine (hs' _).mono ?_; rintro e w1 ⟨rfl, rfl⟩
    go_wp2_with (go_at_call 213; refine (c_truth _ _).mono ?_; rintro e w1 ⟨rfl, rfl⟩)
    go_ret
    exact ⟨rfl, rfl⟩
  · have hR : reck 16 w a b = b01 (decide (a < b)) := rfl
    rw [hR]
    clear hR
    clear hd hy0
    clear hsh
    generalize sgn w a = x at *
    generalize sgn w b = y at *
    go_enter Tryz.func182, Tryz.ntmps182
    go_wp2_with fail
    refine (hs _).mono ?_; rintro e w1 ⟨rfl, rfl⟩
    go_wp2_with fail
    refine (hs' _).mono ?_; rintro e w1 ⟨rfl, rfl⟩
    go_wp2_with (go_at_call 213; refine (c_truth _ _).mono ?_; rintro e w1 ⟨rfl, rfl⟩)
    go_ret
    exact ⟨rfl, rfl⟩
  · have hR : reck 17 w a b = b01 (decide (sgn w a < sgn w b)) := rfl
    rw [hR]
    clear hR
    clear hd hy0
    clear hsh
    generalize sgn w a = x at *
    generalize sgn w b = y at *
    go_enter Tryz.func182, Tryz.ntmps182
    go_wp2_with fail
    refine (hs _).mono ?_; rintro e w1 ⟨rfl, rfl⟩
    go_wp2_with fail
    refine (hs' _).mono ?_; rintro e w1 ⟨rfl, rfl⟩
    go_wp2_with (go_at_call 213; refine (c_truth _ _).mono ?_; rintro e w1 ⟨rfl, rfl⟩)
    go_ret
    exact ⟨rfl, rfl⟩
theorem s_Masked (w n : Int) (W : World) : Calls Tryz.prog 193 #[.int .i64 w, .int .i64 n] W (Same (.int .i64 (mskd w n)) W) := by
  cases h : widthOk w
  · have hw := s_WidthOk w
    rw [h] at hw
    have hm : mskd w n = 0 := by unfold mskd; rw [h]; rfl
    rw [hm]
    clear h hm
    go_enter Tryz.func193, Tryz.ntmps193
    go_wp2_with fail
    refine (hw _).mono ?_; rintro e w1 ⟨rfl, rfl⟩
    go_wp2
    go_ret
    exact ⟨rfl, rfl⟩
  · have hw := s_WidthOk w
    rw [h] at hw
    have hk := fun W => s_l1Top w W h
    have hpb := pow_bd w h
    have hm : mskd w n = n % 2 ^ w.toNat := by unfold mskd; rw [h]; rfl
    rw [hm]
    have hl : w.toNat ≤ 32 := by rcases wd4 h with rfl | rfl | rfl | rfl <;> decide
    have ha := Hd.mk (and_mask n w.toNat hl)
    clear hm h hl
    generalize (2 : Int) ^ w.toNat = t at *
    obtain ⟨t1, t2⟩ := hpb
    go_enter Tryz.func193, Tryz.ntmps193
    go_wp2_with fail
    refine (hw _).mono ?_; rintro e w1 ⟨rfl, rfl⟩
    go_wp2_with fail
    refine (hk _).mono ?_; rintro e w1 ⟨rfl, rfl⟩
    go_wp2
    go_ret
    exact ⟨by rw [← ha.out]; rfl, rfl⟩
theorem pow_even {w : Int} (h : widthOk w = true) : ∃ s : Int, (2 : Int) ^ w.toNat = 2 * s := by
  rcases wd4 h with rfl | rfl | rfl | rfl
  · exact ⟨1, rfl⟩
  · exact ⟨128, rfl⟩
  · exact ⟨32768, rfl⟩
  · exact ⟨2147483648, rfl⟩
theorem s_l1Sign (w v : Int) (W : World) (h : isVal w v = true) : Calls Tryz.prog 195 #[.int .i64 w, .int .i64 v] W (Same (.int .i64 (sgn w v)) W) := by
  obtain ⟨v1, v2, hw, v3⟩ := val_rng h
  have hk := fun W => s_l1Top w W hw
  have hpb := pow_bd w hw
  have hev := pow_even hw
  clear h
  unfold sgn
  generalize (2 : Int) ^ w.toNat = t at *
  obtain ⟨t1, t2⟩ := hpb
  by_cases hs : t ≤ 2 * v
  · have ht : t / 2 ≤ v := by omega
    rw [if_pos hs]
    go_enter Tryz.func195, Tryz.ntmps195
    go_wp2_with (go_at_call 106; refine (hk _).mono ?_; rintro e w1 ⟨rfl, rfl⟩)
    go_ret
    exact ⟨rfl, rfl⟩
  · have ht : ¬ t / 2 ≤ v := by obtain ⟨s, hs'⟩ := hev; omega
    rw [if_neg hs]
    go_enter Tryz.func195, Tryz.ntmps195
    go_wp2_with (go_at_call 106; refine (hk _).mono ?_; rintro e w1 ⟨rfl, rfl⟩)
    go_ret
    exact ⟨rfl, rfl⟩
def shT (op w a b : Int) : Int := if op = 13 ∧ w ≤ b then sgn w a / 2 ^ (w.toNat - 1) else if w ≤ b then 0 else if op = 11 then wrap64 (a * 2 ^ b.toNat) else if op = 12 then a / 2 ^ b.toNat else sgn w a / 2 ^ b.toNat
theorem s_l1Shift (op w a b : Int) (W : World) (ha : isVal w a = true) (hb : isVal w b = true) : Calls Tryz.prog 219 #[.int .i64 op, .int .i64 w, .int .i64 a, .int .i64 b] W (Same (.int .i64 (shT op w a b)) W) := by
  unfold shT
  obtain ⟨a1, a2, -, -⟩ := val_rng ha
  obtain ⟨b1, b2, hw, -⟩ := val_rng hb
  have hs := fun W => s_l1Sign w a W ha
  have hsr := sgn_rng ha
  have hw32 : 1 ≤ w ∧ w ≤ 32 := by rcases wd4 hw with rfl | rfl | rfl | rfl <;> decide
  clear ha hb hw
  generalize sgn w a = x at *
  by_cases hlt : w ≤ b
  · by_cases h13 : op = 13
    · subst h13
      rw [if_pos ⟨rfl, hlt⟩]
      have hu : IntKind.u64.wrap (w - 1) = w - 1 := IntWalk.u64_in _ (by omega)
      have hu2 : IntKind.i64.wrap (w - 1) = w - 1 := IntWalk.i64_in _ (by omega)
      go_enter Tryz.func219, Tryz.ntmps219
      go_wp2_with (go_at_call 195; refine (hs _).mono ?_; rintro e w1 ⟨rfl, rfl⟩)
      go_ret
      exact ⟨rfl, rfl⟩
    · rw [if_neg (fun h => h13 h.1), if_pos hlt]
      have t13 := beqF h13
      go_enter Tryz.func219, Tryz.ntmps219
      go_wp2
      go_ret
      exact ⟨rfl, rfl⟩
  · rw [if_neg (fun h => hlt h.2), if_neg hlt]
    have hu : IntKind.u64.wrap b = b := IntWalk.u64_in _ (by omega)
    by_cases h11 : op = 11
    · subst h11
      rw [if_pos rfl]
      go_enter Tryz.func219, Tryz.ntmps219
      go_wp2
      go_ret
      exact ⟨rfl, rfl⟩
    · rw [if_neg h11]
      have t11 := beqF h11
      by_cases h12 : op = 12
      · subst h12
        rw [if_pos rfl]
        go_enter Tryz.func219, Tryz.ntmps219
        go_wp2
        go_ret
        exact ⟨rfl, rfl⟩
      · rw [if_neg h12]
        have t12 := beqF h12
        by_cases h13 : op = 13
        · subst h13
          go_enter Tryz.func219, Tryz.ntmps219
          go_wp2_with (go_at_call 195; refine (hs _).mono ?_; rintro e w1 ⟨rfl, rfl⟩)
          go_ret
          exact ⟨rfl, rfl⟩
        · have t13 := beqF h13
          go_enter Tryz.func219, Tryz.ntmps219
          go_wp2_with (go_at_call 195; refine (hs _).mono ?_; rintro e w1 ⟨rfl, rfl⟩)
          go_ret
          exact ⟨rfl, rfl⟩
theorem s_l1Divides (n : Int) (w : World) : Calls Tryz.prog 192 #[.int .i64 n] w (Same (.bool (inR n 4 7)) w) := by
  go_enter Tryz.func192, Tryz.ntmps192
  go_wp2_with (go_at_call 47; refine (s_l1In _ _ _ _).mono ?_; rintro e w' ⟨rfl, rfl⟩)
  go_ret
  exact ⟨rfl, rfl⟩
def two (op w a b : Int) : Int :=
  if op = 1 then (a + b) else
  if op = 2 then (a - b) else
  if op = 3 then (wrap64 (sgn w a * sgn w b)) else
  if op = 4 then (a / b) else
  if op = 5 then (wrap64 ((sgn w a).tdiv (sgn w b))) else
  if op = 6 then (a % b) else
  if op = 7 then ((sgn w a).tmod (sgn w b)) else
  if op = 8 then (bits .and .i64 a b) else
  if op = 9 then (bits .or .i64 a b) else
  if op = 10 then (bits .xor .i64 a b) else
  if op = 14 then (b01 (a == b)) else
  if op = 15 then (b01 (a != b)) else
  if op = 16 then (b01 (decide (a < b))) else
  if op = 17 then (b01 (decide (sgn w a < sgn w b))) else
  shT op w a b
set_option maxHeartbeats 4000000 in
theorem s_l1Two (op w a b : Int) (W : World) (ho : bin op = true) (ha : isVal w a = true) (hb : isVal w b = true) (hd : inR op 4 7 = true → b ≠ 0) : Calls Tryz.prog 194 #[.int .i64 op, .int .i64 w, .int .i64 a, .int .i64 b] W (Same (.int .i64 (two op w a b)) W) := by
  obtain ⟨a1, a2, -, -⟩ := val_rng ha
  obtain ⟨b1, b2, -, hb4⟩ := val_rng hb
  have hs := fun W => s_l1Sign w a W ha
  have hs' := fun W => s_l1Sign w b W hb
  have hr := sgn_rng ha
  have hr' := sgn_rng hb
  have hy0 : b ≠ 0 → sgn w b ≠ 0 := fun h => by unfold sgn; split <;> omega
  have hsh := fun W => s_l1Shift op w a b W ha hb
  unfold bin inR at ho
  simp only [Bool.and_eq_true, decide_eq_true_eq] at ho
  obtain ⟨o1, o2⟩ := ho
  clear ha hb hb4
  have hop : op = 1 ∨ op = 2 ∨ op = 3 ∨ op = 4 ∨ op = 5 ∨ op = 6 ∨ op = 7 ∨ op = 8 ∨ op = 9 ∨ op = 10 ∨ op = 11 ∨ op = 12 ∨ op = 13 ∨ op = 14 ∨ op = 15 ∨ op = 16 ∨ op = 17 := by omega
  clear o1 o2
  rcases hop with rfl | rfl | rfl | rfl | rfl | rfl | rfl | rfl | rfl | rfl | rfl | rfl | rfl | rfl | rfl | rfl | rfl
  · have hR : two 1 w a b = a + b := rfl
    rw [hR]
    clear hR
    clear hd hy0
    clear hsh
    generalize sgn w a = x at *
    generalize sgn w b = y at *
    go_enter Tryz.func194, Tryz.ntmps194
    go_wp2
    go_ret
    exact ⟨rfl, rfl⟩
  · have hR : two 2 w a b = a - b := rfl
    rw [hR]
    clear hR
    clear hd hy0
    clear hsh
    generalize sgn w a = x at *
    generalize sgn w b = y at *
    go_enter Tryz.func194, Tryz.ntmps194
    go_wp2
    go_ret
    exact ⟨rfl, rfl⟩
  · have hR : two 3 w a b = wrap64 (sgn w a * sgn w b) := rfl
    rw [hR]
    clear hR
    clear hd hy0
    clear hsh
    generalize sgn w a = x at *
    generalize sgn w b = y at *
    go_enter Tryz.func194, Tryz.ntmps194
    go_wp2_with fail
    refine (hs _).mono ?_; rintro e w1 ⟨rfl, rfl⟩
    go_wp2_with fail
    refine (hs' _).mono ?_; rintro e w1 ⟨rfl, rfl⟩
    go_wp2
    go_ret
    exact ⟨rfl, rfl⟩
  · have hR : two 4 w a b = a / b := rfl
    rw [hR]
    clear hR
    have hb0 : b ≠ 0 := hd (by decide)
    have hb1 : 1 ≤ b := by omega
    have hy := hy0 hb0
    clear hd hy0
    clear hsh
    generalize sgn w a = x at *
    generalize sgn w b = y at *
    go_enter Tryz.func194, Tryz.ntmps194
    go_wp2
    go_ret
    exact ⟨rfl, rfl⟩
  · have hR : two 5 w a b = wrap64 ((sgn w a).tdiv (sgn w b)) := rfl
    rw [hR]
    clear hR
    have hb0 : b ≠ 0 := hd (by decide)
    have hb1 : 1 ≤ b := by omega
    have hy := hy0 hb0
    clear hd hy0
    clear hsh
    generalize sgn w a = x at *
    generalize sgn w b = y at *
    go_enter Tryz.func194, Tryz.ntmps194
    go_wp2_with fail
    refine (hs _).mono ?_; rintro e w1 ⟨rfl, rfl⟩
    go_wp2_with fail
    refine (hs' _).mono ?_; rintro e w1 ⟨rfl, rfl⟩
    go_wp2
    go_ret
    exact ⟨rfl, rfl⟩
  · have hR : two 6 w a b = a % b := rfl
    rw [hR]
    clear hR
    have hb0 : b ≠ 0 := hd (by decide)
    have hb1 : 1 ≤ b := by omega
    have hy := hy0 hb0
    clear hd hy0
    clear hsh
    generalize sgn w a = x at *
    generalize sgn w b = y at *
    go_enter Tryz.func194, Tryz.ntmps194
    go_wp2
    go_ret
    exact ⟨rfl, rfl⟩
  · have hR : two 7 w a b = (sgn w a).tmod (sgn w b) := rfl
    rw [hR]
    clear hR
    have hb0 : b ≠ 0 := hd (by decide)
    have hb1 : 1 ≤ b := by omega
    have hy := hy0 hb0
    clear hd hy0
    clear hsh
    generalize sgn w a = x at *
    generalize sgn w b = y at *
    go_enter Tryz.func194, Tryz.ntmps194
    go_wp2_with fail
    refine (hs _).mono ?_; rintro e w1 ⟨rfl, rfl⟩
    go_wp2_with fail
    refine (hs' _).mono ?_; rintro e w1 ⟨rfl, rfl⟩
    go_wp2
    go_ret
    exact ⟨rfl, rfl⟩
  · have hR : two 8 w a b = bits .and .i64 a b := rfl
    rw [hR]
    clear hR
    clear hd hy0
    clear hsh
    generalize sgn w a = x at *
    generalize sgn w b = y at *
    go_enter Tryz.func194, Tryz.ntmps194
    go_wp2
    go_ret
    exact ⟨rfl, rfl⟩
  · have hR : two 9 w a b = bits .or .i64 a b := rfl
    rw [hR]
    clear hR
    clear hd hy0
    clear hsh
    generalize sgn w a = x at *
    generalize sgn w b = y at *
    go_enter Tryz.func194, Tryz.ntmps194
    go_wp2
    go_ret
    exact ⟨rfl, rfl⟩
  · have hR : two 10 w a b = bits .xor .i64 a b := rfl
    rw [hR]
    clear hR
    clear hd hy0
    clear hsh
    generalize sgn w a = x at *
    generalize sgn w b = y at *
    go_enter Tryz.func194, Tryz.ntmps194
    go_wp2
    go_ret
    exact ⟨rfl, rfl⟩
  · have hR : two 11 w a b = shT 11 w a b := rfl
    rw [hR]
    clear hR
    clear hd hy0
    generalize shT 11 w a b = z at *
    generalize sgn w a = x at *
    generalize sgn w b = y at *
    go_enter Tryz.func194, Tryz.ntmps194
    go_wp2_with (go_at_call 219; refine (hsh _).mono ?_; rintro e w1 ⟨rfl, rfl⟩)
    go_ret
    exact ⟨rfl, rfl⟩
  · have hR : two 12 w a b = shT 12 w a b := rfl
    rw [hR]
    clear hR
    clear hd hy0
    generalize shT 12 w a b = z at *
    generalize sgn w a = x at *
    generalize sgn w b = y at *
    go_enter Tryz.func194, Tryz.ntmps194
    go_wp2_with (go_at_call 219; refine (hsh _).mono ?_; rintro e w1 ⟨rfl, rfl⟩)
    go_ret
    exact ⟨rfl, rfl⟩
  · have hR : two 13 w a b = shT 13 w a b := rfl
    rw [hR]
    clear hR
    clear hd hy0
    generalize shT 13 w a b = z at *
    generalize sgn w a = x at *
    generalize sgn w b = y at *
    go_enter Tryz.func194, Tryz.ntmps194
    go_wp2_with (go_at_call 219; refine (hsh _).mono ?_; rintro e w1 ⟨rfl, rfl⟩)
    go_ret
    exact ⟨rfl, rfl⟩
  · have hR : two 14 w a b = b01 (a == b) := rfl
    rw [hR]
    clear hR
    clear hd hy0
    clear hsh
    generalize sgn w a = x at *
    generalize sgn w b = y at *
    go_enter Tryz.func194, Tryz.ntmps194
    go_wp2_with (go_at_call 218; refine (s_l1Bit _ _).mono ?_; rintro e w1 ⟨rfl, rfl⟩)
    go_ret
    exact ⟨rfl, rfl⟩
  · have hR : two 15 w a b = b01 (a != b) := rfl
    rw [hR]
    clear hR
    clear hd hy0
    clear hsh
    generalize sgn w a = x at *
    generalize sgn w b = y at *
    go_enter Tryz.func194, Tryz.ntmps194
    go_wp2_with (go_at_call 218; refine (s_l1Bit _ _).mono ?_; rintro e w1 ⟨rfl, rfl⟩)
    go_ret
    exact ⟨rfl, rfl⟩
  · have hR : two 16 w a b = b01 (decide (a < b)) := rfl
    rw [hR]
    clear hR
    clear hd hy0
    clear hsh
    generalize sgn w a = x at *
    generalize sgn w b = y at *
    go_enter Tryz.func194, Tryz.ntmps194
    go_wp2_with (go_at_call 218; refine (s_l1Bit _ _).mono ?_; rintro e w1 ⟨rfl, rfl⟩)
    go_ret
    exact ⟨rfl, rfl⟩
  · have hR : two 17 w a b = b01 (decide (sgn w a < sgn w b)) := rfl
    rw [hR]
    clear hR
    clear hd hy0
    clear hsh
    generalize sgn w a = x at *
    generalize sgn w b = y at *
    go_enter Tryz.func194, Tryz.ntmps194
    go_wp2_with fail
    refine (hs _).mono ?_; rintro e w1 ⟨rfl, rfl⟩
    go_wp2_with fail
    refine (hs' _).mono ?_; rintro e w1 ⟨rfl, rfl⟩
    go_wp2_with (go_at_call 218; refine (s_l1Bit _ _).mono ?_; rintro e w1 ⟨rfl, rfl⟩)
    go_ret
    exact ⟨rfl, rfl⟩
end Go.Proofs.YtkcgejbnhpccdaaGreat
