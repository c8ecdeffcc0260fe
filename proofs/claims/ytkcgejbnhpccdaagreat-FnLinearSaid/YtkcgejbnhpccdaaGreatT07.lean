import Derived.Test.YtkcgejbnhpccdaaGreatT04
import Derived.Test.YtkcgejbnhpccdaaGreatT06
set_option linter.unusedSimpArgs false
set_option linter.unusedVariables false
namespace Go.Proofs.YtkcgejbnhpccdaaGreat
open Go.RowKit
theorem countIn_append (n : Int) (l1 l2 : List XBlock) : countIn n (l1 ++ l2) = countIn (countIn n l1) l2 := by
  simp [countIn, List.sum_append]; omega
theorem countIn_take_le (n : Int) (l : List XBlock) (k : Nat) : countIn n (l.take k) ≤ countIn n l := by
  have h : countIn n l = countIn n (l.take k ++ l.drop k) := by rw [List.take_append_drop]
  rw [h, countIn_append]
  exact countIn_le _ _
def phi0 : XPhi := ⟨0, []⟩
def func0 : XFunc := ⟨[], 0, []⟩
def blkAt (f : XFunc) (b : Int) : XBlock := f.blocks.getD b.toNat block0
def firstOf (f : XFunc) (b : Int) : Int := countIn f.params.length (f.blocks.take b.toNat)
def resW (op w : Int) : Int := if bin op && widthOk w then (if 14 ≤ op then 1 else w) else 0
def widthOf (i : XInst) : Int := if bin i.op then resW i.op i.w else if i.op == 24 || i.op == 25 then 0 else i.w
def typeOf (f : XFunc) (id : Int) : Int :=
  if (placeOf f id).1 == -2 then -1 else if (placeOf f id).1 == -1 then f.params.getD (placeOf f id).2.toNat 0
  else if (placeOf f id).2 < ((blkAt f (placeOf f id).1).phis.length : Int) then ((blkAt f (placeOf f id).1).phis.getD (placeOf f id).2.toNat phi0).w
  else widthOf (instAt f id).1
def leadsTo (t : XTerm) : List Int := if t.kind == 2 then [t.x] else if t.kind == 3 then [t.x, t.y] else []
def predsOf (f : XFunc) (b : Int) : List Int := (upTo f.blocks.length).filter fun k => hasI (leadsTo (blkAt f k).term) b
def reachGo (f : XFunc) (wo : Int) : Nat → List Int → List Bool → List Bool
  | 0, _, out => out
  | _ + 1, [], out => out
  | n + 1, b :: left, out => if b == wo || out.getD b.toNat false then reachGo f wo n left out else reachGo f wo n (left ++ leadsTo (blkAt f b).term) (out.set b.toNat true)
def reach (f : XFunc) (wo : Int) : List Bool := reachGo f wo (3 * f.blocks.length + 1) [0] (List.replicate f.blocks.length false)
def dom (f : XFunc) (a b : Int) : Bool := (reach f (-1)).getD b.toNat false && !(reach f a).getD b.toNat false
def entryOk (f : XFunc) : Bool := (blkAt f 0).phis.isEmpty && (predsOf f 0).isEmpty
def phisOk (f : XFunc) : Bool := (List.range f.blocks.length).all fun k => (blkAt f k).phis.all fun p => p.ins.length == (predsOf f k).length
def typedI (f : XFunc) (i : XInst) : Bool :=
  if bin i.op then typeOf f i.a == i.w && typeOf f i.b == i.w
  else if i.op == 27 then typeOf f i.a == i.w
  else if i.op == 18 || i.op == 19 then typeOf f i.a != 0 && decide (typeOf f i.a < i.w)
  else if i.op == 20 then decide (i.w < typeOf f i.a)
  else if i.op == 22 then typeOf f i.a == 1 && typeOf f i.b == i.w && typeOf f i.c == i.w
  else if i.op == 23 then typeOf f i.a == 32
  else if i.op == 24 then typeOf f i.a == 32 && typeOf f i.b == 8
  else if i.op == 25 then typeOf f i.a != 0 else true
def typedT (f : XFunc) (t : XTerm) : Bool := !(t.kind == 1 && typeOf f t.a != f.ret || t.kind == 3 && typeOf f t.a != 1)
def typesB (f : XFunc) (b : XBlock) : Bool := b.phis.all (fun p => p.ins.all fun id => typeOf f id == p.w) && b.insts.all (typedI f) && typedT f b.term
def typesOk (f : XFunc) : Bool := f.blocks.all (typesB f)
def fits2 (f : XFunc) : List Int → List Int → Bool
  | [], _ => true
  | _, [] => true
  | a :: r, w :: ws => typeOf f a == w && fits2 f r ws
def callOk (m : XMod) (f : XFunc) (i : XInst) : Bool :=
  i.w == (m.funcs.getD i.imm.toNat func0).ret && i.args.length == (m.funcs.getD i.imm.toNat func0).params.length && fits2 f i.args (m.funcs.getD i.imm.toNat func0).params
def callsOk (m : XMod) (f : XFunc) : Bool := f.blocks.all fun b => b.insts.all fun i => !(i.op == 26 && !callOk m f i)
def seen (f : XFunc) (id b ahead : Int) : Bool := if (placeOf f id).1 == -1 then true else if (placeOf f id).1 == b then decide (id < ahead) else dom f (placeOf f id).1 b
def seesP (f : XFunc) (b : Int) (p : XPhi) : Bool := (List.range p.ins.length).all fun k => !((reach f (-1)).getD ((predsOf f b).getD k 0).toNat false && !seen f (p.ins.getD k 0) ((predsOf f b).getD k 0) (countOf f))
def seesI (f : XFunc) (b : Int) (k : Nat) : Bool := (opsOf ((blkAt f b).insts.getD k inst0)).all fun id => seen f id b (firstOf f b + (blkAt f b).phis.length + k)
def seesB (f : XFunc) (b : Int) : Bool :=
  (blkAt f b).phis.all (seesP f b) && (List.range (blkAt f b).insts.length).all (seesI f b)
    && (!((blkAt f b).term.kind == 1 || (blkAt f b).term.kind == 3) || seen f (blkAt f b).term.a b (countOf f))
def domsOk (f : XFunc) : Bool := (List.range f.blocks.length).all fun b => !((reach f (-1)).getD b false && !seesB f b)
def checkF (m : XMod) (f : XFunc) : Int := if !entryOk f then 2 else if !phisOk f then 3 else if !typesOk f then 4 else if !callsOk m f then 5 else if !domsOk f then 6 else 0
def shapeOk (m : XMod) : Bool := inR m.funcs.length 1 3 && m.funcs.all fun f => funcOk f m.funcs.length
def firstBad (m : XMod) : List XFunc → Int
  | [] => 0
  | f :: r => if checkF m f == 0 then firstBad m r else checkF m f
def checkM (m : XMod) : Int := if shapeOk m then firstBad m m.funcs else 1
def modOk (m : XMod) : Bool := checkM m == 0
def mskd (w n : Int) : Int := if widthOk w then n % 2 ^ w.toNat else 0
theorem and_mask (n : Int) (i : Nat) (hi : i ≤ 32) : bits .and .i64 n (2 ^ i - 1) = n % 2 ^ i := by
  have hpos : 0 < 2 ^ i := Nat.two_pow_pos i
  have h32 : 2 ^ i ≤ 2 ^ 32 := Nat.pow_le_pow_right (by decide) hi
  have hc : ((2 : Int) ^ i - 1) = ((2 ^ i - 1 : Nat) : Int) := by rw [Int.natCast_sub hpos]; simp
  have hm : (2 ^ i - 1) % 2 ^ 64 = 2 ^ i - 1 := Nat.mod_eq_of_lt (by omega)
  have h64 : (2 : Nat) ^ i ∣ 2 ^ 64 := Nat.pow_dvd_pow 2 (by omega)
  have hz : (n % 2 ^ 64).toNat % 2 ^ i = (n % 2 ^ i).toNat := by
    have e1 : ((n % 2 ^ 64).toNat : Int) = n % 2 ^ 64 := Int.toNat_of_nonneg (Int.emod_nonneg _ (by decide))
    have hp : (0 : Int) < 2 ^ i := Int.pow_pos (by decide)
    have e2 : ((n % 2 ^ i).toNat : Int) = n % 2 ^ i := Int.toNat_of_nonneg (Int.emod_nonneg _ (by omega))
    have hd : (2 : Int) ^ i ∣ 2 ^ 64 := by
      obtain ⟨c, hc⟩ := h64
      exact ⟨(c : Int), by exact_mod_cast hc⟩
    apply Int.ofNat_inj.1
    rw [Int.natCast_emod, e1, e2]
    rw [show ((2 ^ i : Nat) : Int) = 2 ^ i by simp]
    exact Int.emod_emod_of_dvd n hd
  rw [hc]
  simp only [bits]
  rw [BitVec.ofInt_natCast, BitVec.toNat_and, BitVec.toNat_ofNat]
  change IntKind.i64.wrap (((BitVec.ofInt 64 n).toNat &&& ((2 ^ i - 1) % 2 ^ 64) : Nat) : Int) = _
  rw [hm, Nat.and_two_pow_sub_one_eq_mod, BitVec.toNat_ofInt]
  change IntKind.i64.wrap (((n % 2 ^ 64).toNat % 2 ^ i : Nat) : Int) = _
  rw [hz]
  have hp : (0 : Int) < 2 ^ i := Int.pow_pos (by decide)
  have hn := Int.emod_nonneg n (show (2 : Int) ^ i ≠ 0 by omega)
  have hl := Int.emod_lt_of_pos n hp
  have h32' : (2 : Int) ^ i ≤ 4294967296 := by
    have h9 := Int.ofNat_le.2 h32
    rw [show ((2 ^ i : Nat) : Int) = 2 ^ i by simp] at h9
    exact h9
  rw [Int.toNat_of_nonneg hn]
  exact IntWalk.i64_in _ (by omega)
theorem wd4 {w : Int} (h : widthOk w = true) : w = 1 ∨ w = 8 ∨ w = 16 ∨ w = 32 := by
  simp only [widthOk, Bool.or_eq_true, beq_iff_eq] at h
  rcases h with ((rfl | rfl) | rfl) | rfl <;> simp
theorem c_Masked (w n : Int) (W : World) : Calls Tryz.prog 20 #[.int .i64 w, .int .i64 n] W (Same (.int .i64 (mskd w n)) W) := by
  cases h : widthOk w
  · have hw := c_WidthOk w
    rw [h] at hw
    have hm : mskd w n = 0 := by unfold mskd; rw [h]; rfl
    rw [hm]
    clear h hm
    go_enter Tryz.func20, Tryz.ntmps20
    go_wp2_with fail
    refine (hw _).mono ?_; rintro e w1 ⟨rfl, rfl⟩
    go_wp2
    go_ret
    exact ⟨rfl, rfl⟩
  · have hw := c_WidthOk w
    rw [h] at hw
    have hk := fun W => c_mask w W h
    have hm : mskd w n = n % 2 ^ w.toNat := by unfold mskd; rw [h]; rfl
    rw [hm]
    have h' := Hd.mk h
    clear hm h
    go_enter Tryz.func20, Tryz.ntmps20
    go_wp2_with fail
    refine (hw _).mono ?_; rintro e w1 ⟨rfl, rfl⟩
    go_wp2_with fail
    refine (hk _).mono ?_; rintro e w1 ⟨rfl, rfl⟩
    go_wp2
    go_ret
    refine ⟨?_, rfl⟩
    have hl : w.toNat ≤ 32 := by rcases wd4 h'.out with rfl | rfl | rfl | rfl <;> decide
    rw [← and_mask n w.toNat hl]
    rfl
def b01 (b : Bool) : Int := if b then 1 else 0
theorem c_truth (b : Bool) (W : World) : Calls Tryz.prog 213 #[.bool b] W (Same (.int .i64 (b01 b)) W) := by
  cases b
  all_goals
    go_enter Tryz.func213, Tryz.ntmps213
    go_wp2
    go_ret
    exact ⟨rfl, rfl⟩
theorem s_l1Bit (b : Bool) (W : World) : Calls Tryz.prog 218 #[.bool b] W (Same (.int .i64 (b01 b)) W) := by
  cases b
  all_goals
    go_enter Tryz.func218, Tryz.ntmps218
    go_wp2
    go_ret
    exact ⟨rfl, rfl⟩
def sgn (w v : Int) : Int := if 2 ^ w.toNat ≤ 2 * v then v - 2 ^ w.toNat else v
theorem c_signOf (w v : Int) (W : World) (h : isVal w v = true) : Calls Tryz.prog 183 #[.int .i64 w, .int .i64 v] W (Same (.int .i64 (sgn w v)) W) := by
  unfold isVal at h
  simp only [Bool.and_eq_true] at h
  obtain ⟨hw, hv⟩ := h
  have hk := fun W => c_mask w W hw
  unfold inR at hv
  simp only [Bool.and_eq_true, decide_eq_true_eq] at hv
  obtain ⟨v1, v2⟩ := hv
  rcases wd4 hw with rfl | rfl | rfl | rfl
  · have v2' : v ≤ 1 := v2
    by_cases hs : 1 ≤ v
    · have hb : bits BinOp.and IntKind.i64 v 1 = 1 := by
        have := and_mask v 1 (by decide)
        simp only [Int.pow_succ, Int.pow_zero] at this
        rw [show (1 : Int) * 2 - 1 = 1 from rfl] at this
        rw [this]; omega
      have ht : (bits BinOp.and IntKind.i64 v 1 == 1) = true := by rw [hb]; rfl
      have hr : sgn 1 v = v - 2 := by unfold sgn; rw [if_pos (by show (2 : Int) ≤ _; omega)]; rfl
      rw [hr]
      clear hr hb v2
      go_enter Tryz.func183, Tryz.ntmps183
      go_wp2_with fail
      refine (hk _).mono ?_; rintro e w1 ⟨rfl, rfl⟩
      go_wp2
      go_ret
      exact ⟨by first | rfl | (congr 2; omega) | (simp; omega), rfl⟩
    · have hb : bits BinOp.and IntKind.i64 v 1 = 0 := by
        have := and_mask v 1 (by decide)
        simp only [Int.pow_succ, Int.pow_zero] at this
        rw [show (1 : Int) * 2 - 1 = 1 from rfl] at this
        rw [this]; omega
      have ht : (bits BinOp.and IntKind.i64 v 1 == 1) = false := by rw [hb]; rfl
      have hr : sgn 1 v = v := by unfold sgn; rw [if_neg (by show ¬ (2 : Int) ≤ _; omega)]
      rw [hr]
      clear hr hb v2
      go_enter Tryz.func183, Tryz.ntmps183
      go_wp2
      go_ret
      exact ⟨rfl, rfl⟩
  · have v2' : v ≤ 255 := v2
    by_cases hs : 128 ≤ v
    · have hb : bits BinOp.and IntKind.i64 (v / 128) 1 = 1 := by
        have := and_mask (v / 128) 1 (by decide)
        simp only [Int.pow_succ, Int.pow_zero] at this
        rw [show (1 : Int) * 2 - 1 = 1 from rfl] at this
        rw [this]; omega
      have ht : (bits BinOp.and IntKind.i64 (v / 128) 1 == 1) = true := by rw [hb]; rfl
      have hr : sgn 8 v = v - 256 := by unfold sgn; rw [if_pos (by show (256 : Int) ≤ _; omega)]; rfl
      rw [hr]
      clear hr hb v2
      go_enter Tryz.func183, Tryz.ntmps183
      go_wp2_with fail
      refine (hk _).mono ?_; rintro e w1 ⟨rfl, rfl⟩
      go_wp2
      go_ret
      exact ⟨by first | rfl | (congr 2; omega) | (simp; omega), rfl⟩
    · have hb : bits BinOp.and IntKind.i64 (v / 128) 1 = 0 := by
        have := and_mask (v / 128) 1 (by decide)
        simp only [Int.pow_succ, Int.pow_zero] at this
        rw [show (1 : Int) * 2 - 1 = 1 from rfl] at this
        rw [this]; omega
      have ht : (bits BinOp.and IntKind.i64 (v / 128) 1 == 1) = false := by rw [hb]; rfl
      have hr : sgn 8 v = v := by unfold sgn; rw [if_neg (by show ¬ (256 : Int) ≤ _; omega)]
      rw [hr]
      clear hr hb v2
      go_enter Tryz.func183, Tryz.ntmps183
      go_wp2
      go_ret
      exact ⟨rfl, rfl⟩
  · have v2' : v ≤ 65535 := v2
    by_cases hs : 32768 ≤ v
    · have hb : bits BinOp.and IntKind.i64 (v / 32768) 1 = 1 := by
        have := and_mask (v / 32768) 1 (by decide)
        simp only [Int.pow_succ, Int.pow_zero] at this
        rw [show (1 : Int) * 2 - 1 = 1 from rfl] at this
        rw [this]; omega
      have ht : (bits BinOp.and IntKind.i64 (v / 32768) 1 == 1) = true := by rw [hb]; rfl
      have hr : sgn 16 v = v - 65536 := by unfold sgn; rw [if_pos (by show (65536 : Int) ≤ _; omega)]; rfl
      rw [hr]
      clear hr hb v2
      go_enter Tryz.func183, Tryz.ntmps183
      go_wp2_with fail
      refine (hk _).mono ?_; rintro e w1 ⟨rfl, rfl⟩
      go_wp2
      go_ret
      exact ⟨by first | rfl | (congr 2; omega) | (simp; omega), rfl⟩
    · have hb : bits BinOp.and IntKind.i64 (v / 32768) 1 = 0 := by
        have := and_mask (v / 32768) 1 (by decide)
        simp only [Int.pow_succ, Int.pow_zero] at this
        rw [show (1 : Int) * 2 - 1 = 1 from rfl] at this
        rw [this]; omega
      have ht : (bits BinOp.and IntKind.i64 (v / 32768) 1 == 1) = false := by rw [hb]; rfl
      have hr : sgn 16 v = v := by unfold sgn; rw [if_neg (by show ¬ (65536 : Int) ≤ _; omega)]
      rw [hr]
      clear hr hb v2
      go_enter Tryz.func183, Tryz.ntmps183
      go_wp2
      go_ret
      exact ⟨rfl, rfl⟩
  · have v2' : v ≤ 4294967295 := v2
    by_cases hs : 2147483648 ≤ v
    · have hb : bits BinOp.and IntKind.i64 (v / 2147483648) 1 = 1 := by
        have := and_mask (v / 2147483648) 1 (by decide)
        simp only [Int.pow_succ, Int.pow_zero] at this
        rw [show (1 : Int) * 2 - 1 = 1 from rfl] at this
        rw [this]; omega
      have ht : (bits BinOp.and IntKind.i64 (v / 2147483648) 1 == 1) = true := by rw [hb]; rfl
      have hr : sgn 32 v = v - 4294967296 := by unfold sgn; rw [if_pos (by show (4294967296 : Int) ≤ _; omega)]; rfl
      rw [hr]
      clear hr hb v2
      go_enter Tryz.func183, Tryz.ntmps183
      go_wp2_with fail
      refine (hk _).mono ?_; rintro e w1 ⟨rfl, rfl⟩
      go_wp2
      go_ret
      exact ⟨by first | rfl | (congr 2; omega) | (simp; omega), rfl⟩
    · have hb : bits BinOp.and IntKind.i64 (v / 2147483648) 1 = 0 := by
        have := and_mask (v / 2147483648) 1 (by decide)
        simp only [Int.pow_succ, Int.pow_zero] at this
        rw [show (1 : Int) * 2 - 1 = 1 from rfl] at this
        rw [this]; omega
      have ht : (bits BinOp.and IntKind.i64 (v / 2147483648) 1 == 1) = false := by rw [hb]; rfl
      have hr : sgn 32 v = v := by unfold sgn; rw [if_neg (by show ¬ (4294967296 : Int) ≤ _; omega)]
      rw [hr]
      clear hr hb v2
      go_enter Tryz.func183, Tryz.ntmps183
      go_wp2
      go_ret
      exact ⟨rfl, rfl⟩
theorem val_rng {w v : Int} (h : isVal w v = true) : 0 ≤ v ∧ v ≤ 4294967295 ∧ widthOk w = true ∧ v < 2 ^ w.toNat := by
  unfold isVal inR at h
  simp only [Bool.and_eq_true, decide_eq_true_eq] at h
  obtain ⟨hw, v1, v2⟩ := h
  refine ⟨v1, ?_, hw, by omega⟩
  rcases wd4 hw with rfl | rfl | rfl | rfl
  · have : v ≤ 1 := v2
    omega
  · have : v ≤ 255 := v2
    omega
  · have : v ≤ 65535 := v2
    omega
  · exact v2
theorem sgn_rng {w v : Int} (h : isVal w v = true) : -4294967295 ≤ sgn w v ∧ sgn w v ≤ 4294967295 := by
  obtain ⟨h1, h2, h3, h4⟩ := val_rng h
  have : (2 : Int) ^ w.toNat ≤ 4294967296 := (pow_bd w h3).2
  unfold sgn; split <;> omega
def shR (op w a b : Int) : Int := if op = 13 then sgn w a / 2 ^ (min b 63).toNat else if w ≤ b then 0 else if op = 11 then wrap64 (a * 2 ^ b.toNat) else a / 2 ^ b.toNat
set_option maxHeartbeats 1000000 in
theorem c_shifted (op w a b : Int) (W : World) (ha : isVal w a = true) (hb : isVal w b = true) : Calls Tryz.prog 214 #[.int .i64 op, .int .i64 w, .int .i64 a, .int .i64 b] W (Same (.int .i64 (shR op w a b)) W) := by
  unfold shR
  obtain ⟨a1, a2, -, -⟩ := val_rng ha
  obtain ⟨b1, b2, hw, -⟩ := val_rng hb
  have hs := fun W => c_signOf w a W ha
  have hsr := sgn_rng ha
  have hw32 : 1 ≤ w ∧ w ≤ 32 := by rcases wd4 hw with rfl | rfl | rfl | rfl <;> decide
  clear ha hb hw
  by_cases h13 : op = 13
  · subst h13
    rw [if_pos rfl]
    generalize sgn w a = x at *
    by_cases hm : b ≤ 63
    · have e : min b 63 = b := Int.min_eq_left hm
      rw [e]
      go_enter Tryz.func214, Tryz.ntmps214
      go_wp2_with fail
      refine (hs _).mono ?_; rintro e w1 ⟨rfl, rfl⟩
      go_wp2
      go_ret
      exact ⟨rfl, rfl⟩
    · have e : min b 63 = 63 := Int.min_eq_right (by omega)
      rw [e]
      go_enter Tryz.func214, Tryz.ntmps214
      go_wp2_with fail
      refine (hs _).mono ?_; rintro e w1 ⟨rfl, rfl⟩
      go_wp2
      go_ret
      exact ⟨rfl, rfl⟩
  · rw [if_neg h13]
    have t13 := beqF h13
    by_cases hlt : w ≤ b
    · rw [if_pos hlt]
      go_enter Tryz.func214, Tryz.ntmps214
      go_wp2
      go_ret
      exact ⟨rfl, rfl⟩
    · rw [if_neg hlt]
      have hb32 : b ≤ 64 := by omega
      by_cases h11 : op = 11
      · subst h11
        rw [if_pos rfl]
        go_enter Tryz.func214, Tryz.ntmps214
        go_wp2
        go_ret
        exact ⟨rfl, rfl⟩
      · rw [if_neg h11]
        have t11 := beqF h11
        go_enter Tryz.func214, Tryz.ntmps214
        go_wp2
        go_ret
        exact ⟨rfl, rfl⟩
theorem c_isDivision (n : Int) (w : World) : Calls Tryz.prog 181 #[.int .i64 n] w (Same (.bool (inR n 4 7)) w) := by
  go_enter Tryz.func181, Tryz.ntmps181
  go_wp2_with (go_at_call 62; refine (c_within _ _ _ _).mono ?_; rintro e w' ⟨rfl, rfl⟩)
  go_ret
  exact ⟨rfl, rfl⟩
def reck (op w a b : Int) : Int :=
  if op = 1 then (a + b) else
  if op = 2 then (a - b) else
  if op = 3 then (wrap64 (a * b)) else
  if op = 4 then (a / b) else
  if op = 5 then (wrap64 ((sgn w a).tdiv (sgn w b))) else
  if op = 6 then (a % b) else
  if op = 7 then ((sgn w a).tmod (sgn w b)) else
  if op = 8 then (bits .and .i64 a b) else
  if op = 9 then (bits .or .i64 a b) else
  if op = 10 then (bits .xor .i64 a b) else
  if op = 14 then (b01 (a == b)) else
  if op = 15 then (b01 (a != b)) else
  if op = 16 then (b01 (decide (a < b))) else
  if op = 17 then (b01 (decide (sgn w a < sgn w b))) else
  shR op w a b
set_option maxHeartbeats 4000000 in
theorem c_reckoned (op w a b : Int) (W : World) (ho : bin op = true) (ha : isVal w a = true) (hb : isVal w b = true) (hd : inR op 4 7 = true → b ≠ 0) : Calls Tryz.prog 182 #[.int .i64 op, .int .i64 w, .int .i64 a, .int .i64 b] W (Same (.int .i64 (reck op w a b)) W) := by
  obtain ⟨a1, a2, -, -⟩ := val_rng ha
  obtain ⟨b1, b2, -, hb4⟩ := val_rng hb
  have hs := fun W => c_signOf w a W ha
  have hs' := fun W => c_signOf w b W hb
  have hr := sgn_rng ha
  have hr' := sgn_rng hb
  have hy0 : b ≠ 0 → sgn w b ≠ 0 := fun h => by unfold sgn; split <;> omega
  have hsh := fun W => c_shifted op w a b W ha hb
  unfold bin inR at ho
  simp only [Bool.and_eq_true, decide_eq_true_eq] at ho
  obtain ⟨o1, o2⟩ := ho
  clear ha hb hb4
  have hop : op = 1 ∨ op = 2 ∨ op = 3 ∨ op = 4 ∨ op = 5 ∨ op = 6 ∨ op = 7 ∨ op = 8 ∨ op = 9 ∨ op = 10 ∨ op = 11 ∨ op = 12 ∨ op = 13 ∨ op = 14 ∨ op = 15 ∨ op = 16 ∨ op = 17 := by omega
  clear o1 o2
  rcases hop with rfl | rfl | rfl | rfl | rfl | rfl | rfl | rfl | rfl | rfl | rfl | rfl | rfl | rfl | rfl | rfl | rfl
  · have hR : reck 1 w a b = a + b := rfl
    rw [hR]
    clear hR
    clear hd hy0
    clear hsh
    generalize sgn w a = x at *
    generalize sgn w b = y at *
    go_enter Tryz.func182, Tryz.ntmps182
    go_wp2_with fail
    refine (hs _).mono ?_; rintro e w1 ⟨rfl, rfl⟩
    go_wp2_with fail
    refine (hs' _).mono ?_; rintro e w1 ⟨rfl, rfl⟩
    go_wp2
    go_ret
    exact ⟨rfl, rfl⟩
  · have hR : reck 2 w a b = a - b := rfl
    rw [hR]
    clear hR
    clear hd hy0
    clear hsh
    generalize sgn w a = x at *
    generalize sgn w b = y at *
    go_enter Tryz.func182, Tryz.ntmps182
    go_wp2_with fail
    refine (hs _).mono ?_; rintro e w1 ⟨rfl, rfl⟩
    go_wp2_with fail
    refine (hs' _).mono ?_; rintro e w1 ⟨rfl, rfl⟩
    go_wp2
    go_ret
    exact ⟨rfl, rfl⟩
  · have hR : reck 3 w a b = wrap64 (a * b) := rfl
    rw [hR]
    clear hR
    clear hd hy0
    clear hsh
    generalize sgn w a = x at *
    generalize sgn w b = y at *
    go_enter Tryz.func182, Tryz.ntmps182
    go_wp2_with fail
    refine (hs _).mono ?_; rintro e w1 ⟨rfl, rfl⟩
    go_wp2_with fail
    refine (hs' _).mono ?_; rintro e w1 ⟨rfl, rfl⟩
    go_wp2
    go_ret
    exact ⟨rfl, rfl⟩
  · have hR : reck 4 w a b = a / b := rfl
    rw [hR]
    clear hR
    have hb0 : b ≠ 0 := hd (by decide)
    have hb1 : 1 ≤ b := by omega
    have hy := hy0 hb0
    clear hd hy0
    clear hsh
    generalize sgn w a = x at *
    generalize sgn w b = y at *
    go_enter Tryz.func182, Tryz.ntmps182
    go_wp2_with fail
    refine (hs _).mono ?_; rintro e w1 ⟨rfl, rfl⟩
    go_wp2_with fail
    refine (hs' _).mono ?_; rintro e w1 ⟨rfl, rfl⟩
    go_wp2
    go_ret
    exact ⟨rfl, rfl⟩
  · have hR : reck 5 w a b = wrap64 ((sgn w a).tdiv (sgn w b)) := rfl
    rw [hR]
    clear hR
    have hb0 : b ≠ 0 := hd (by decide)
    have hb1 : 1 ≤ b := by omega
    have hy := hy0 hb0
    clear hd hy0
    clear hsh
    generalize sgn w a = x at *
    generalize sgn w b = y at *
    go_enter Tryz.func182, Tryz.ntmps182
    go_wp2_with fail
    refine (hs _).mono ?_; rintro e w1 ⟨rfl, rfl⟩
    go_wp2_with fail
    refine (hs' _).mono ?_; rintro e w1 ⟨rfl, rfl⟩
    go_wp2
    go_ret
    exact ⟨rfl, rfl⟩
  · have hR : reck 6 w a b = a % b := rfl
    rw [hR]
    clear hR
    have hb0 : b ≠ 0 := hd (by decide)
    have hb1 : 1 ≤ b := by omega
    have hy := hy0 hb0
    clear hd hy0
    clear hsh
    generalize sgn w a = x at *
    generalize sgn w b = y at *
    go_enter Tryz.func182, Tryz.ntmps182
    go_wp2_with fail
    refine (hs _).mono ?_; rintro e w1 ⟨rfl, rfl⟩
    go_wp2_with fail
    refine (hs' _).mono ?_; rintro e w1 ⟨rfl, rfl⟩
    go_wp2
    go_ret
    exact ⟨rfl, rfl⟩
  · have hR : reck 7 w a b = (sgn w a).tmod (sgn w b) := rfl
    rw [hR]
    clear hR
    have hb0 : b ≠ 0 := hd (by decide)
    have hb1 : 1 ≤ b := by omega
    have hy := hy0 hb0
    clear hd hy0
    clear hsh
    generalize sgn w a = x at *
    generalize sgn w b = y at *
    go_enter Tryz.func182, Tryz.ntmps182
    go_wp2_with fail
    refine (hs _).mono ?_; rintro e w1 ⟨rfl, rfl⟩
    go_wp2_with fail
    refine (hs' _).mono ?_; rintro e w1 ⟨rfl, rfl⟩
    go_wp2
    go_ret
    exact ⟨rfl, rfl⟩
  · have hR : reck 8 w a b = bits .and .i64 a b := rfl
    rw [hR]
    clear hR
    clear hd hy0
    clear hsh
    generalize sgn w a = x at *
    generalize sgn w b = y at *
    go_enter Tryz.func182, Tryz.ntmps182
    go_wp2_with fail
    refine (hs _).mono ?_; rintro e w1 ⟨rfl, rfl⟩
    go_wp2_with fail
    refine (hs' _).mono ?_; rintro e w1 ⟨rfl, rfl⟩
    go_wp2
    go_ret
    exact ⟨rfl, rfl⟩
  · have hR : reck 9 w a b = bits .or .i64 a b := rfl
    rw [hR]
    clear hR
    clear hd hy0
    clear hsh
    generalize sgn w a = x at *
    generalize sgn w b = y at *
    go_enter Tryz.func182, Tryz.ntmps182
    go_wp2_with fail
    refine (hs _).mono ?_; rintro e w1 ⟨rfl, rfl⟩
    go_wp2_with fail
    refine (hs' _).mono ?_; rintro e w1 ⟨rfl, rfl⟩
    go_wp2
    go_ret
    exact ⟨rfl, rfl⟩
  · have hR : reck 10 w a b = bits .xor .i64 a b := rfl
    rw [hR]
    clear hR
    clear hd hy0
    clear hsh
    generalize sgn w a = x at *
    generalize sgn w b = y at *
    go_enter Tryz.func182, Tryz.ntmps182
    go_wp2_with fail
    refine (hs _).mono ?_; rintro e w1 ⟨rfl, rfl⟩
    go_wp2_with fail
    refine (hs' _).mono ?_; rintro e w1 ⟨rfl, rfl⟩
    go_wp2
    go_ret
    exact ⟨rfl, rfl⟩
  · have hR : reck 11 w a b = shR 11 w a b := rfl
    rw [hR]
    clear hR
    clear hd hy0
    generalize shR 11 w a b = z at *
    generalize sgn w a = x at *
    generalize sgn w b = y at *
    go_enter Tryz.func182, Tryz.ntmps182
    go_wp2_with fail
    refine (hs _).mono ?_; rintro e w1 ⟨rfl, rfl⟩
    go_wp2_with fail
    refine (hs' _).mono ?_; rintro e w1 ⟨rfl, rfl⟩
    go_wp2_with (go_at_call 214; refine (hsh _).mono ?_; rintro e w1 ⟨rfl, rfl⟩)
    go_ret
    exact ⟨rfl, rfl⟩
  · have hR : reck 12 w a b = shR 12 w a b := rfl
    rw [hR]
    clear hR
    clear hd hy0
    generalize shR 12 w a b = z at *
    generalize sgn w a = x at *
    generalize sgn w b = y at *
    go_enter Tryz.func182, Tryz.ntmps182
    go_wp2_with fail
    refine (hs _).mono ?_; rintro e w1 ⟨rfl, rfl⟩
    go_wp2_with fail
    refine (hs' _).mono ?_; rintro e w1 ⟨rfl, rfl⟩
    go_wp2_with (go_at_call 214; refine (hsh _).mono ?_; rintro e w1 ⟨rfl, rfl⟩)
    go_ret
    exact ⟨rfl, rfl⟩
  · have hR : reck 13 w a b = shR 13 w a b := rfl
    rw [hR]
    clear hR
    clear hd hy0
    generalize shR 13 w a b = z at *
    generalize sgn w a = x at *
    generalize sgn w b = y at *
    go_enter Tryz.func182, Tryz.ntmps182
    go_wp2_with fail
    refine (hs _).mono ?_; rintro e w1 ⟨rfl, rfl⟩
    go_wp2_with fail
    refine (hs' _).mono ?_; rintro e w1 ⟨rfl, rfl⟩
    go_wp2_with (go_at_call 214; refine (hsh _).mono ?_; rintro e w1 ⟨rfl, rfl⟩)
    go_ret
    exact ⟨rfl, rfl⟩
  · have hR : reck 14 w a b = b01 (a == b) := rfl
    rw [hR]
    clear hR
    clear hd hy0
    clear hsh
    generalize sgn w a = x at *
    generalize sgn w b = y at *
    go_enter Tryz.func182, Tryz.ntmps182
    go_wp2_with fail
    refine (hs _).mono ?_; rintro e w1 ⟨rfl, rfl⟩
    go_wp2_with fail
    refine (hs' _).mono ?_; rintro e w1 ⟨rfl, rfl⟩
    go_wp2_with (go_at_call 213; refine (c_truth _ _).mono ?_; rintro e w1 ⟨rfl, rfl⟩)
    go_ret
    exact ⟨rfl, rfl⟩
  · have hR : reck 15 w a b = b01 (a != b) := rfl
    rw [hR]
    clear hR
    clear hd hy0
    clear hsh
    generalize sgn w a = x at *
    generalize sgn w b = y at *
    go_enter Tryz.func182, Tryz.ntmps182
    go_wp2_with fail
    refine (hs _).mono ?_; rintro e w1 ⟨rfl, rfl⟩
    go_wp2_with fail
    refine (hs' _).mono ?_; rintro e w1 ⟨rfl, rfl⟩
    go_wp2_with (go_at_call 213; refine (c_truth _ _).mono ?_; rintro e w1 ⟨rfl, rfl⟩)
    go_ret
    exact ⟨rfl, rfl⟩
  · have hR : reck 16 w a b = b01 (decide (a < b)) := rfl
    rw [hR]
    clear hR
    clear hd hy0
    clear hsh
    generalize sgn w a = x at *
    generalize sgn w b = y at *
    go_enter Tryz.func182, Tryz.ntmps182
    go_wp2_with fail
    refine (hs _).mono ?_; rintro e w1 ⟨rfl, rfl⟩
    go_wp2_with fail
    refine (hs' _).mono ?_; rintro e w1 ⟨rfl, rfl⟩
    go_wp2_with (go_at_call 213; refine (c_truth _ _).mono ?_; rintro e w1 ⟨rfl, rfl⟩)
    go_ret
    exact ⟨rfl, rfl⟩
  · have hR : reck 17 w a b = b01 (decide (sgn w a < sgn w b)) := rfl
    rw [hR]
    clear hR
    clear hd hy0
    clear hsh
    generalize sgn w a = x at *
    generalize sgn w b = y at *
    go_enter Tryz.func182, Tryz.ntmps182
    go_wp2_with fail
    refine (hs _).mono ?_; rintro e w1 ⟨rfl, rfl⟩
    go_wp2_with fail
    refine (hs' _).mono ?_; rintro e w1 ⟨rfl, rfl⟩
    go_wp2_with (go_at_call 213; refine (c_truth _ _).mono ?_; rintro e w1 ⟨rfl, rfl⟩)
    go_ret
    exact ⟨rfl, rfl⟩
theorem upTo_len' (n : Nat) : (upTo n).length = n := by simp [upTo]
theorem upTo_mem (n : Nat) (x : Int) : x ∈ upTo n ↔ 0 ≤ x ∧ x < n := by
  unfold upTo
  simp only [List.mem_map, List.mem_range]
  constructor
  · rintro ⟨a, h, rfl⟩; omega
  · intro h; exact ⟨x.toNat, by omega, by omega⟩
theorem hasI_iff (xs : List Int) (x : Int) : hasI xs x = true ↔ x ∈ xs := by
  unfold hasI
  rw [List.any_eq_true]
  constructor
  · rintro ⟨y, hy, h⟩; rw [beq_iff_eq] at h; rw [h]; exact hy
  · intro h; exact ⟨x, h, by simp⟩
def trues (out : List Bool) : List Int := (upTo out.length).filter fun i => out.getD i.toNat false
def putS (l : List Int) (n : Int) : List Int := l.takeWhile (fun x => decide (x < n)) ++ n :: l.dropWhile (fun x => decide (x < n))
theorem trues_has (out : List Bool) (b : Int) (h0 : 0 ≤ b) : hasI (trues out) b = out.getD b.toNat false := by
  rw [Bool.eq_iff_iff, hasI_iff]
  unfold trues
  rw [List.mem_filter, upTo_mem]
  constructor
  · exact fun h => h.2
  · intro h
    refine ⟨⟨h0, ?_⟩, h⟩
    rw [List.getD_eq_getElem?_getD] at h
    by_cases hb : b.toNat < out.length
    · omega
    · rw [List.getElem?_eq_none (by omega)] at h; cases h
theorem filter_upTo (p q : Int → Bool) (n : Nat) (h : ∀ i : Nat, i < n → p i = q i) : (upTo n).filter p = (upTo n).filter q := by
  refine List.filter_congr fun x hx => ?_
  obtain ⟨h1, h2⟩ := (upTo_mem n x).1 hx
  have := h x.toNat (by omega)
  rwa [show ((x.toNat : Nat) : Int) = x by omega] at this
theorem rise_upTo (p : Int → Bool) (n b : Nat) (hb : b < n) (hp : p b = false) : ∀ k, b ≤ k → k ≤ n →
    (((upTo k).filter p).takeWhile (fun x => decide (x < (b : Int))) = (upTo b).filter p ∧ ((upTo k).filter p).dropWhile (fun x => decide (x < (b : Int))) = ((upTo k).filter p).drop ((upTo b).filter p).length ∧ ((upTo k).filter p).take ((upTo b).filter p).length = (upTo b).filter p) := by
  intro k hk hn
  have hsplit : (upTo k).filter p = (upTo b).filter p ++ ((List.range (k - b)).map (fun (i : Nat) => ((b + i : Nat) : Int))).filter p := by
    rw [← List.filter_append]
    congr 1
    unfold upTo
    have : List.range k = List.range b ++ (List.range (k - b)).map (b + ·) := by
      rw [← List.range_add]; congr 1; omega
    rw [this, List.map_append, List.map_map]
    rfl
  have hlow : ∀ x ∈ (upTo b).filter p, decide (x < (b : Int)) = true := fun x hx => by
    have := (upTo_mem b x).1 (List.mem_filter.1 hx).1
    simp; omega
  have hhigh : ∀ x ∈ ((List.range (k - b)).map (fun (i : Nat) => ((b + i : Nat) : Int))).filter p, decide (x < (b : Int)) = false := fun x hx => by
    obtain ⟨i, -, rfl⟩ := List.mem_map.1 (List.mem_filter.1 hx).1
    simp; omega
  rw [hsplit]
  refine ⟨?_, ?_, by simp⟩
  · rw [List.takeWhile_append_of_pos hlow]
    cases h : ((List.range (k - b)).map (fun (i : Nat) => ((b + i : Nat) : Int))).filter p with
    | nil => simp
    | cons y r => rw [List.takeWhile_cons, hhigh y (by rw [h]; simp)]; simp
  · rw [List.dropWhile_append_of_pos hlow, List.drop_left]
    cases h : ((List.range (k - b)).map (fun (i : Nat) => ((b + i : Nat) : Int))).filter p with
    | nil => simp
    | cons y r => rw [List.dropWhile_cons, hhigh y (by rw [h]; simp)]; simp
theorem putS_trues (out : List Bool) (b : Nat) (hb : b < out.length) (hf : out.getD b false = false) : putS (trues out) b = trues (out.set b true) := by
  unfold putS trues
  have hp : (fun i : Int => out.getD i.toNat false) (b : Int) = false := by simpa using hf
  obtain ⟨h1, h2, -⟩ := rise_upTo (fun i : Int => out.getD i.toNat false) out.length b hb hp out.length (by omega) (Nat.le_refl _)
  rw [h1, h2]
  have split3 : ∀ q : Int → Bool, (upTo out.length).filter q = (upTo b).filter q ++ ((if q b then [(b : Int)] else []) ++ ((List.range (out.length - b - 1)).map (fun (i : Nat) => ((b + 1 + i : Nat) : Int))).filter q) := fun q => by
    have : upTo out.length = upTo b ++ ([(b : Int)] ++ (List.range (out.length - b - 1)).map (fun (i : Nat) => ((b + 1 + i : Nat) : Int))) := by
      unfold upTo
      have e : List.range out.length = List.range (b + 1) ++ (List.range (out.length - b - 1)).map (b + 1 + ·) := by
        rw [← List.range_add]; congr 1; omega
      rw [e, List.map_append, List.map_map, List.range_succ, List.map_append, List.append_assoc]
      rfl
    rw [this, List.filter_append, List.filter_append]
    congr 2
    cases h : q b <;> simp [h]
  rw [List.length_set, split3 (fun i => (out.set b true).getD i.toNat false), split3 (fun i => out.getD i.toNat false)]
  have e0 : (out.set b true).getD ((b : Int).toNat) false = true := by simp [hb]
  simp only [e0, if_true]
  have e1 : (upTo b).filter (fun i => (out.set b true).getD i.toNat false) = (upTo b).filter (fun i => out.getD i.toNat false) := filter_upTo _ _ b fun i hi => by
    simp only [Int.toNat_natCast, List.getD_eq_getElem?_getD]
    rw [List.getElem?_set_ne (by omega)]
  have e2 : ((List.range (out.length - b - 1)).map (fun (i : Nat) => ((b + 1 + i : Nat) : Int))).filter (fun i => (out.set b true).getD i.toNat false) = ((List.range (out.length - b - 1)).map (fun (i : Nat) => ((b + 1 + i : Nat) : Int))).filter (fun i => out.getD i.toNat false) := by
    refine List.filter_congr fun x hx => ?_
    obtain ⟨i, -, rfl⟩ := List.mem_map.1 hx
    simp only [Int.toNat_natCast, List.getD_eq_getElem?_getD]
    rw [List.getElem?_set_ne (by omega)]
  rw [e1, e2]
  simp only [Int.toNat_natCast, hf]
  simp
theorem trues_len (out : List Bool) : (trues out).length ≤ out.length := by
  unfold trues
  exact Nat.le_trans (List.length_filter_le _ _) (by simp [upTo])
theorem trues_none (n : Nat) : trues (List.replicate n false) = [] := by
  unfold trues
  rw [List.filter_eq_nil_iff]
  intro x _
  rw [List.getD_eq_getElem?_getD]
  by_cases h : x.toNat < n
  · rw [List.getElem?_eq_getElem (by simpa using h)]; simp
  · rw [List.getElem?_eq_none (by simp; omega)]; simp
def falses (out : List Bool) : Nat := out.countP (!·)
theorem falses_set (out : List Bool) (b : Nat) (hb : b < out.length) (hf : out[b] = false) : falses (out.set b true) + 1 = falses out := by
  unfold falses
  induction out generalizing b with
  | nil => simp at hb
  | cons x r ih =>
    cases b with
    | zero => simp only [List.getElem_cons_zero] at hf; subst hf; simp [List.set]
    | succ b =>
      have := ih b (by simpa using hb) (by simpa using hf)
      simp only [List.set, List.countP_cons]
      omega
theorem falses_rep (n : Nat) : falses (List.replicate n false) = n := by unfold falses; simp [List.countP_replicate]
theorem leads_len (t : XTerm) : (leadsTo t).length ≤ 2 := by
  unfold leadsTo
  split
  · simp
  split
  · simp
  · simp
theorem reach_done (f : XFunc) (wo : Int) (n : Nat) (out : List Bool) : reachGo f wo n [] out = out := by cases n <;> rfl
theorem reachGo_len (f : XFunc) (wo : Int) : ∀ (n : Nat) (left : List Int) (out : List Bool), (reachGo f wo n left out).length = out.length
  | 0, _, _ => rfl
  | _ + 1, [], _ => rfl
  | n + 1, b :: left, out => by
    unfold reachGo
    split
    · exact reachGo_len f wo n left out
    · rw [reachGo_len f wo n]; simp
theorem reach_len (f : XFunc) (wo : Int) : (reach f wo).length = f.blocks.length := by unfold reach; rw [reachGo_len]; simp
def inGraph (f : XFunc) : Prop := ∀ b ∈ f.blocks, ∀ x ∈ leadsTo b.term, 0 ≤ x ∧ x < f.blocks.length
theorem blkAt_get (f : XFunc) (b : Int) (h0 : 0 ≤ b) (h : b < f.blocks.length) : blkAt f b = f.blocks[b.toNat]'(by omega) := by
  unfold blkAt
  rw [List.getD_eq_getElem?_getD, List.getElem?_eq_getElem (by omega)]; rfl
theorem blkAt_nat (f : XFunc) (b : Nat) (h : b < f.blocks.length) : blkAt f b = f.blocks[b] := blkAt_get f b (by omega) (by omega)
theorem inGraph.at_ {f : XFunc} (h : inGraph f) (b : Int) (h0 : 0 ≤ b) (hb : b < f.blocks.length) : ∀ x ∈ leadsTo (blkAt f b).term, 0 ≤ x ∧ x < f.blocks.length := by
  rw [blkAt_get f b h0 hb]; exact h _ (List.getElem_mem _)
theorem reach_step (f : XFunc) (wo : Int) (n : Nat) (b : Int) (left : List Int) (out : List Bool) :
    reachGo f wo (n + 1) (b :: left) out = if b == wo || out.getD b.toNat false then reachGo f wo n left out else reachGo f wo n (left ++ leadsTo (blkAt f b).term) (out.set b.toNat true) := rfl
theorem reach_wo0 (f : XFunc) : reach f 0 = List.replicate f.blocks.length false := by
  unfold reach
  rw [reach_step]
  simp [reach_done]
theorem term_in {ids n : Int} {t : XTerm} (h : termOk ids n t = true) : ∀ x ∈ leadsTo t, 0 ≤ x ∧ x < n := by
  unfold termOk isIdB inR at h
  unfold leadsTo
  by_cases h2 : t.kind = 2
  · rw [if_neg (by simp [h2]), if_pos (by simp [h2])] at h
    rw [if_pos (by simp [h2])]
    simp at h
    simp; omega
  by_cases h3 : t.kind = 3
  · rw [if_neg (by simp [h3]), if_neg (by simp [h3]), if_pos (by simp [h3])] at h
    rw [if_neg (by simp [h3]), if_pos (by simp [h3])]
    simp at h
    intro x hx
    simp at hx
    rcases hx with rfl | rfl <;> omega
  · rw [if_neg (by simpa using h2), if_neg (by simpa using h3)]
    intro x hx; cases hx
theorem func_blocks {f : XFunc} {n : Int} (h : funcOk f n = true) : (1 ≤ f.blocks.length ∧ f.blocks.length ≤ 10) ∧ f.params.length ≤ 4 ∧ countOf f ≤ 60 ∧ ∀ b ∈ f.blocks, blockOk (countOf f) n f.blocks.length b = true := by
  unfold funcOk inR at h
  simp only [Bool.and_eq_true, decide_eq_true_eq, List.all_eq_true] at h
  obtain ⟨⟨⟨⟨⟨h1, h2⟩, h3, h4⟩, h5⟩, h6⟩, h7⟩ := h
  exact ⟨by omega, h1, h6, h7⟩
theorem func_graph {f : XFunc} {n : Int} (h : funcOk f n = true) : inGraph f := by
  intro b hb x hx
  have h1 := (func_blocks h).2.2.2 b hb
  unfold blockOk at h1
  simp only [Bool.and_eq_true] at h1
  exact term_in h1.2 x hx
theorem ops_cases (i : XInst) : inR i.op 1 27 = true → i.op ≠ 26 → (i.op = 21 ∧ (opsOf i).length = 0) ∨ (i.op = 24 ∧ (opsOf i).length = 2) ∨ (i.op = 25 ∧ (opsOf i).length = 1) ∨ (i.op = 23 ∧ (opsOf i).length = 1) ∨
    (i.op ≠ 21 ∧ i.op ≠ 23 ∧ i.op ≠ 24 ∧ i.op ≠ 25 ∧ ((opsOf i).length = 1 ∨ (opsOf i).length = 2 ∨ (opsOf i).length = 3)) := by
  intro h h26
  simp only [inR, Bool.and_eq_true, decide_eq_true_eq] at h
  by_cases h1 : i.op = 21
  · simp [opsOf, bin, cst, inR, h1]
  by_cases h2 : i.op = 23
  · simp [opsOf, bin, cst, inR, h2]
  by_cases h3 : i.op = 24
  · simp [opsOf, bin, cst, inR, h3]
  by_cases h4 : i.op = 25
  · simp [opsOf, bin, cst, inR, h4]
  · right; right; right; right
    refine ⟨h1, h2, h3, h4, ?_⟩
    unfold opsOf
    repeat' split
    all_goals first | (simp; done) | (simp_all [bin, cst, inR]; done) | (simp_all [bin, cst, inR]; omega)
theorem widthOk_ne (w : Int) (h : widthOk w = true) : (w == 0) = false := by
  simp only [widthOk, Bool.or_eq_true, beq_iff_eq] at h
  simp; omega
set_option maxHeartbeats 8000000 in
set_option maxRecDepth 100000 in
theorem s_l2Inst (i : XInst) (v : Value) (ids funcs : Int) (w : World) (hv : RI lm w v i.args) (hi : 0 ≤ ids) (hi2 : ids ≤ 1048576) (hf : 0 ≤ funcs) (hf2 : funcs ≤ 1048576) :
    Calls Tryz.prog 145 #[instV i v, .int .i64 ids, .int .i64 funcs] w (Ret (.bool (instOk ids funcs i)) w) := by
  have hops := s_l2Operands i
  obtain ⟨A, c, rfl, _, hl, hv0⟩ := hv.sm
  have hp := instOk_pre ids funcs i
  have hpre : instPre i = (inR i.op 1 27 && decide (i.args.length ≤ 4) && (i.args.isEmpty || i.op == 26)) := rfl
  have hbl := fun o => (Below.refl w.heap.size w).al (Nat.le_refl _) o
  have hlen := opsOf_len i hl
  have hcl := Hd.mk (ops_cases i)
  have hN := Hd.mk (show ownN i = if i.op == 26 then 0 else (opsOf i).length from rfl)
  have hn3 := Hd.mk (show i.op ≠ 26 → (opsOf i).length ≤ 3 from fun ho => by rcases opsOf_le i with h | ⟨_, h⟩; exact h; exact absurd h ho)
  have hW := Hd.mk (show wFits i = if i.op == 24 || i.op == 25 then i.w == 0 else if i.op == 23 then i.w == 8 else widthOk i.w from rfl)
  have hM := Hd.mk (show immFits i funcs = if i.op == 21 then isVal i.w i.imm else if i.op == 26 then inR i.imm 0 (funcs - 1) else i.imm == 0 from rfl)
  obtain ⟨op, wd, a, b, c0, imm, args⟩ := i
  simp only [instV] at *
  generalize instOk ids funcs _ = R at *
  generalize hP : instPre _ = Pr at *
  generalize ownN _ = N at *
  generalize wFits _ = WF at *
  generalize immFits _ _ = IF at *
  generalize opsOf _ = l at *
  clear hP
  cases h0 : inR op 1 27 with
  | false =>
    rw [h0] at hpre
    simp at hpre
    subst hpre
    simp at hp
    subst hp
    go_enter Tryz.func145, Tryz.ntmps145
    go_wp2_with (go_at_call 47; refine (s_l1In _ _ _ _).mono ?_; rintro e w' ⟨rfl, rfl⟩)
    go_ret
    exact ⟨rfl, hbl _⟩
  | true =>
    rw [h0] at hpre
    by_cases h2 : op ≠ 26 ∧ 0 < args.length
    · obtain ⟨h4, h3⟩ := h2
      have h5 : args.isEmpty = false := by cases args <;> simp_all
      simp [beqF h4, h5] at hpre
      subst hpre
      simp at hp
      subst hp
      have b4 := bneT h4
      clear h5
      go_enter Tryz.func145, Tryz.ntmps145
      go_wp2_with (go_at_call 47; refine (s_l1In _ _ _ _).mono ?_; rintro e w' ⟨rfl, rfl⟩)
      go_ret
      exact ⟨rfl, hbl _⟩
    · have hpre2 : Pr = decide (args.length ≤ 4) := by
        rw [hpre]
        have : args.isEmpty = true ∨ op = 26 := by
          rcases Nat.eq_zero_or_pos args.length with h | h
          · left; simpa using h
          · right; exact Decidable.byContradiction fun h' => h2 ⟨h', h⟩
        rcases this with h | h <;> simp [h]
      have hargs : op ≠ 26 → args.length = 0 := fun h => by omega
      clear hpre h2
      have hp' := Hd.mk hp
      have hpre' := Hd.mk hpre2
      have hargs' := Hd.mk hargs
      clear hp hpre2 hargs
      have h26 : op ≠ 26 ∧ args = [] ∨ op = 26 := by
        by_cases h : op = 26
        · exact .inr h
        · exact .inl ⟨h, List.eq_nil_of_length_eq_zero (hargs'.out h)⟩
      clear hargs'
      rcases h26 with ⟨h26, rfl⟩ | rfl
      · have b26 := bneT h26
        have c26 := beqF h26
        have hl3 := hn3.out h26
        have hN2 := hN.out
        rw [c26] at hN2
        simp at hN2
        subst hN2
        have hPr := hpre'.out
        simp at hPr
        subst hPr
        go_enter Tryz.func145, Tryz.ntmps145
        go_wp2_with fail
        refine (s_l1In _ _ _ _).mono ?_; rintro e w' ⟨rfl, rfl⟩
        go_wp2_with fail
        refine (hops _ _ (hv0.out.mv (hbl _))).mono ?_; rintro e w1 ⟨v', rfl, ho1, hb1⟩
        obtain ⟨A1, c1, rfl, -, -, hr1⟩ := (own_ints (L := lm) ho1 (by simp only [lm]; omega)).2.sm
        have k0 := bat hb1 w.heap.size (by simp)
        simp at k0
        have hbw := Hd.mk ((hbl _).then hb1)
        clear hb1 ho1 hops
        go_wp2
        go_loop [8] (fun s8 => ∃ k : Nat, k ≤ l.length ∧ s8 = .int .i64 k ∧ Hd ((l.take k).all (isIdB ids) = true)) (fun s8 => l.length - (intOf s8).toNat)
        case atStart => exact ⟨0, Nat.zero_le _, rfl, ⟨by simp⟩⟩
        case round =>
          obtain ⟨k, hk, rfl, hall⟩ := hrel
          by_cases hlt : k < l.length
          · obtain ⟨b1, off1, cs1, hA, hbl1, hk1, hat⟩ := hr1.out.in0 (Below.refl _ _) k hlt
            cases hA
            cases hk1
            have g0 := hat 0 _ rfl
            simp at g0
            clear hat
            have hsn := Hd.mk (all_take_snoc (isIdB ids) l k hlt)
            have hfail := fun h => Hd.mk (all_false_of (isIdB ids) l k hlt h)
            have hid : isIdB ids l[k] = inR l[k] 0 (ids - 1) := rfl
            generalize l[k] = y at *
            cases hq : inR y 0 (ids - 1) with
            | false =>
              have hp2 := hp'.out
              rw [(hfail (by rw [hid, hq])).out] at hp2
              simp at hp2
              subst hp2
              go_wp2_with (go_at_call 47; refine (s_l1In _ _ _ _).mono ?_; rintro e w' ⟨rfl, rfl⟩)
              go_ret
              exact ⟨rfl, hbw.out⟩
            | true =>
              go_wp2_with (go_at_call 47; refine (s_l1In _ _ _ _).mono ?_; rintro e w' ⟨rfl, rfl⟩)
              go_round
              case rel => exact ⟨k + 1, by omega, by go_num, ⟨by rw [hsn.out, hall.out, hid, hq]; rfl⟩⟩
              case measure => simp [intOf]; omega
          · have e : k = l.length := by omega
            subst e
            rw [List.take_length] at hall
            have hp2 := hp'.out
            rw [hall.out] at hp2
            have hR := Hd.mk hp2
            have hcls := hcl.out h0 h26
            clear hp2 hp' hn3 hN hcl
            rcases hcls with ⟨rfl, hn⟩ | ⟨rfl, hn⟩ | ⟨rfl, hn⟩ | ⟨rfl, hn⟩ | ⟨o21, o23, o24, o25, hn⟩
            · skip
              cases hwd : widthOk wd with
              | false =>
                have hwf : WF = false := by rw [hW.out]; simp [hwd]
                by_cases hw0 : wd = 0
                · subst hw0
                  have e : R = false := by rw [hR.out]; simp [hn, hwf]
                  subst e
                  go_wp2_with (first | (go_at_call 105; refine (s_WidthOk _ _).mono ?_; rintro e w' ⟨rfl, rfl⟩) | (go_at_call 76; refine (s_l1Value _ _ _).mono ?_; rintro e w' ⟨rfl, rfl⟩) | (go_at_call 47; refine (s_l1In _ _ _ _).mono ?_; rintro e w' ⟨rfl, rfl⟩))
                  go_ret
                  exact ⟨by first | rfl | simp, hbw.out⟩
                · have yw := beqF hw0
                  have e : R = false := by rw [hR.out]; simp [hn, hwf]
                  subst e
                  go_wp2_with (first | (go_at_call 105; refine (s_WidthOk _ _).mono ?_; rintro e w' ⟨rfl, rfl⟩) | (go_at_call 76; refine (s_l1Value _ _ _).mono ?_; rintro e w' ⟨rfl, rfl⟩) | (go_at_call 47; refine (s_l1In _ _ _ _).mono ?_; rintro e w' ⟨rfl, rfl⟩))
                  go_ret
                  exact ⟨by first | rfl | simp, hbw.out⟩
              | true =>
                have yw := widthOk_ne wd hwd
                have hwf : WF = true := by rw [hW.out]; simp [hwd]
                have hif : IF = isVal wd imm := hM.out
                by_cases za : a = 0
                rotate_left
                · have ya := bneT za
                  have e : R = false := by rw [hR.out]; simp [hn, hwf, za]
                  subst e
                  go_wp2_with (first | (go_at_call 105; refine (s_WidthOk _ _).mono ?_; rintro e w' ⟨rfl, rfl⟩) | (go_at_call 76; refine (s_l1Value _ _ _).mono ?_; rintro e w' ⟨rfl, rfl⟩) | (go_at_call 47; refine (s_l1In _ _ _ _).mono ?_; rintro e w' ⟨rfl, rfl⟩))
                  go_ret
                  exact ⟨by first | rfl | simp, hbw.out⟩
                subst za
                by_cases zb : b = 0
                rotate_left
                · have yb := bneT zb
                  have e : R = false := by rw [hR.out]; simp [hn, hwf, zb]
                  subst e
                  go_wp2_with (first | (go_at_call 105; refine (s_WidthOk _ _).mono ?_; rintro e w' ⟨rfl, rfl⟩) | (go_at_call 76; refine (s_l1Value _ _ _).mono ?_; rintro e w' ⟨rfl, rfl⟩) | (go_at_call 47; refine (s_l1In _ _ _ _).mono ?_; rintro e w' ⟨rfl, rfl⟩))
                  go_ret
                  exact ⟨by first | rfl | simp, hbw.out⟩
                subst zb
                by_cases zc0 : c0 = 0
                rotate_left
                · have yc0 := bneT zc0
                  have e : R = false := by rw [hR.out]; simp [hn, hwf, zc0]
                  subst e
                  go_wp2_with (first | (go_at_call 105; refine (s_WidthOk _ _).mono ?_; rintro e w' ⟨rfl, rfl⟩) | (go_at_call 76; refine (s_l1Value _ _ _).mono ?_; rintro e w' ⟨rfl, rfl⟩) | (go_at_call 47; refine (s_l1In _ _ _ _).mono ?_; rintro e w' ⟨rfl, rfl⟩))
                  go_ret
                  exact ⟨by first | rfl | simp, hbw.out⟩
                subst zc0
                have e : R = isVal wd imm := by rw [hR.out]; simp [hn, hwf, hif]
                subst e
                go_wp2_with (first | (go_at_call 105; refine (s_WidthOk _ _).mono ?_; rintro e w' ⟨rfl, rfl⟩) | (go_at_call 76; refine (s_l1Value _ _ _).mono ?_; rintro e w' ⟨rfl, rfl⟩) | (go_at_call 47; refine (s_l1In _ _ _ _).mono ?_; rintro e w' ⟨rfl, rfl⟩))
                go_ret
                exact ⟨by first | rfl | simp, hbw.out⟩
            · skip
              by_cases hw0 : wd = 0
              rotate_left
              · have hwf : WF = false := by rw [hW.out]; simp [hw0]
                have yw := beqF hw0
                have e : R = false := by rw [hR.out]; simp [hn, hwf]
                subst e
                go_wp2_with (first | (go_at_call 105; refine (s_WidthOk _ _).mono ?_; rintro e w' ⟨rfl, rfl⟩) | (go_at_call 76; refine (s_l1Value _ _ _).mono ?_; rintro e w' ⟨rfl, rfl⟩) | (go_at_call 47; refine (s_l1In _ _ _ _).mono ?_; rintro e w' ⟨rfl, rfl⟩))
                go_ret
                exact ⟨by first | rfl | simp, hbw.out⟩
              have hwf : WF = true := by rw [hW.out]; simp [hw0]
              have hif : IF = (imm == 0) := hM.out
              subst hw0
              by_cases zc0 : c0 = 0
              rotate_left
              · have yc0 := bneT zc0
                have e : R = false := by rw [hR.out]; simp [hn, hwf, zc0]
                subst e
                go_wp2_with (first | (go_at_call 105; refine (s_WidthOk _ _).mono ?_; rintro e w' ⟨rfl, rfl⟩) | (go_at_call 76; refine (s_l1Value _ _ _).mono ?_; rintro e w' ⟨rfl, rfl⟩) | (go_at_call 47; refine (s_l1In _ _ _ _).mono ?_; rintro e w' ⟨rfl, rfl⟩))
                go_ret
                exact ⟨by first | rfl | simp, hbw.out⟩
              subst zc0
              have e : R = (imm == 0) := by rw [hR.out]; simp [hn, hwf, hif]
              subst e
              go_wp2_with (first | (go_at_call 105; refine (s_WidthOk _ _).mono ?_; rintro e w' ⟨rfl, rfl⟩) | (go_at_call 76; refine (s_l1Value _ _ _).mono ?_; rintro e w' ⟨rfl, rfl⟩) | (go_at_call 47; refine (s_l1In _ _ _ _).mono ?_; rintro e w' ⟨rfl, rfl⟩))
              go_ret
              exact ⟨by first | rfl | simp, hbw.out⟩
            · skip
              by_cases hw0 : wd = 0
              rotate_left
              · have hwf : WF = false := by rw [hW.out]; simp [hw0]
                have yw := beqF hw0
                have e : R = false := by rw [hR.out]; simp [hn, hwf]
                subst e
                go_wp2_with (first | (go_at_call 105; refine (s_WidthOk _ _).mono ?_; rintro e w' ⟨rfl, rfl⟩) | (go_at_call 76; refine (s_l1Value _ _ _).mono ?_; rintro e w' ⟨rfl, rfl⟩) | (go_at_call 47; refine (s_l1In _ _ _ _).mono ?_; rintro e w' ⟨rfl, rfl⟩))
                go_ret
                exact ⟨by first | rfl | simp, hbw.out⟩
              have hwf : WF = true := by rw [hW.out]; simp [hw0]
              have hif : IF = (imm == 0) := hM.out
              subst hw0
              by_cases zb : b = 0
              rotate_left
              · have yb := bneT zb
                have e : R = false := by rw [hR.out]; simp [hn, hwf, zb]
                subst e
                go_wp2_with (first | (go_at_call 105; refine (s_WidthOk _ _).mono ?_; rintro e w' ⟨rfl, rfl⟩) | (go_at_call 76; refine (s_l1Value _ _ _).mono ?_; rintro e w' ⟨rfl, rfl⟩) | (go_at_call 47; refine (s_l1In _ _ _ _).mono ?_; rintro e w' ⟨rfl, rfl⟩))
                go_ret
                exact ⟨by first | rfl | simp, hbw.out⟩
              subst zb
              by_cases zc0 : c0 = 0
              rotate_left
              · have yc0 := bneT zc0
                have e : R = false := by rw [hR.out]; simp [hn, hwf, zc0]
                subst e
                go_wp2_with (first | (go_at_call 105; refine (s_WidthOk _ _).mono ?_; rintro e w' ⟨rfl, rfl⟩) | (go_at_call 76; refine (s_l1Value _ _ _).mono ?_; rintro e w' ⟨rfl, rfl⟩) | (go_at_call 47; refine (s_l1In _ _ _ _).mono ?_; rintro e w' ⟨rfl, rfl⟩))
                go_ret
                exact ⟨by first | rfl | simp, hbw.out⟩
              subst zc0
              have e : R = (imm == 0) := by rw [hR.out]; simp [hn, hwf, hif]
              subst e
              go_wp2_with (first | (go_at_call 105; refine (s_WidthOk _ _).mono ?_; rintro e w' ⟨rfl, rfl⟩) | (go_at_call 76; refine (s_l1Value _ _ _).mono ?_; rintro e w' ⟨rfl, rfl⟩) | (go_at_call 47; refine (s_l1In _ _ _ _).mono ?_; rintro e w' ⟨rfl, rfl⟩))
              go_ret
              exact ⟨by first | rfl | simp, hbw.out⟩
            · skip
              cases hwd : widthOk wd with
              | false =>
                have hwf : WF = false := by rw [hW.out]; simp; intro h; subst h; cases hwd
                by_cases hw0 : wd = 0
                · subst hw0
                  have e : R = false := by rw [hR.out]; simp [hn, hwf]
                  subst e
                  go_wp2_with (first | (go_at_call 105; refine (s_WidthOk _ _).mono ?_; rintro e w' ⟨rfl, rfl⟩) | (go_at_call 76; refine (s_l1Value _ _ _).mono ?_; rintro e w' ⟨rfl, rfl⟩) | (go_at_call 47; refine (s_l1In _ _ _ _).mono ?_; rintro e w' ⟨rfl, rfl⟩))
                  go_ret
                  exact ⟨by first | rfl | simp, hbw.out⟩
                · have yw := beqF hw0
                  have e : R = false := by rw [hR.out]; simp [hn, hwf]
                  subst e
                  go_wp2_with (first | (go_at_call 105; refine (s_WidthOk _ _).mono ?_; rintro e w' ⟨rfl, rfl⟩) | (go_at_call 76; refine (s_l1Value _ _ _).mono ?_; rintro e w' ⟨rfl, rfl⟩) | (go_at_call 47; refine (s_l1In _ _ _ _).mono ?_; rintro e w' ⟨rfl, rfl⟩))
                  go_ret
                  exact ⟨by first | rfl | simp, hbw.out⟩
              | true =>
                have yw := widthOk_ne wd hwd
                have hwf : WF = (wd == 8) := hW.out
                have hif : IF = (imm == 0) := hM.out
                by_cases zb : b = 0
                rotate_left
                · have yb := bneT zb
                  have e : R = false := by rw [hR.out]; simp [hn, hwf, zb]
                  subst e
                  go_wp2_with (first | (go_at_call 105; refine (s_WidthOk _ _).mono ?_; rintro e w' ⟨rfl, rfl⟩) | (go_at_call 76; refine (s_l1Value _ _ _).mono ?_; rintro e w' ⟨rfl, rfl⟩) | (go_at_call 47; refine (s_l1In _ _ _ _).mono ?_; rintro e w' ⟨rfl, rfl⟩))
                  go_ret
                  exact ⟨by first | rfl | simp, hbw.out⟩
                subst zb
                by_cases zc0 : c0 = 0
                rotate_left
                · have yc0 := bneT zc0
                  have e : R = false := by rw [hR.out]; simp [hn, hwf, zc0]
                  subst e
                  go_wp2_with (first | (go_at_call 105; refine (s_WidthOk _ _).mono ?_; rintro e w' ⟨rfl, rfl⟩) | (go_at_call 76; refine (s_l1Value _ _ _).mono ?_; rintro e w' ⟨rfl, rfl⟩) | (go_at_call 47; refine (s_l1In _ _ _ _).mono ?_; rintro e w' ⟨rfl, rfl⟩))
                  go_ret
                  exact ⟨by first | rfl | simp, hbw.out⟩
                subst zc0
                by_cases h8 : wd = 8
                · subst h8
                  have e : R = (imm == 0) := by rw [hR.out]; simp [hn, hwf, hif]
                  subst e
                  go_wp2_with (first | (go_at_call 105; refine (s_WidthOk _ _).mono ?_; rintro e w' ⟨rfl, rfl⟩) | (go_at_call 76; refine (s_l1Value _ _ _).mono ?_; rintro e w' ⟨rfl, rfl⟩) | (go_at_call 47; refine (s_l1In _ _ _ _).mono ?_; rintro e w' ⟨rfl, rfl⟩))
                  go_ret
                  exact ⟨by first | rfl | simp, hbw.out⟩
                · have y8 := beqF h8
                  have e : R = false := by rw [hR.out]; simp [hn, hwf, y8]
                  subst e
                  go_wp2_with (first | (go_at_call 105; refine (s_WidthOk _ _).mono ?_; rintro e w' ⟨rfl, rfl⟩) | (go_at_call 76; refine (s_l1Value _ _ _).mono ?_; rintro e w' ⟨rfl, rfl⟩) | (go_at_call 47; refine (s_l1In _ _ _ _).mono ?_; rintro e w' ⟨rfl, rfl⟩))
                  go_ret
                  exact ⟨by first | rfl | simp, hbw.out⟩
            · have b21 := beqF o21
              have b23 := beqF o23
              have b24 := beqF o24
              have b25 := beqF o25
              rcases hn with hn | hn | hn
              · skip
                cases hwd : widthOk wd with
                | false =>
                  have hwf : WF = false := by rw [hW.out]; simp [hwd, b21, b23, b24, b25, c26]
                  by_cases hw0 : wd = 0
                  · subst hw0
                    have e : R = false := by rw [hR.out]; simp [hn, hwf]
                    subst e
                    go_wp2_with (first | (go_at_call 105; refine (s_WidthOk _ _).mono ?_; rintro e w' ⟨rfl, rfl⟩) | (go_at_call 76; refine (s_l1Value _ _ _).mono ?_; rintro e w' ⟨rfl, rfl⟩) | (go_at_call 47; refine (s_l1In _ _ _ _).mono ?_; rintro e w' ⟨rfl, rfl⟩))
                    go_ret
                    exact ⟨by first | rfl | simp, hbw.out⟩
                  · have yw := beqF hw0
                    have e : R = false := by rw [hR.out]; simp [hn, hwf]
                    subst e
                    go_wp2_with (first | (go_at_call 105; refine (s_WidthOk _ _).mono ?_; rintro e w' ⟨rfl, rfl⟩) | (go_at_call 76; refine (s_l1Value _ _ _).mono ?_; rintro e w' ⟨rfl, rfl⟩) | (go_at_call 47; refine (s_l1In _ _ _ _).mono ?_; rintro e w' ⟨rfl, rfl⟩))
                    go_ret
                    exact ⟨by first | rfl | simp, hbw.out⟩
                | true =>
                  have yw := widthOk_ne wd hwd
                  have hwf : WF = true := by rw [hW.out]; simp [hwd, b21, b23, b24, b25, c26]
                  have hif : IF = (imm == 0) := by rw [hM.out]; simp [b21, b23, b24, b25, c26]
                  by_cases zb : b = 0
                  rotate_left
                  · have yb := bneT zb
                    have e : R = false := by rw [hR.out]; simp [hn, hwf, zb]
                    subst e
                    go_wp2_with (first | (go_at_call 105; refine (s_WidthOk _ _).mono ?_; rintro e w' ⟨rfl, rfl⟩) | (go_at_call 76; refine (s_l1Value _ _ _).mono ?_; rintro e w' ⟨rfl, rfl⟩) | (go_at_call 47; refine (s_l1In _ _ _ _).mono ?_; rintro e w' ⟨rfl, rfl⟩))
                    go_ret
                    exact ⟨by first | rfl | simp, hbw.out⟩
                  subst zb
                  by_cases zc0 : c0 = 0
                  rotate_left
                  · have yc0 := bneT zc0
                    have e : R = false := by rw [hR.out]; simp [hn, hwf, zc0]
                    subst e
                    go_wp2_with (first | (go_at_call 105; refine (s_WidthOk _ _).mono ?_; rintro e w' ⟨rfl, rfl⟩) | (go_at_call 76; refine (s_l1Value _ _ _).mono ?_; rintro e w' ⟨rfl, rfl⟩) | (go_at_call 47; refine (s_l1In _ _ _ _).mono ?_; rintro e w' ⟨rfl, rfl⟩))
                    go_ret
                    exact ⟨by first | rfl | simp, hbw.out⟩
                  subst zc0
                  have e : R = (imm == 0) := by rw [hR.out]; simp [hn, hwf, hif]
                  subst e
                  go_wp2_with (first | (go_at_call 105; refine (s_WidthOk _ _).mono ?_; rintro e w' ⟨rfl, rfl⟩) | (go_at_call 76; refine (s_l1Value _ _ _).mono ?_; rintro e w' ⟨rfl, rfl⟩) | (go_at_call 47; refine (s_l1In _ _ _ _).mono ?_; rintro e w' ⟨rfl, rfl⟩))
                  go_ret
                  exact ⟨by first | rfl | simp, hbw.out⟩
              · skip
                cases hwd : widthOk wd with
                | false =>
                  have hwf : WF = false := by rw [hW.out]; simp [hwd, b21, b23, b24, b25, c26]
                  by_cases hw0 : wd = 0
                  · subst hw0
                    have e : R = false := by rw [hR.out]; simp [hn, hwf]
                    subst e
                    go_wp2_with (first | (go_at_call 105; refine (s_WidthOk _ _).mono ?_; rintro e w' ⟨rfl, rfl⟩) | (go_at_call 76; refine (s_l1Value _ _ _).mono ?_; rintro e w' ⟨rfl, rfl⟩) | (go_at_call 47; refine (s_l1In _ _ _ _).mono ?_; rintro e w' ⟨rfl, rfl⟩))
                    go_ret
                    exact ⟨by first | rfl | simp, hbw.out⟩
                  · have yw := beqF hw0
                    have e : R = false := by rw [hR.out]; simp [hn, hwf]
                    subst e
                    go_wp2_with (first | (go_at_call 105; refine (s_WidthOk _ _).mono ?_; rintro e w' ⟨rfl, rfl⟩) | (go_at_call 76; refine (s_l1Value _ _ _).mono ?_; rintro e w' ⟨rfl, rfl⟩) | (go_at_call 47; refine (s_l1In _ _ _ _).mono ?_; rintro e w' ⟨rfl, rfl⟩))
                    go_ret
                    exact ⟨by first | rfl | simp, hbw.out⟩
                | true =>
                  have yw := widthOk_ne wd hwd
                  have hwf : WF = true := by rw [hW.out]; simp [hwd, b21, b23, b24, b25, c26]
                  have hif : IF = (imm == 0) := by rw [hM.out]; simp [b21, b23, b24, b25, c26]
                  by_cases zc0 : c0 = 0
                  rotate_left
                  · have yc0 := bneT zc0
                    have e : R = false := by rw [hR.out]; simp [hn, hwf, zc0]
                    subst e
                    go_wp2_with (first | (go_at_call 105; refine (s_WidthOk _ _).mono ?_; rintro e w' ⟨rfl, rfl⟩) | (go_at_call 76; refine (s_l1Value _ _ _).mono ?_; rintro e w' ⟨rfl, rfl⟩) | (go_at_call 47; refine (s_l1In _ _ _ _).mono ?_; rintro e w' ⟨rfl, rfl⟩))
                    go_ret
                    exact ⟨by first | rfl | simp, hbw.out⟩
                  subst zc0
                  have e : R = (imm == 0) := by rw [hR.out]; simp [hn, hwf, hif]
                  subst e
                  go_wp2_with (first | (go_at_call 105; refine (s_WidthOk _ _).mono ?_; rintro e w' ⟨rfl, rfl⟩) | (go_at_call 76; refine (s_l1Value _ _ _).mono ?_; rintro e w' ⟨rfl, rfl⟩) | (go_at_call 47; refine (s_l1In _ _ _ _).mono ?_; rintro e w' ⟨rfl, rfl⟩))
                  go_ret
                  exact ⟨by first | rfl | simp, hbw.out⟩
              · skip
                cases hwd : widthOk wd with
                | false =>
                  have hwf : WF = false := by rw [hW.out]; simp [hwd, b21, b23, b24, b25, c26]
                  by_cases hw0 : wd = 0
                  · subst hw0
                    have e : R = false := by rw [hR.out]; simp [hn, hwf]
                    subst e
                    go_wp2_with (first | (go_at_call 105; refine (s_WidthOk _ _).mono ?_; rintro e w' ⟨rfl, rfl⟩) | (go_at_call 76; refine (s_l1Value _ _ _).mono ?_; rintro e w' ⟨rfl, rfl⟩) | (go_at_call 47; refine (s_l1In _ _ _ _).mono ?_; rintro e w' ⟨rfl, rfl⟩))
                    go_ret
                    exact ⟨by first | rfl | simp, hbw.out⟩
                  · have yw := beqF hw0
                    have e : R = false := by rw [hR.out]; simp [hn, hwf]
                    subst e
                    go_wp2_with (first | (go_at_call 105; refine (s_WidthOk _ _).mono ?_; rintro e w' ⟨rfl, rfl⟩) | (go_at_call 76; refine (s_l1Value _ _ _).mono ?_; rintro e w' ⟨rfl, rfl⟩) | (go_at_call 47; refine (s_l1In _ _ _ _).mono ?_; rintro e w' ⟨rfl, rfl⟩))
                    go_ret
                    exact ⟨by first | rfl | simp, hbw.out⟩
                | true =>
                  have yw := widthOk_ne wd hwd
                  have hwf : WF = true := by rw [hW.out]; simp [hwd, b21, b23, b24, b25, c26]
                  have hif : IF = (imm == 0) := by rw [hM.out]; simp [b21, b23, b24, b25, c26]
                  have e : R = (imm == 0) := by rw [hR.out]; simp [hn, hwf, hif]
                  subst e
                  go_wp2_with (first | (go_at_call 105; refine (s_WidthOk _ _).mono ?_; rintro e w' ⟨rfl, rfl⟩) | (go_at_call 76; refine (s_l1Value _ _ _).mono ?_; rintro e w' ⟨rfl, rfl⟩) | (go_at_call 47; refine (s_l1In _ _ _ _).mono ?_; rintro e w' ⟨rfl, rfl⟩))
                  go_ret
                  exact ⟨by first | rfl | simp, hbw.out⟩
      · have hN2 := hN.out
        simp at hN2
        subst hN2
        go_enter Tryz.func145, Tryz.ntmps145
        go_wp2_with fail
        refine (s_l1In _ _ _ _).mono ?_; rintro e w' ⟨rfl, rfl⟩
        go_wp2_with fail
        refine (hops _ _ (hv0.out.mv (hbl _))).mono ?_; rintro e w1 ⟨v', rfl, ho1, hb1⟩
        obtain ⟨A1, c1, rfl, -, -, hr1⟩ := (own_ints (L := lm) ho1 (by simp only [lm]; omega)).2.sm
        have k0 := bat hb1 w.heap.size (by simp)
        simp at k0
        have hbw := Hd.mk ((hbl _).then hb1)
        clear hb1 ho1 hops
        go_wp2
        go_loop [8] (fun s8 => ∃ k : Nat, k ≤ l.length ∧ s8 = .int .i64 k ∧ Hd ((l.take k).all (isIdB ids) = true)) (fun s8 => l.length - (intOf s8).toNat)
        case atStart => exact ⟨0, Nat.zero_le _, rfl, ⟨by simp⟩⟩
        case round =>
          obtain ⟨k, hk, rfl, hall⟩ := hrel
          by_cases hlt : k < l.length
          · obtain ⟨b1, off1, cs1, hA, hbl1, hk1, hat⟩ := hr1.out.in0 (Below.refl _ _) k hlt
            cases hA
            cases hk1
            have g0 := hat 0 _ rfl
            simp at g0
            clear hat
            have hsn := Hd.mk (all_take_snoc (isIdB ids) l k hlt)
            have hfail := fun h => Hd.mk (all_false_of (isIdB ids) l k hlt h)
            have hid : isIdB ids l[k] = inR l[k] 0 (ids - 1) := rfl
            generalize l[k] = y at *
            cases hq : inR y 0 (ids - 1) with
            | false =>
              have hp2 := hp'.out
              rw [(hfail (by rw [hid, hq])).out] at hp2
              simp at hp2
              subst hp2
              go_wp2_with (go_at_call 47; refine (s_l1In _ _ _ _).mono ?_; rintro e w' ⟨rfl, rfl⟩)
              go_ret
              exact ⟨rfl, hbw.out⟩
            | true =>
              go_wp2_with (go_at_call 47; refine (s_l1In _ _ _ _).mono ?_; rintro e w' ⟨rfl, rfl⟩)
              go_round
              case rel => exact ⟨k + 1, by omega, by go_num, ⟨by rw [hsn.out, hall.out, hid, hq]; rfl⟩⟩
              case measure => simp [intOf]; omega
          · have e : k = l.length := by omega
            subst e
            rw [List.take_length] at hall
            have hp2 := hp'.out
            rw [hall.out] at hp2
            have hR := Hd.mk hp2
            clear hp2 hp' hn3 hN hcl
            cases hwd : widthOk wd with
            | false =>
              have hwf : WF = false := by rw [hW.out]; simp [hwd]
              by_cases hw0 : wd = 0
              · subst hw0
                have e : R = false := by rw [hR.out]; simp [hwf]
                subst e
                go_wp2_with (first | (go_at_call 105; refine (s_WidthOk _ _).mono ?_; rintro e w' ⟨rfl, rfl⟩) | (go_at_call 76; refine (s_l1Value _ _ _).mono ?_; rintro e w' ⟨rfl, rfl⟩) | (go_at_call 47; refine (s_l1In _ _ _ _).mono ?_; rintro e w' ⟨rfl, rfl⟩))
                go_ret
                exact ⟨by first | rfl | simp, hbw.out⟩
              · have yw := beqF hw0
                have e : R = false := by rw [hR.out]; simp [hwf]
                subst e
                go_wp2_with (first | (go_at_call 105; refine (s_WidthOk _ _).mono ?_; rintro e w' ⟨rfl, rfl⟩) | (go_at_call 76; refine (s_l1Value _ _ _).mono ?_; rintro e w' ⟨rfl, rfl⟩) | (go_at_call 47; refine (s_l1In _ _ _ _).mono ?_; rintro e w' ⟨rfl, rfl⟩))
                go_ret
                exact ⟨by first | rfl | simp, hbw.out⟩
            | true =>
              have yw := widthOk_ne wd hwd
              have hwf : WF = true := by rw [hW.out]; simp [hwd]
              have hif : IF = inR imm 0 (funcs - 1) := hM.out
              by_cases h4 : 4 < args.length
              · have hPr := hpre'.out
                rw [show decide (args.length ≤ 4) = false by simp; omega] at hPr
                have d4 : decide (4 < (args.length : Int)) = true := by simp; omega
                have e : R = false := by rw [hR.out]; simp [hPr]
                subst e
                go_wp2_with (first | (go_at_call 105; refine (s_WidthOk _ _).mono ?_; rintro e w' ⟨rfl, rfl⟩) | (go_at_call 76; refine (s_l1Value _ _ _).mono ?_; rintro e w' ⟨rfl, rfl⟩) | (go_at_call 47; refine (s_l1In _ _ _ _).mono ?_; rintro e w' ⟨rfl, rfl⟩))
                go_ret
                exact ⟨by first | rfl | simp, hbw.out⟩
              have hPr := hpre'.out
              rw [show decide (args.length ≤ 4) = true by simp; omega] at hPr
              have d4 : decide (4 < (args.length : Int)) = false := by simp; omega
              subst hPr
              by_cases za : a = 0
              rotate_left
              · have ya := bneT za
                have e : R = false := by rw [hR.out]; simp [hwf, za]
                subst e
                go_wp2_with (first | (go_at_call 105; refine (s_WidthOk _ _).mono ?_; rintro e w' ⟨rfl, rfl⟩) | (go_at_call 76; refine (s_l1Value _ _ _).mono ?_; rintro e w' ⟨rfl, rfl⟩) | (go_at_call 47; refine (s_l1In _ _ _ _).mono ?_; rintro e w' ⟨rfl, rfl⟩))
                go_ret
                exact ⟨by first | rfl | simp, hbw.out⟩
              subst za
              by_cases zb : b = 0
              rotate_left
              · have yb := bneT zb
                have e : R = false := by rw [hR.out]; simp [hwf, zb]
                subst e
                go_wp2_with (first | (go_at_call 105; refine (s_WidthOk _ _).mono ?_; rintro e w' ⟨rfl, rfl⟩) | (go_at_call 76; refine (s_l1Value _ _ _).mono ?_; rintro e w' ⟨rfl, rfl⟩) | (go_at_call 47; refine (s_l1In _ _ _ _).mono ?_; rintro e w' ⟨rfl, rfl⟩))
                go_ret
                exact ⟨by first | rfl | simp, hbw.out⟩
              subst zb
              by_cases zc0 : c0 = 0
              rotate_left
              · have yc0 := bneT zc0
                have e : R = false := by rw [hR.out]; simp [hwf, zc0]
                subst e
                go_wp2_with (first | (go_at_call 105; refine (s_WidthOk _ _).mono ?_; rintro e w' ⟨rfl, rfl⟩) | (go_at_call 76; refine (s_l1Value _ _ _).mono ?_; rintro e w' ⟨rfl, rfl⟩) | (go_at_call 47; refine (s_l1In _ _ _ _).mono ?_; rintro e w' ⟨rfl, rfl⟩))
                go_ret
                exact ⟨by first | rfl | simp, hbw.out⟩
              subst zc0
              have e : R = inR imm 0 (funcs - 1) := by rw [hR.out]; simp [hwf, hif]
              subst e
              go_wp2_with (first | (go_at_call 105; refine (s_WidthOk _ _).mono ?_; rintro e w' ⟨rfl, rfl⟩) | (go_at_call 76; refine (s_l1Value _ _ _).mono ?_; rintro e w' ⟨rfl, rfl⟩) | (go_at_call 47; refine (s_l1In _ _ _ _).mono ?_; rintro e w' ⟨rfl, rfl⟩))
              go_ret
              exact ⟨by first | rfl | simp, hbw.out⟩
end Go.Proofs.YtkcgejbnhpccdaaGreat
