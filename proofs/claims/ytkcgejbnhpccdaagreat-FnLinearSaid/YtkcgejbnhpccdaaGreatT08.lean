import Derived.Test.YtkcgejbnhpccdaaGreatT07
import Derived.Test.YtkcgejbnhpccdaaGreatT02
import Derived.StillTailTactics
import Derived.Deep.RegionLaw
import Derived.Deep.RegionWith
import Derived.Deep.QuietTactic
import Derived.BigQuiet
import Derived.Laws.IdiomStrings
import Derived.Lib.ConvBytes
set_option linter.unusedSimpArgs false
set_option linter.unusedVariables false
namespace Go.Proofs.YtkcgejbnhpccdaaGreat
open Go.RowKit
theorem s_Masked (w n : Int) (W : World) : Calls Tryz.prog 193 #[.int .i64 w, .int .i64 n] W (Same (.int .i64 (mskd w n)) W) := by
  cases h : widthOk w
  · have hw := s_WidthOk w
    rw [h] at hw
    have hm : mskd w n = 0 := by unfold mskd; rw [h]; rfl
    rw [hm]
    clear h hm
    go_enter Tryz.func193, Tryz.ntmps193
    go_wp2_with fail
    refine (hw _).mono ?_; rintro e w1 ⟨rfl, rfl⟩
    go_wp2
    go_ret
    exact ⟨rfl, rfl⟩
  · have hw := s_WidthOk w
    rw [h] at hw
    have hk := fun W => s_l1Top w W h
    have hpb := pow_bd w h
    have hm : mskd w n = n % 2 ^ w.toNat := by unfold mskd; rw [h]; rfl
    rw [hm]
    have hl : w.toNat ≤ 32 := by rcases wd4 h with rfl | rfl | rfl | rfl <;> decide
    have ha := Hd.mk (and_mask n w.toNat hl)
    clear hm h hl
    generalize (2 : Int) ^ w.toNat = t at *
    obtain ⟨t1, t2⟩ := hpb
    go_enter Tryz.func193, Tryz.ntmps193
    go_wp2_with fail
    refine (hw _).mono ?_; rintro e w1 ⟨rfl, rfl⟩
    go_wp2_with fail
    refine (hk _).mono ?_; rintro e w1 ⟨rfl, rfl⟩
    go_wp2
    go_ret
    exact ⟨by rw [← ha.out]; rfl, rfl⟩
theorem pow_even {w : Int} (h : widthOk w = true) : ∃ s : Int, (2 : Int) ^ w.toNat = 2 * s := by
  rcases wd4 h with rfl | rfl | rfl | rfl
  · exact ⟨1, rfl⟩
  · exact ⟨128, rfl⟩
  · exact ⟨32768, rfl⟩
  · exact ⟨2147483648, rfl⟩
theorem s_l1Sign (w v : Int) (W : World) (h : isVal w v = true) : Calls Tryz.prog 195 #[.int .i64 w, .int .i64 v] W (Same (.int .i64 (sgn w v)) W) := by
  obtain ⟨v1, v2, hw, v3⟩ := val_rng h
  have hk := fun W => s_l1Top w W hw
  have hpb := pow_bd w hw
  have hev := pow_even hw
  clear h
  unfold sgn
  generalize (2 : Int) ^ w.toNat = t at *
  obtain ⟨t1, t2⟩ := hpb
  by_cases hs : t ≤ 2 * v
  · have ht : t / 2 ≤ v := by omega
    rw [if_pos hs]
    go_enter Tryz.func195, Tryz.ntmps195
    go_wp2_with (go_at_call 106; refine (hk _).mono ?_; rintro e w1 ⟨rfl, rfl⟩)
    go_ret
    exact ⟨rfl, rfl⟩
  · have ht : ¬ t / 2 ≤ v := by obtain ⟨s, hs'⟩ := hev; omega
    rw [if_neg hs]
    go_enter Tryz.func195, Tryz.ntmps195
    go_wp2_with (go_at_call 106; refine (hk _).mono ?_; rintro e w1 ⟨rfl, rfl⟩)
    go_ret
    exact ⟨rfl, rfl⟩
def shT (op w a b : Int) : Int := if op = 13 ∧ w ≤ b then sgn w a / 2 ^ (w.toNat - 1) else if w ≤ b then 0 else if op = 11 then wrap64 (a * 2 ^ b.toNat) else if op = 12 then a / 2 ^ b.toNat else sgn w a / 2 ^ b.toNat
theorem s_l1Shift (op w a b : Int) (W : World) (ha : isVal w a = true) (hb : isVal w b = true) : Calls Tryz.prog 219 #[.int .i64 op, .int .i64 w, .int .i64 a, .int .i64 b] W (Same (.int .i64 (shT op w a b)) W) := by
  unfold shT
  obtain ⟨a1, a2, -, -⟩ := val_rng ha
  obtain ⟨b1, b2, hw, -⟩ := val_rng hb
  have hs := fun W => s_l1Sign w a W ha
  have hsr := sgn_rng ha
  have hw32 : 1 ≤ w ∧ w ≤ 32 := by rcases wd4 hw with rfl | rfl | rfl | rfl <;> decide
  clear ha hb hw
  generalize sgn w a = x at *
  by_cases hlt : w ≤ b
  · by_cases h13 : op = 13
    · subst h13
      rw [if_pos ⟨rfl, hlt⟩]
      have hu : IntKind.u64.wrap (w - 1) = w - 1 := IntWalk.u64_in _ (by omega)
      have hu2 : IntKind.i64.wrap (w - 1) = w - 1 := IntWalk.i64_in _ (by omega)
      go_enter Tryz.func219, Tryz.ntmps219
      go_wp2_with (go_at_call 195; refine (hs _).mono ?_; rintro e w1 ⟨rfl, rfl⟩)
      go_ret
      exact ⟨rfl, rfl⟩
    · rw [if_neg (fun h => h13 h.1), if_pos hlt]
      have t13 := beqF h13
      go_enter Tryz.func219, Tryz.ntmps219
      go_wp2
      go_ret
      exact ⟨rfl, rfl⟩
  · rw [if_neg (fun h => hlt h.2), if_neg hlt]
    have hu : IntKind.u64.wrap b = b := IntWalk.u64_in _ (by omega)
    by_cases h11 : op = 11
    · subst h11
      rw [if_pos rfl]
      go_enter Tryz.func219, Tryz.ntmps219
      go_wp2
      go_ret
      exact ⟨rfl, rfl⟩
    · rw [if_neg h11]
      have t11 := beqF h11
      by_cases h12 : op = 12
      · subst h12
        rw [if_pos rfl]
        go_enter Tryz.func219, Tryz.ntmps219
        go_wp2
        go_ret
        exact ⟨rfl, rfl⟩
      · rw [if_neg h12]
        have t12 := beqF h12
        by_cases h13 : op = 13
        · subst h13
          go_enter Tryz.func219, Tryz.ntmps219
          go_wp2_with (go_at_call 195; refine (hs _).mono ?_; rintro e w1 ⟨rfl, rfl⟩)
          go_ret
          exact ⟨rfl, rfl⟩
        · have t13 := beqF h13
          go_enter Tryz.func219, Tryz.ntmps219
          go_wp2_with (go_at_call 195; refine (hs _).mono ?_; rintro e w1 ⟨rfl, rfl⟩)
          go_ret
          exact ⟨rfl, rfl⟩
theorem s_l1Divides (n : Int) (w : World) : Calls Tryz.prog 192 #[.int .i64 n] w (Same (.bool (inR n 4 7)) w) := by
  go_enter Tryz.func192, Tryz.ntmps192
  go_wp2_with (go_at_call 47; refine (s_l1In _ _ _ _).mono ?_; rintro e w' ⟨rfl, rfl⟩)
  go_ret
  exact ⟨rfl, rfl⟩
def two (op w a b : Int) : Int :=
  if op = 1 then (a + b) else
  if op = 2 then (a - b) else
  if op = 3 then (wrap64 (sgn w a * sgn w b)) else
  if op = 4 then (a / b) else
  if op = 5 then (wrap64 ((sgn w a).tdiv (sgn w b))) else
  if op = 6 then (a % b) else
  if op = 7 then ((sgn w a).tmod (sgn w b)) else
  if op = 8 then (bits .and .i64 a b) else
  if op = 9 then (bits .or .i64 a b) else
  if op = 10 then (bits .xor .i64 a b) else
  if op = 14 then (b01 (a == b)) else
  if op = 15 then (b01 (a != b)) else
  if op = 16 then (b01 (decide (a < b))) else
  if op = 17 then (b01 (decide (sgn w a < sgn w b))) else
  shT op w a b
set_option maxHeartbeats 4000000 in
theorem s_l1Two (op w a b : Int) (W : World) (ho : bin op = true) (ha : isVal w a = true) (hb : isVal w b = true) (hd : inR op 4 7 = true → b ≠ 0) : Calls Tryz.prog 194 #[.int .i64 op, .int .i64 w, .int .i64 a, .int .i64 b] W (Same (.int .i64 (two op w a b)) W) := by
  obtain ⟨a1, a2, -, -⟩ := val_rng ha
  obtain ⟨b1, b2, -, hb4⟩ := val_rng hb
  have hs := fun W => s_l1Sign w a W ha
  have hs' := fun W => s_l1Sign w b W hb
  have hr := sgn_rng ha
  have hr' := sgn_rng hb
  have hy0 : b ≠ 0 → sgn w b ≠ 0 := fun h => by unfold sgn; split <;> omega
  have hsh := fun W => s_l1Shift op w a b W ha hb
  unfold bin inR at ho
  simp only [Bool.and_eq_true, decide_eq_true_eq] at ho
  obtain ⟨o1, o2⟩ := ho
  clear ha hb hb4
  have hop : op = 1 ∨ op = 2 ∨ op = 3 ∨ op = 4 ∨ op = 5 ∨ op = 6 ∨ op = 7 ∨ op = 8 ∨ op = 9 ∨ op = 10 ∨ op = 11 ∨ op = 12 ∨ op = 13 ∨ op = 14 ∨ op = 15 ∨ op = 16 ∨ op = 17 := by omega
  clear o1 o2
  rcases hop with rfl | rfl | rfl | rfl | rfl | rfl | rfl | rfl | rfl | rfl | rfl | rfl | rfl | rfl | rfl | rfl | rfl
  · have hR : two 1 w a b = a + b := rfl
    rw [hR]
    clear hR
    clear hd hy0
    clear hsh
    generalize sgn w a = x at *
    generalize sgn w b = y at *
    go_enter Tryz.func194, Tryz.ntmps194
    go_wp2
    go_ret
    exact ⟨rfl, rfl⟩
  · have hR : two 2 w a b = a - b := rfl
    rw [hR]
    clear hR
    clear hd hy0
    clear hsh
    generalize sgn w a = x at *
    generalize sgn w b = y at *
    go_enter Tryz.func194, Tryz.ntmps194
    go_wp2
    go_ret
    exact ⟨rfl, rfl⟩
  · have hR : two 3 w a b = wrap64 (sgn w a * sgn w b) := rfl
    rw [hR]
    clear hR
    clear hd hy0
    clear hsh
    generalize sgn w a = x at *
    generalize sgn w b = y at *
    go_enter Tryz.func194, Tryz.ntmps194
    go_wp2_with fail
    refine (hs _).mono ?_; rintro e w1 ⟨rfl, rfl⟩
    go_wp2_with fail
    refine (hs' _).mono ?_; rintro e w1 ⟨rfl, rfl⟩
    go_wp2
    go_ret
    exact ⟨rfl, rfl⟩
  · have hR : two 4 w a b = a / b := rfl
    rw [hR]
    clear hR
    have hb0 : b ≠ 0 := hd (by decide)
    have hb1 : 1 ≤ b := by omega
    have hy := hy0 hb0
    clear hd hy0
    clear hsh
    generalize sgn w a = x at *
    generalize sgn w b = y at *
    go_enter Tryz.func194, Tryz.ntmps194
    go_wp2
    go_ret
    exact ⟨rfl, rfl⟩
  · have hR : two 5 w a b = wrap64 ((sgn w a).tdiv (sgn w b)) := rfl
    rw [hR]
    clear hR
    have hb0 : b ≠ 0 := hd (by decide)
    have hb1 : 1 ≤ b := by omega
    have hy := hy0 hb0
    clear hd hy0
    clear hsh
    generalize sgn w a = x at *
    generalize sgn w b = y at *
    go_enter Tryz.func194, Tryz.ntmps194
    go_wp2_with fail
    refine (hs _).mono ?_; rintro e w1 ⟨rfl, rfl⟩
    go_wp2_with fail
    refine (hs' _).mono ?_; rintro e w1 ⟨rfl, rfl⟩
    go_wp2
    go_ret
    exact ⟨rfl, rfl⟩
  · have hR : two 6 w a b = a % b := rfl
    rw [hR]
    clear hR
    have hb0 : b ≠ 0 := hd (by decide)
    have hb1 : 1 ≤ b := by omega
    have hy := hy0 hb0
    clear hd hy0
    clear hsh
    generalize sgn w a = x at *
    generalize sgn w b = y at *
    go_enter Tryz.func194, Tryz.ntmps194
    go_wp2
    go_ret
    exact ⟨rfl, rfl⟩
  · have hR : two 7 w a b = (sgn w a).tmod (sgn w b) := rfl
    rw [hR]
    clear hR
    have hb0 : b ≠ 0 := hd (by decide)
    have hb1 : 1 ≤ b := by omega
    have hy := hy0 hb0
    clear hd hy0
    clear hsh
    generalize sgn w a = x at *
    generalize sgn w b = y at *
    go_enter Tryz.func194, Tryz.ntmps194
    go_wp2_with fail
    refine (hs _).mono ?_; rintro e w1 ⟨rfl, rfl⟩
    go_wp2_with fail
    refine (hs' _).mono ?_; rintro e w1 ⟨rfl, rfl⟩
    go_wp2
    go_ret
    exact ⟨rfl, rfl⟩
  · have hR : two 8 w a b = bits .and .i64 a b := rfl
    rw [hR]
    clear hR
    clear hd hy0
    clear hsh
    generalize sgn w a = x at *
    generalize sgn w b = y at *
    go_enter Tryz.func194, Tryz.ntmps194
    go_wp2
    go_ret
    exact ⟨rfl, rfl⟩
  · have hR : two 9 w a b = bits .or .i64 a b := rfl
    rw [hR]
    clear hR
    clear hd hy0
    clear hsh
    generalize sgn w a = x at *
    generalize sgn w b = y at *
    go_enter Tryz.func194, Tryz.ntmps194
    go_wp2
    go_ret
    exact ⟨rfl, rfl⟩
  · have hR : two 10 w a b = bits .xor .i64 a b := rfl
    rw [hR]
    clear hR
    clear hd hy0
    clear hsh
    generalize sgn w a = x at *
    generalize sgn w b = y at *
    go_enter Tryz.func194, Tryz.ntmps194
    go_wp2
    go_ret
    exact ⟨rfl, rfl⟩
  · have hR : two 11 w a b = shT 11 w a b := rfl
    rw [hR]
    clear hR
    clear hd hy0
    generalize shT 11 w a b = z at *
    generalize sgn w a = x at *
    generalize sgn w b = y at *
    go_enter Tryz.func194, Tryz.ntmps194
    go_wp2_with (go_at_call 219; refine (hsh _).mono ?_; rintro e w1 ⟨rfl, rfl⟩)
    go_ret
    exact ⟨rfl, rfl⟩
  · have hR : two 12 w a b = shT 12 w a b := rfl
    rw [hR]
    clear hR
    clear hd hy0
    generalize shT 12 w a b = z at *
    generalize sgn w a = x at *
    generalize sgn w b = y at *
    go_enter Tryz.func194, Tryz.ntmps194
    go_wp2_with (go_at_call 219; refine (hsh _).mono ?_; rintro e w1 ⟨rfl, rfl⟩)
    go_ret
    exact ⟨rfl, rfl⟩
  · have hR : two 13 w a b = shT 13 w a b := rfl
    rw [hR]
    clear hR
    clear hd hy0
    generalize shT 13 w a b = z at *
    generalize sgn w a = x at *
    generalize sgn w b = y at *
    go_enter Tryz.func194, Tryz.ntmps194
    go_wp2_with (go_at_call 219; refine (hsh _).mono ?_; rintro e w1 ⟨rfl, rfl⟩)
    go_ret
    exact ⟨rfl, rfl⟩
  · have hR : two 14 w a b = b01 (a == b) := rfl
    rw [hR]
    clear hR
    clear hd hy0
    clear hsh
    generalize sgn w a = x at *
    generalize sgn w b = y at *
    go_enter Tryz.func194, Tryz.ntmps194
    go_wp2_with (go_at_call 218; refine (s_l1Bit _ _).mono ?_; rintro e w1 ⟨rfl, rfl⟩)
    go_ret
    exact ⟨rfl, rfl⟩
  · have hR : two 15 w a b = b01 (a != b) := rfl
    rw [hR]
    clear hR
    clear hd hy0
    clear hsh
    generalize sgn w a = x at *
    generalize sgn w b = y at *
    go_enter Tryz.func194, Tryz.ntmps194
    go_wp2_with (go_at_call 218; refine (s_l1Bit _ _).mono ?_; rintro e w1 ⟨rfl, rfl⟩)
    go_ret
    exact ⟨rfl, rfl⟩
  · have hR : two 16 w a b = b01 (decide (a < b)) := rfl
    rw [hR]
    clear hR
    clear hd hy0
    clear hsh
    generalize sgn w a = x at *
    generalize sgn w b = y at *
    go_enter Tryz.func194, Tryz.ntmps194
    go_wp2_with (go_at_call 218; refine (s_l1Bit _ _).mono ?_; rintro e w1 ⟨rfl, rfl⟩)
    go_ret
    exact ⟨rfl, rfl⟩
  · have hR : two 17 w a b = b01 (decide (sgn w a < sgn w b)) := rfl
    rw [hR]
    clear hR
    clear hd hy0
    clear hsh
    generalize sgn w a = x at *
    generalize sgn w b = y at *
    go_enter Tryz.func194, Tryz.ntmps194
    go_wp2_with fail
    refine (hs _).mono ?_; rintro e w1 ⟨rfl, rfl⟩
    go_wp2_with fail
    refine (hs' _).mono ?_; rintro e w1 ⟨rfl, rfl⟩
    go_wp2_with (go_at_call 218; refine (s_l1Bit _ _).mono ?_; rintro e w1 ⟨rfl, rfl⟩)
    go_ret
    exact ⟨rfl, rfl⟩
theorem mskd_wrap (w n : Int) : mskd w (wrap64 n) = mskd w n := by
  unfold mskd
  cases h : widthOk w
  · rfl
  · rw [if_pos rfl, if_pos rfl]
    unfold wrap64
    rcases wd4 h with rfl | rfl | rfl | rfl
    · show _ % (2 : Int) = _ % (2 : Int); omega
    · show _ % (256 : Int) = _ % (256 : Int); omega
    · show _ % (65536 : Int) = _ % (65536 : Int); omega
    · show _ % (4294967296 : Int) = _ % (4294967296 : Int); omega
theorem sgn_mod (w v : Int) : sgn w v % 2 ^ w.toNat = v % 2 ^ w.toNat := by
  unfold sgn
  split
  · rw [Int.sub_emod_right]
  · rfl
theorem mskd_mul (w a b : Int) : mskd w (a * b) = mskd w (sgn w a * sgn w b) := by
  unfold mskd
  split
  · rw [Int.mul_emod, Int.mul_emod (sgn w a), sgn_mod, sgn_mod]
  · rfl
theorem div_small (x c d : Int) (h1 : -c ≤ x) (h2 : x < c) (h3 : c ≤ d) : x / d = if x < 0 then -1 else 0 := by
  split
  · have hd : 0 < d := by omega
    exact (((Int.ediv_emod_unique hd).2 ⟨(by omega : (x + d) + d * (-1) = x), by omega, by omega⟩).1)
  · exact Int.ediv_eq_zero_of_lt (by omega) (by omega)
theorem sh_same (op w a b : Int) (ho : 11 ≤ op ∧ op ≤ 13) (ha : isVal w a = true) (hb : isVal w b = true) : shR op w a b = shT op w a b := by
  obtain ⟨a1, a2, hw, a4⟩ := val_rng ha
  obtain ⟨b1, b2, -, b4⟩ := val_rng hb
  have hw32 : 1 ≤ w ∧ w ≤ 32 := by rcases wd4 hw with rfl | rfl | rfl | rfl <;> decide
  unfold shR shT
  by_cases h13 : op = 13
  · subst h13
    by_cases hlt : w ≤ b
    · rw [if_pos rfl, if_pos ⟨rfl, hlt⟩]
      have hp : (2 : Int) ^ w.toNat = 2 * 2 ^ (w.toNat - 1) := by
        obtain ⟨k, hk⟩ : ∃ k, w.toNat = k + 1 := ⟨w.toNat - 1, by omega⟩
        rw [hk, Int.pow_succ, Nat.add_sub_cancel, Int.mul_comm]
      have hq : (2 : Int) ^ (w.toNat - 1) ≤ 2 ^ (min b 63).toNat := by
        have h := Nat.pow_le_pow_right (show 0 < 2 by decide) (show w.toNat - 1 ≤ (min b 63).toNat by omega)
        have h' := Int.ofNat_le.2 h
        simpa using h'
      have h0 : (0 : Int) < 2 ^ (w.toNat - 1) := Int.pow_pos (by decide)
      have hs : -(2 ^ (w.toNat - 1)) ≤ sgn w a ∧ sgn w a < 2 ^ (w.toNat - 1) := by
        unfold sgn
        rw [hp] at a4 ⊢
        split <;> omega
      rw [div_small _ _ _ hs.1 hs.2 hq, div_small _ _ _ hs.1 hs.2 (Int.le_refl _)]
    · rw [if_pos rfl, if_neg (fun h => hlt h.2), if_neg hlt, if_neg (by decide), if_neg (by decide), Int.min_eq_left (by omega)]
  · have hn : ¬ (op = 13 ∧ w ≤ b) := fun h => h13 h.1
    rw [if_neg h13, if_neg hn]
    by_cases hlt : w ≤ b
    · rw [if_pos hlt, if_pos hlt]
    · rw [if_neg hlt, if_neg hlt]
      by_cases h11 : op = 11
      · rw [if_pos h11, if_pos h11]
      · rw [if_neg h11, if_neg h11, if_pos (by omega)]
theorem two_same (op w a b : Int) (ho : bin op = true) (ha : isVal w a = true) (hb : isVal w b = true) : mskd w (reck op w a b) = mskd w (two op w a b) := by
  unfold bin inR at ho
  simp only [Bool.and_eq_true, decide_eq_true_eq] at ho
  by_cases h3 : op = 3
  · subst h3
    show mskd w (wrap64 (a * b)) = mskd w (wrap64 (sgn w a * sgn w b))
    rw [mskd_wrap, mskd_wrap, mskd_mul]
  · congr 1
    unfold reck two
    rw [if_neg h3, if_neg h3]
    by_cases hs : 11 ≤ op ∧ op ≤ 13
    · rw [sh_same op w a b hs ha hb]
    · have : op = 1 ∨ op = 2 ∨ op = 4 ∨ op = 5 ∨ op = 6 ∨ op = 7 ∨ op = 8 ∨ op = 9 ∨ op = 10 ∨ op = 14 ∨ op = 15 ∨ op = 16 ∨ op = 17 := by omega
      rcases this with rfl | rfl | rfl | rfl | rfl | rfl | rfl | rfl | rfl | rfl | rfl | rfl | rfl <;> rfl
def binV (op w a b : Int) : Int × Int :=
  if !(bin op && isVal w a && isVal w b) then (0, 2)
  else if inR op 4 7 && b == 0 then (0, 1)
  else (mskd w (two op w a b), 0)
def castV (op f t v : Int) : Int × Bool :=
  if !(isVal f v && widthOk t) then (0, false)
  else if op == 18 && decide (f < t) then (v, true)
  else if op == 19 && decide (f < t) then (mskd t (sgn f v), true)
  else if op == 20 && decide (t < f) then (mskd t v, true)
  else (0, false)
set_option maxHeartbeats 1000000 in
theorem c_Binary (op w a b : Int) (W : World) : Calls Tryz.prog 139 #[.int .i64 op, .int .i64 w, .int .i64 a, .int .i64 b] W (Same (.tuple #[.int .i64 (binV op w a b).1, .int .i64 (binV op w a b).2]) W) := by
  have h1 := fun W => c_isBinary op W
  have h2 := fun W => c_isValue w a W
  have h3 := fun W => c_isValue w b W
  have h4 := fun W => c_isDivision op W
  have h5 := fun ho ha hb hd W => c_reckoned op w a b W ho ha hb hd
  have h6 := fun W => c_Masked w (reck op w a b) W
  have hsame := fun ho ha hb => two_same op w a b ho ha hb
  cases ho : bin op
  · have hR : binV op w a b = (0, 2) := by unfold binV; rw [ho]; rfl
    rw [ho] at h1; rw [hR]
    clear h2 h3 h4 h5 h6 ho hR hsame
    go_enter Tryz.func139, Tryz.ntmps139
    go_wp2_with fail
    refine (h1 _).mono ?_; rintro e w1 ⟨rfl, rfl⟩
    go_wp2
    go_ret2
    exact ⟨rfl, rfl⟩
  cases ha : isVal w a
  · have hR : binV op w a b = (0, 2) := by unfold binV; rw [ho, ha]; rfl
    rw [ho] at h1; rw [ha] at h2; rw [hR]
    clear h3 h4 h5 h6 ho ha hR hsame
    go_enter Tryz.func139, Tryz.ntmps139
    go_wp2_with fail
    refine (h1 _).mono ?_; rintro e w1 ⟨rfl, rfl⟩
    go_wp2_with fail
    refine (h2 _).mono ?_; rintro e w1 ⟨rfl, rfl⟩
    go_wp2
    go_ret2
    exact ⟨rfl, rfl⟩
  cases hb : isVal w b
  · have hR : binV op w a b = (0, 2) := by unfold binV; rw [ho, ha, hb]; rfl
    rw [ho] at h1; rw [ha] at h2; rw [hb] at h3; rw [hR]
    clear h4 h5 h6 ho ha hb hR hsame
    go_enter Tryz.func139, Tryz.ntmps139
    go_wp2_with fail
    refine (h1 _).mono ?_; rintro e w1 ⟨rfl, rfl⟩
    go_wp2_with fail
    refine (h2 _).mono ?_; rintro e w1 ⟨rfl, rfl⟩
    go_wp2_with fail
    refine (h3 _).mono ?_; rintro e w1 ⟨rfl, rfl⟩
    go_wp2
    go_ret2
    exact ⟨rfl, rfl⟩
  rw [ho] at h1; rw [ha] at h2; rw [hb] at h3
  obtain ⟨-, b2, -, -⟩ := val_rng hb
  cases hd : inR op 4 7
  · have hR : binV op w a b = (mskd w (two op w a b), 0) := by unfold binV; rw [ho, ha, hb, hd]; rfl
    have h5' := fun W => h5 ho ha hb (fun h => by rw [hd] at h; cases h) W
    rw [hd] at h4; rw [hR]
    rw [← hsame ho ha hb]
    clear h5 ho ha hb hd hR hsame
    generalize reck op w a b = r at *
    go_enter Tryz.func139, Tryz.ntmps139
    go_wp2_with fail
    refine (h1 _).mono ?_; rintro e w1 ⟨rfl, rfl⟩
    go_wp2_with fail
    refine (h2 _).mono ?_; rintro e w1 ⟨rfl, rfl⟩
    go_wp2_with fail
    refine (h3 _).mono ?_; rintro e w1 ⟨rfl, rfl⟩
    go_wp2_with fail
    refine (h4 _).mono ?_; rintro e w1 ⟨rfl, rfl⟩
    go_wp2_with fail
    refine (h5' _).mono ?_; rintro e w1 ⟨rfl, rfl⟩
    go_wp2_with fail
    refine (h6 _).mono ?_; rintro e w1 ⟨rfl, rfl⟩
    go_wp2
    go_ret2
    exact ⟨rfl, rfl⟩
  · by_cases h0 : b = 0
    · subst h0
      have hR : binV op w a 0 = (0, 1) := by unfold binV; rw [ho, ha, hb, hd]; rfl
      rw [hd] at h4; rw [hR]
      clear h5 h6 ho ha hb hd hR hsame
      go_enter Tryz.func139, Tryz.ntmps139
      go_wp2_with fail
      refine (h1 _).mono ?_; rintro e w1 ⟨rfl, rfl⟩
      go_wp2_with fail
      refine (h2 _).mono ?_; rintro e w1 ⟨rfl, rfl⟩
      go_wp2_with fail
      refine (h3 _).mono ?_; rintro e w1 ⟨rfl, rfl⟩
      go_wp2_with fail
      refine (h4 _).mono ?_; rintro e w1 ⟨rfl, rfl⟩
      go_wp2
      go_ret2
      exact ⟨rfl, rfl⟩
    · have hR : binV op w a b = (mskd w (two op w a b), 0) := by unfold binV; rw [ho, ha, hb, hd, beqF h0]; rfl
      have h5' := fun W => h5 ho ha hb (fun _ => h0) W
      have t0 := beqF h0
      rw [hd] at h4; rw [hR]
      rw [← hsame ho ha hb]
      clear h5 ho ha hb hd hR h0 hsame
      generalize reck op w a b = r at *
      go_enter Tryz.func139, Tryz.ntmps139
      go_wp2_with fail
      refine (h1 _).mono ?_; rintro e w1 ⟨rfl, rfl⟩
      go_wp2_with fail
      refine (h2 _).mono ?_; rintro e w1 ⟨rfl, rfl⟩
      go_wp2_with fail
      refine (h3 _).mono ?_; rintro e w1 ⟨rfl, rfl⟩
      go_wp2_with fail
      refine (h4 _).mono ?_; rintro e w1 ⟨rfl, rfl⟩
      go_wp2_with fail
      refine (h5' _).mono ?_; rintro e w1 ⟨rfl, rfl⟩
      go_wp2_with fail
      refine (h6 _).mono ?_; rintro e w1 ⟨rfl, rfl⟩
      go_wp2
      go_ret2
      exact ⟨rfl, rfl⟩
set_option maxHeartbeats 1000000 in
theorem s_Binary (op w a b : Int) (W : World) : Calls Tryz.prog 154 #[.int .i64 op, .int .i64 w, .int .i64 a, .int .i64 b] W (Same (.tuple #[.int .i64 (binV op w a b).1, .int .i64 (binV op w a b).2]) W) := by
  have h1 := fun W => s_l1In op 1 17 W
  change ∀ W, Calls Tryz.prog 47 #[.int .i64 op, .int .i64 1, .int .i64 17] W (Same (.bool (bin op)) W) at h1
  have h2 := fun W => s_l1Value w a W
  have h3 := fun W => s_l1Value w b W
  have h4 := fun W => s_l1Divides op W
  have h5 := fun ho ha hb hd W => s_l1Two op w a b W ho ha hb hd
  have h6 := fun W => s_Masked w (two op w a b) W
  cases ho : bin op
  · have hR : binV op w a b = (0, 2) := by unfold binV; rw [ho]; rfl
    rw [ho] at h1; rw [hR]
    clear h2 h3 h4 h5 h6 ho hR
    go_enter Tryz.func154, Tryz.ntmps154
    go_wp2_with fail
    refine (h1 _).mono ?_; rintro e w1 ⟨rfl, rfl⟩
    go_wp2
    go_ret2
    exact ⟨rfl, rfl⟩
  cases ha : isVal w a
  · have hR : binV op w a b = (0, 2) := by unfold binV; rw [ho, ha]; rfl
    rw [ho] at h1; rw [ha] at h2; rw [hR]
    clear h3 h4 h5 h6 ho ha hR
    go_enter Tryz.func154, Tryz.ntmps154
    go_wp2_with fail
    refine (h1 _).mono ?_; rintro e w1 ⟨rfl, rfl⟩
    go_wp2_with fail
    refine (h2 _).mono ?_; rintro e w1 ⟨rfl, rfl⟩
    go_wp2
    go_ret2
    exact ⟨rfl, rfl⟩
  cases hb : isVal w b
  · have hR : binV op w a b = (0, 2) := by unfold binV; rw [ho, ha, hb]; rfl
    rw [ho] at h1; rw [ha] at h2; rw [hb] at h3; rw [hR]
    clear h4 h5 h6 ho ha hb hR
    go_enter Tryz.func154, Tryz.ntmps154
    go_wp2_with fail
    refine (h1 _).mono ?_; rintro e w1 ⟨rfl, rfl⟩
    go_wp2_with fail
    refine (h2 _).mono ?_; rintro e w1 ⟨rfl, rfl⟩
    go_wp2_with fail
    refine (h3 _).mono ?_; rintro e w1 ⟨rfl, rfl⟩
    go_wp2
    go_ret2
    exact ⟨rfl, rfl⟩
  rw [ho] at h1; rw [ha] at h2; rw [hb] at h3
  obtain ⟨-, b2, -, -⟩ := val_rng hb
  cases hd : inR op 4 7
  · have hR : binV op w a b = (mskd w (two op w a b), 0) := by unfold binV; rw [ho, ha, hb, hd]; rfl
    have h5' := fun W => h5 ho ha hb (fun h => by rw [hd] at h; cases h) W
    rw [hd] at h4; rw [hR]
    skip
    clear h5 ho ha hb hd hR
    generalize two op w a b = r at *
    go_enter Tryz.func154, Tryz.ntmps154
    go_wp2_with fail
    refine (h1 _).mono ?_; rintro e w1 ⟨rfl, rfl⟩
    go_wp2_with fail
    refine (h2 _).mono ?_; rintro e w1 ⟨rfl, rfl⟩
    go_wp2_with fail
    refine (h3 _).mono ?_; rintro e w1 ⟨rfl, rfl⟩
    go_wp2_with fail
    refine (h4 _).mono ?_; rintro e w1 ⟨rfl, rfl⟩
    go_wp2_with fail
    refine (h5' _).mono ?_; rintro e w1 ⟨rfl, rfl⟩
    go_wp2_with fail
    refine (h6 _).mono ?_; rintro e w1 ⟨rfl, rfl⟩
    go_wp2
    go_ret2
    exact ⟨rfl, rfl⟩
  · by_cases h0 : b = 0
    · subst h0
      have hR : binV op w a 0 = (0, 1) := by unfold binV; rw [ho, ha, hb, hd]; rfl
      rw [hd] at h4; rw [hR]
      clear h5 h6 ho ha hb hd hR
      go_enter Tryz.func154, Tryz.ntmps154
      go_wp2_with fail
      refine (h1 _).mono ?_; rintro e w1 ⟨rfl, rfl⟩
      go_wp2_with fail
      refine (h2 _).mono ?_; rintro e w1 ⟨rfl, rfl⟩
      go_wp2_with fail
      refine (h3 _).mono ?_; rintro e w1 ⟨rfl, rfl⟩
      go_wp2_with fail
      refine (h4 _).mono ?_; rintro e w1 ⟨rfl, rfl⟩
      go_wp2
      go_ret2
      exact ⟨rfl, rfl⟩
    · have hR : binV op w a b = (mskd w (two op w a b), 0) := by unfold binV; rw [ho, ha, hb, hd, beqF h0]; rfl
      have h5' := fun W => h5 ho ha hb (fun _ => h0) W
      have t0 := beqF h0
      rw [hd] at h4; rw [hR]
      skip
      clear h5 ho ha hb hd hR h0
      generalize two op w a b = r at *
      go_enter Tryz.func154, Tryz.ntmps154
      go_wp2_with fail
      refine (h1 _).mono ?_; rintro e w1 ⟨rfl, rfl⟩
      go_wp2_with fail
      refine (h2 _).mono ?_; rintro e w1 ⟨rfl, rfl⟩
      go_wp2_with fail
      refine (h3 _).mono ?_; rintro e w1 ⟨rfl, rfl⟩
      go_wp2_with fail
      refine (h4 _).mono ?_; rintro e w1 ⟨rfl, rfl⟩
      go_wp2_with fail
      refine (h5' _).mono ?_; rintro e w1 ⟨rfl, rfl⟩
      go_wp2_with fail
      refine (h6 _).mono ?_; rintro e w1 ⟨rfl, rfl⟩
      go_wp2
      go_ret2
      exact ⟨rfl, rfl⟩
set_option maxHeartbeats 1000000 in
theorem c_Casted (op f t v : Int) (W : World) : Calls Tryz.prog 141 #[.int .i64 op, .int .i64 f, .int .i64 t, .int .i64 v] W (Same (.tuple #[.int .i64 (castV op f t v).1, .bool (castV op f t v).2]) W) := by
  have h1 := fun W => c_isValue f v W
  have h2 := fun W => c_WidthOk t W
  have h3 := fun h W => c_signOf f v W h
  have h4 := fun W => c_Masked t (sgn f v) W
  have h5 := fun W => c_Masked t v W
  cases ha : isVal f v
  · have hR : castV op f t v = (0, false) := by unfold castV; rw [ha]; rfl
    rw [ha] at h1; rw [hR]
    clear h2 h3 h4 h5 ha hR
    go_enter Tryz.func141, Tryz.ntmps141
    go_wp2_with fail
    refine (h1 _).mono ?_; rintro e w1 ⟨rfl, rfl⟩
    go_wp2
    go_ret2
    exact ⟨rfl, rfl⟩
  cases hw : widthOk t
  · have hR : castV op f t v = (0, false) := by unfold castV; rw [ha, hw]; rfl
    rw [ha] at h1; rw [hw] at h2; rw [hR]
    clear h3 h4 h5 ha hw hR
    go_enter Tryz.func141, Tryz.ntmps141
    go_wp2_with fail
    refine (h1 _).mono ?_; rintro e w1 ⟨rfl, rfl⟩
    go_wp2_with fail
    refine (h2 _).mono ?_; rintro e w1 ⟨rfl, rfl⟩
    go_wp2
    go_ret2
    exact ⟨rfl, rfl⟩
  have hR : castV op f t v = (if op == 18 && decide (f < t) then (v, true) else if op == 19 && decide (f < t) then (mskd t (sgn f v), true) else if op == 20 && decide (t < f) then (mskd t v, true) else (0, false)) := by unfold castV; rw [ha, hw]; rfl
  have h3' := fun W => h3 ha W
  rw [ha] at h1; rw [hw] at h2; rw [hR]
  clear h3 ha hw hR
  generalize mskd t (sgn f v) = x at *
  generalize mskd t v = y at *
  generalize sgn f v = z at *
  by_cases l1 : f < t
  · have d1 : decide (f < t) = true := by simpa using l1
    have d2 : decide (t < f) = false := by simp; omega
    rw [d1, d2]
    by_cases o1 : op = 18
    · subst o1
      go_enter Tryz.func141, Tryz.ntmps141
      go_wp2_with fail
      refine (h1 _).mono ?_; rintro e w1 ⟨rfl, rfl⟩
      go_wp2_with fail
      refine (h2 _).mono ?_; rintro e w1 ⟨rfl, rfl⟩
      go_wp2
      go_ret2
      exact ⟨rfl, rfl⟩
    · have t1 := beqF o1
      by_cases o2 : op = 19
      · subst o2
        go_enter Tryz.func141, Tryz.ntmps141
        go_wp2_with fail
        refine (h1 _).mono ?_; rintro e w1 ⟨rfl, rfl⟩
        go_wp2_with fail
        refine (h2 _).mono ?_; rintro e w1 ⟨rfl, rfl⟩
        go_wp2_with fail
        refine (h3' _).mono ?_; rintro e w1 ⟨rfl, rfl⟩
        go_wp2_with fail
        refine (h4 _).mono ?_; rintro e w1 ⟨rfl, rfl⟩
        go_wp2
        go_ret2
        exact ⟨rfl, rfl⟩
      · have t2 := beqF o2
        rw [t1, t2, Bool.and_false]
        by_cases o3 : op = 20
        · subst o3
          go_enter Tryz.func141, Tryz.ntmps141
          go_wp2_with fail
          refine (h1 _).mono ?_; rintro e w1 ⟨rfl, rfl⟩
          go_wp2_with fail
          refine (h2 _).mono ?_; rintro e w1 ⟨rfl, rfl⟩
          go_wp2
          go_ret2
          exact ⟨rfl, rfl⟩
        · have t3 := beqF o3
          go_enter Tryz.func141, Tryz.ntmps141
          go_wp2_with fail
          refine (h1 _).mono ?_; rintro e w1 ⟨rfl, rfl⟩
          go_wp2_with fail
          refine (h2 _).mono ?_; rintro e w1 ⟨rfl, rfl⟩
          go_wp2
          go_ret2
          exact ⟨rfl, rfl⟩
  · have d1 : decide (f < t) = false := by simpa using l1
    rw [d1, Bool.and_false, Bool.and_false]
    by_cases o3 : op = 20
    · subst o3
      by_cases l2 : t < f
      · have d2 : decide (t < f) = true := by simpa using l2
        rw [d2]
        go_enter Tryz.func141, Tryz.ntmps141
        go_wp2_with fail
        refine (h1 _).mono ?_; rintro e w1 ⟨rfl, rfl⟩
        go_wp2_with fail
        refine (h2 _).mono ?_; rintro e w1 ⟨rfl, rfl⟩
        go_wp2_with fail
        refine (h5 _).mono ?_; rintro e w1 ⟨rfl, rfl⟩
        go_wp2
        go_ret2
        exact ⟨rfl, rfl⟩
      · have d2 : decide (t < f) = false := by simpa using l2
        rw [d2]
        go_enter Tryz.func141, Tryz.ntmps141
        go_wp2_with fail
        refine (h1 _).mono ?_; rintro e w1 ⟨rfl, rfl⟩
        go_wp2_with fail
        refine (h2 _).mono ?_; rintro e w1 ⟨rfl, rfl⟩
        go_wp2
        go_ret2
        exact ⟨rfl, rfl⟩
    · have t3 := beqF o3
      rw [t3, Bool.false_and]
      by_cases o1 : op = 18
      · subst o1
        go_enter Tryz.func141, Tryz.ntmps141
        go_wp2_with fail
        refine (h1 _).mono ?_; rintro e w1 ⟨rfl, rfl⟩
        go_wp2_with fail
        refine (h2 _).mono ?_; rintro e w1 ⟨rfl, rfl⟩
        go_wp2
        go_ret2
        exact ⟨rfl, rfl⟩
      · have t1 := beqF o1
        by_cases o2 : op = 19
        · subst o2
          go_enter Tryz.func141, Tryz.ntmps141
          go_wp2_with fail
          refine (h1 _).mono ?_; rintro e w1 ⟨rfl, rfl⟩
          go_wp2_with fail
          refine (h2 _).mono ?_; rintro e w1 ⟨rfl, rfl⟩
          go_wp2
          go_ret2
          exact ⟨rfl, rfl⟩
        · have t2 := beqF o2
          go_enter Tryz.func141, Tryz.ntmps141
          go_wp2_with fail
          refine (h1 _).mono ?_; rintro e w1 ⟨rfl, rfl⟩
          go_wp2_with fail
          refine (h2 _).mono ?_; rintro e w1 ⟨rfl, rfl⟩
          go_wp2
          go_ret2
          exact ⟨rfl, rfl⟩
set_option maxHeartbeats 1000000 in
theorem s_Casted (op f t v : Int) (W : World) : Calls Tryz.prog 155 #[.int .i64 op, .int .i64 f, .int .i64 t, .int .i64 v] W (Same (.tuple #[.int .i64 (castV op f t v).1, .bool (castV op f t v).2]) W) := by
  have h1 := fun W => s_l1Value f v W
  have h2 := fun W => s_WidthOk t W
  have h3 := fun h W => s_l1Sign f v W h
  have h4 := fun W => s_Masked t (sgn f v) W
  have h5 := fun W => s_Masked t v W
  cases ha : isVal f v
  · have hR : castV op f t v = (0, false) := by unfold castV; rw [ha]; rfl
    rw [ha] at h1; rw [hR]
    clear h2 h3 h4 h5 ha hR
    go_enter Tryz.func155, Tryz.ntmps155
    go_wp2_with fail
    refine (h1 _).mono ?_; rintro e w1 ⟨rfl, rfl⟩
    go_wp2
    go_ret2
    exact ⟨rfl, rfl⟩
  cases hw : widthOk t
  · have hR : castV op f t v = (0, false) := by unfold castV; rw [ha, hw]; rfl
    rw [ha] at h1; rw [hw] at h2; rw [hR]
    clear h3 h4 h5 ha hw hR
    go_enter Tryz.func155, Tryz.ntmps155
    go_wp2_with fail
    refine (h1 _).mono ?_; rintro e w1 ⟨rfl, rfl⟩
    go_wp2_with fail
    refine (h2 _).mono ?_; rintro e w1 ⟨rfl, rfl⟩
    go_wp2
    go_ret2
    exact ⟨rfl, rfl⟩
  have hR : castV op f t v = (if op == 18 && decide (f < t) then (v, true) else if op == 19 && decide (f < t) then (mskd t (sgn f v), true) else if op == 20 && decide (t < f) then (mskd t v, true) else (0, false)) := by unfold castV; rw [ha, hw]; rfl
  have h3' := fun W => h3 ha W
  rw [ha] at h1; rw [hw] at h2; rw [hR]
  clear h3 ha hw hR
  generalize mskd t (sgn f v) = x at *
  generalize mskd t v = y at *
  generalize sgn f v = z at *
  by_cases l1 : f < t
  · have d1 : decide (f < t) = true := by simpa using l1
    have d2 : decide (t < f) = false := by simp; omega
    rw [d1, d2]
    by_cases o1 : op = 18
    · subst o1
      go_enter Tryz.func155, Tryz.ntmps155
      go_wp2_with fail
      refine (h1 _).mono ?_; rintro e w1 ⟨rfl, rfl⟩
      go_wp2_with fail
      refine (h2 _).mono ?_; rintro e w1 ⟨rfl, rfl⟩
      go_wp2
      go_ret2
      exact ⟨rfl, rfl⟩
    · have t1 := beqF o1
      by_cases o2 : op = 19
      · subst o2
        go_enter Tryz.func155, Tryz.ntmps155
        go_wp2_with fail
        refine (h1 _).mono ?_; rintro e w1 ⟨rfl, rfl⟩
        go_wp2_with fail
        refine (h2 _).mono ?_; rintro e w1 ⟨rfl, rfl⟩
        go_wp2_with fail
        refine (h3' _).mono ?_; rintro e w1 ⟨rfl, rfl⟩
        go_wp2_with fail
        refine (h4 _).mono ?_; rintro e w1 ⟨rfl, rfl⟩
        go_wp2
        go_ret2
        exact ⟨rfl, rfl⟩
      · have t2 := beqF o2
        rw [t1, t2, Bool.and_false]
        by_cases o3 : op = 20
        · subst o3
          go_enter Tryz.func155, Tryz.ntmps155
          go_wp2_with fail
          refine (h1 _).mono ?_; rintro e w1 ⟨rfl, rfl⟩
          go_wp2_with fail
          refine (h2 _).mono ?_; rintro e w1 ⟨rfl, rfl⟩
          go_wp2
          go_ret2
          exact ⟨rfl, rfl⟩
        · have t3 := beqF o3
          go_enter Tryz.func155, Tryz.ntmps155
          go_wp2_with fail
          refine (h1 _).mono ?_; rintro e w1 ⟨rfl, rfl⟩
          go_wp2_with fail
          refine (h2 _).mono ?_; rintro e w1 ⟨rfl, rfl⟩
          go_wp2
          go_ret2
          exact ⟨rfl, rfl⟩
  · have d1 : decide (f < t) = false := by simpa using l1
    rw [d1, Bool.and_false, Bool.and_false]
    by_cases o3 : op = 20
    · subst o3
      by_cases l2 : t < f
      · have d2 : decide (t < f) = true := by simpa using l2
        rw [d2]
        go_enter Tryz.func155, Tryz.ntmps155
        go_wp2_with fail
        refine (h1 _).mono ?_; rintro e w1 ⟨rfl, rfl⟩
        go_wp2_with fail
        refine (h2 _).mono ?_; rintro e w1 ⟨rfl, rfl⟩
        go_wp2_with fail
        refine (h5 _).mono ?_; rintro e w1 ⟨rfl, rfl⟩
        go_wp2
        go_ret2
        exact ⟨rfl, rfl⟩
      · have d2 : decide (t < f) = false := by simpa using l2
        rw [d2]
        go_enter Tryz.func155, Tryz.ntmps155
        go_wp2_with fail
        refine (h1 _).mono ?_; rintro e w1 ⟨rfl, rfl⟩
        go_wp2_with fail
        refine (h2 _).mono ?_; rintro e w1 ⟨rfl, rfl⟩
        go_wp2
        go_ret2
        exact ⟨rfl, rfl⟩
    · have t3 := beqF o3
      rw [t3, Bool.false_and]
      by_cases o1 : op = 18
      · subst o1
        go_enter Tryz.func155, Tryz.ntmps155
        go_wp2_with fail
        refine (h1 _).mono ?_; rintro e w1 ⟨rfl, rfl⟩
        go_wp2_with fail
        refine (h2 _).mono ?_; rintro e w1 ⟨rfl, rfl⟩
        go_wp2
        go_ret2
        exact ⟨rfl, rfl⟩
      · have t1 := beqF o1
        by_cases o2 : op = 19
        · subst o2
          go_enter Tryz.func155, Tryz.ntmps155
          go_wp2_with fail
          refine (h1 _).mono ?_; rintro e w1 ⟨rfl, rfl⟩
          go_wp2_with fail
          refine (h2 _).mono ?_; rintro e w1 ⟨rfl, rfl⟩
          go_wp2
          go_ret2
          exact ⟨rfl, rfl⟩
        · have t2 := beqF o2
          go_enter Tryz.func155, Tryz.ntmps155
          go_wp2_with fail
          refine (h1 _).mono ?_; rintro e w1 ⟨rfl, rfl⟩
          go_wp2_with fail
          refine (h2 _).mono ?_; rintro e w1 ⟨rfl, rfl⟩
          go_wp2
          go_ret2
          exact ⟨rfl, rfl⟩
theorem all_drop {α : Type} (f : α → Bool) (l : List α) (k : Nat) (h : k < l.length) : (l.drop k).all f = (f l[k] && (l.drop (k + 1)).all f) := by rw [List.drop_eq_getElem_cons h, List.all_cons]
def bytesOf (s : ByteArray) : List Int := s.data.toList.map fun b => (b.toNat : Int)
theorem bytesOf_len (s : ByteArray) : (bytesOf s).length = s.size := by simp [bytesOf]
theorem quietS {P : Program} {f : FuncId} {args : Array Value} {w : World} {n : Nat} {v : Value} (h : Calls P f args (w.drewN n) (Same v (w.drewN n))) : Calls P f args (w.drewN n) fun e w'' => e = .returned v ∧ ∃ m, w'' = w.drewN m :=
  h.mono fun _ _ ⟨he, hm⟩ => ⟨he, n, hm.symm⟩
theorem quietS' {P : Program} {f : FuncId} {args : Array Value} {w : World} {n : Nat} {v : Value} (h : Calls P f args (w.drewN n) (Same v (w.drewN n))) : Calls P f args (w.drewN n) fun e w'' => e = .returned v ∧ ∃ m, w'' = w.drewN m :=
  h.mono fun _ _ ⟨he, hm⟩ => ⟨he, n, hm.symm⟩
theorem drewN_below {B : Nat} {w W : World} (h : Below B w W) (n : Nat) : Below B w (W.drewN n) := ⟨h.os, h.tape, h.output, h.size, h.block⟩
theorem mskd_rng (w n : Int) : 0 ≤ mskd w n ∧ mskd w n ≤ 4294967295 := by
  unfold mskd
  cases h : widthOk w
  · rw [if_neg (by decide)]; exact ⟨by decide, by decide⟩
  · rw [if_pos rfl]
    have hp := pow_bd w h
    have h1 := Int.emod_nonneg n (show (2 : Int) ^ w.toNat ≠ 0 by omega)
    have h2 := Int.emod_lt_of_pos n (show (0 : Int) < 2 ^ w.toNat by omega)
    omega
theorem bin_rng (op w a b : Int) : 0 ≤ (binV op w a b).1 ∧ (binV op w a b).1 ≤ 4294967295 := by
  unfold binV
  split
  · exact ⟨by decide, by decide⟩
  · split
    · exact ⟨by decide, by decide⟩
    · exact mskd_rng _ _
theorem cast_rng (op f t v : Int) (h : 0 ≤ v ∧ v ≤ 4294967295) : 0 ≤ (castV op f t v).1 ∧ (castV op f t v).1 ≤ 4294967295 := by
  unfold castV
  split
  · exact ⟨by decide, by decide⟩
  split
  · exact h
  split
  · exact mskd_rng _ _
  split
  · exact mskd_rng _ _
  · exact ⟨by decide, by decide⟩
def ByR (W : World) (g : Nat) (mem : List Int) : Prop := ∃ arr k, W.heap[g]? = some (.cells arr 5 (k, k + 1)) ∧ mem.length ≤ k ∧ mem.length ≤ arr.size ∧ ∀ i (h : i < mem.length), arr[i]? = some (.int .u8 mem[i])
theorem ByR.cell {W : World} {g : Nat} {mem : List Int} (h : ByR W g mem) (i : Nat) (hi : i < mem.length) : W.cell? ⟨g, i, none⟩ = some (.int .u8 mem[i]) ∧ W.frozen? ⟨g, i, none⟩ = false := by
  obtain ⟨arr, k, h1, h2, h3, h4⟩ := h
  constructor
  · unfold World.cell?
    simp only [h1, Option.isSome_none, Bool.false_eq_true, if_false]
    exact h4 i hi
  · unfold World.frozen?
    simp only [h1]
    have : ¬ k ≤ i := by omega
    simp [this]
theorem ByR.mv {W W' : World} {g : Nat} {mem : List Int} (h : ByR W g mem) (he : W'.heap[g]? = W.heap[g]?) : ByR W' g mem := by
  obtain ⟨arr, k, h1, h2⟩ := h; exact ⟨arr, k, he.trans h1, h2⟩
theorem ByR.lt {W : World} {g : Nat} {mem : List Int} (h : ByR W g mem) : g < W.heap.size := by
  obtain ⟨arr, k, h1, h2⟩ := h; exact (Array.getElem?_eq_some_iff.1 h1).1
theorem ByR.set {W : World} {g : Nat} {mem : List Int} (h : ByR W g mem) (i : Nat) (v : Int) : ByR (W.setCell ⟨g, i, none⟩ (.int .u8 v)) g (mem.set i v) := by
  obtain ⟨arr, k, h1, h2, h3, h4⟩ := h
  refine ⟨arr.setIfInBounds i (.int .u8 v), k, ?_, by simpa using h2, by simpa using h3, fun j hj => ?_⟩
  · have hlt := (Array.getElem?_eq_some_iff.1 h1).1
    have hx := (Array.getElem?_eq_some_iff.1 h1).2
    unfold World.setCell
    simp only [Array.getElem?_modify]
    rw [h1]
    simp
  · have hj' : j < mem.length := by simpa using hj
    rw [Array.getElem?_setIfInBounds]
    simp only [List.getElem_set]
    by_cases e : i = j
    · subst e
      rw [if_pos rfl, if_pos (by omega), if_pos rfl]
    · rw [if_neg e, if_neg e]; exact h4 j hj'
theorem own_far {W : World} {lo2 b j e n : Nat} {v u : Value} {cs : List Value} (h : W.ownsRow lo2 e 1 v n cs) (hb : b < lo2) : (W.setCell ⟨b, j, none⟩ u).ownsRow lo2 e 1 v n cs := by
  refine ⟨h.1, ?_⟩
  rcases h.2 with h' | ⟨g', cap, cur, hv, hl, hx, h''⟩
  · exact .inl h'
  · exact .inr ⟨g', cap, cur, hv, hl, heap_off hx (by omega), h''⟩
theorem setCell_size (W : World) (a : Addr) (u : Value) : (W.setCell a u).heap.size = W.heap.size := by simp [World.setCell]
theorem step_app_I {ops : Array Oper} {o : Oper} {a : Act} {W : World} {K : Act → World → Prop} {Q : Exit → Act → World → Prop} {E : Prop} (hgd : o.guard = none) (s x : Operand)
    (ho : o.op = .call { callee := .builtin .append, args := #[s, x], argTypes := #[24, 24] }) (base : Nat) (v : Value) (xs ys : List Int) (hs : a.eval s = v)
    (hown : W.ownsRow base 2 1 v xs.length (xs.map (Value.int .i64))) (ad : Addr) (n c : Nat) (hx : a.eval x = .slice (some ad) n c) (hr : RI lm W (.slice (some ad) n c) ys) (hl : xs.length ≤ 1099511627776) (hb : base ≤ W.heap.size)
    (hK : ∀ v' w', w'.ownsRow base 2 1 v' (xs ++ ys).length ((xs ++ ys).map (Value.int .i64)) → W.grownBy w' v.ownBlock → K (a.put o.dst v') w') :
    if Region.wanted o (yielded ops a.tmps) = true then Oper.wp Tryz.prog o a W K Q else E := by
  have hw : Region.wanted o (yielded ops a.tmps) = true := by simp [Region.wanted, hgd]
  rw [if_pos hw]
  obtain ⟨i0, hi, hz0, hz1, hz2⟩ := info_parts infoI
  obtain ⟨rfl, hle, hn, hsrc⟩ := hr.src
  obtain ⟨v', w', hrun, r1, r2, _⟩ := run_append_own (P := Tryz.prog) W base 24 o.type 2 i0 (.int .i64 0) 1 8 Tryz.underlying24 hi hz0 hz1 hz2 rfl (by decide) v xs.length _ hown ad ys.length c (ys.map (Value.int .i64)) (by simp) (hsrc ad rfl) (by simp [Value.oneCell']) (by unfold maxLen; omega) (by omega) hb
  unfold Oper.wp
  simp [execOp, ho, resolve, invoke, builtin, hs, hx, hrun, Result.andThen]
  exact hK v' w' (by simpa using r1) r2
theorem bytesOf_rng (s : ByteArray) : ∀ i (h : i < (bytesOf s).length), 0 ≤ (bytesOf s)[i] ∧ (bytesOf s)[i] ≤ 255 := fun i h => by
  have hm : (bytesOf s)[i] ∈ bytesOf s := List.getElem_mem h
  obtain ⟨b, -, hb⟩ := List.mem_map.1 hm
  have := b.toNat_lt
  omega
theorem conv_byr (W : World) (u : ByteArray) : ∃ c W1, (convert 9 22 (.string u)).run Tryz.prog W = .ok (.slice (some ⟨W.heap.size, 0, none⟩) u.size c) W1 ∧ ByR W1 W.heap.size (bytesOf u) ∧ Below W.heap.size W W1 ∧ W1.heap.size = W.heap.size + 1 := by
  refine ⟨_, _, Lib.run_convert_string_bytes (P := Tryz.prog) W 9 22 5 u Tryz.underlying9 Tryz.underlying22 Tryz.underlying5, ?_, ?_, Lib.bytesWorld_size W _ u⟩
  · have hn := Lib.bytesWorld_at_new W 5 u
    have hl := bytesOf_len u
    have hs : u.size ≤ (Lib.bytesCells W 5 u).size := by
      have : u.data.size = u.size := rfl
      simp [Lib.bytesCells]
    refine ⟨_, _, hn, by omega, by omega, fun i hi => ?_⟩
    have hid : i < u.data.toList.length := by rw [hl] at hi; simpa using hi
    have hid' : i < u.data.size := by simpa using hid
    simp only [Lib.bytesCells, bytesOf, List.getElem_map]
    rw [Array.getElem?_append_left (by simpa using hid')]
    simp [Array.getElem?_eq_getElem hid']
  · exact ⟨rfl, rfl, rfl, by rw [Lib.bytesWorld_size]; omega, fun k hk => Lib.bytesWorld_at_old W _ u k hk⟩
theorem wp_via {P : Program} {c : Code} {Q : Exit → Act → World → Prop} {a : Act} {w : World} (R : Act → Act → World → Prop) (h1 : c.wp P (Exit.then (R a) fun _ _ _ => False) a w) (h2 : ∀ a' W, R a a' W → Q .normal a' W) : c.wp P Q a w :=
  Code.wp_mono (fun e a' W h => by
    cases e with
    | normal => exact h2 _ _ h
    | _ => exact (h : False).elim) h1
theorem madeInts (n : Nat) : (madeCells #[.int .i64 0] n).toList = (List.replicate n (0 : Int)).map (Value.int .i64) := by
  rw [List.map_replicate]
  apply List.ext_getElem?
  intro i
  simp only [madeCells]
  by_cases h : i < n
  · simp [h, Nat.mod_one]
  · simp [h]
structure XRes where
  code : Int
  value : Int
  out : List Int
  mem : ByteArray
  steps : Int
  deriving Inhabited
def toBytes (m : List Int) : ByteArray := ⟨(m.map fun n => UInt8.ofNat n.toNat).toArray⟩
def resV (x : XRes) (v : Value) : Value := .agg #[.int .i64 x.code, .int .i64 x.value, v, .string x.mem, .int .i64 x.steps]
def RetRes (x : XRes) (w : World) (e : Ending) (w' : World) : Prop := ∃ v, e = .returned (resV x v) ∧ w'.ownsRow w.heap.size 2 1 v x.out.length (x.out.map (Value.int .i64)) ∧ Below w.heap.size w w'
theorem conv_back (W : World) (g cap : Nat) (m : List Int) (h : ByR W g m) (hr : ∀ i (h : i < m.length), 0 ≤ m[i] ∧ m[i] ≤ 255) (n : Nat) (hn : n = m.length) : (convert 22 9 (.slice (some ⟨g, 0, none⟩) n cap)).run Tryz.prog W = .ok (.string (toBytes m)) W := by
  subst hn
  have := run_convert_bytes_back (P := Tryz.prog) W 22 9 5 ⟨g, 0, none⟩ cap (m.map fun n => UInt8.ofNat n.toNat) Tryz.underlying22 Tryz.underlying5 Tryz.underlying9 (fun j hj => by
    have hj' : j < m.length := by simpa using hj
    have hx := hr j hj'
    have hc := (h.cell j hj').1
    simp only [List.getElem_map]
    have e : ((UInt8.ofNat m[j].toNat).toNat : Int) = m[j] := by
      have : m[j].toNat < 256 := by omega
      rw [UInt8.toNat_ofNat_of_lt' (by simpa using this)]
      omega
    rw [e]
    have ea : (⟨g, 0, none⟩ : Addr).add j = ⟨g, j, none⟩ := by unfold Addr.add; by_cases h0 : j = 0 <;> simp [h0]
    rw [ea]; exact hc)
  have hl : (m.map fun n => UInt8.ofNat n.toNat).length = m.length := by simp
  rw [hl] at this
  exact this
def argsOk (ws xs : List Int) : Bool := ws.length == xs.length && (ws.zip xs).all fun p => isVal p.1 p.2
set_option maxHeartbeats 1000000 in
theorem c_EqualFunc (v u : Value) (ws xs : List Int) (w : World) (hv : RI lm w v ws) (hu : RI lm w u xs) : Calls Tryz.prog 91 #[v, u, .func (.func 92) #[] #[]] w (Ret (.bool (argsOk ws xs)) w) := by
  obtain ⟨A1, c1, rfl, -, l1, r1'⟩ := hv.sm
  obtain ⟨A2, c2, rfl, -, l2, r2'⟩ := hu.sm
  have eg := enters_of Tryz.func92 (by kernel_rfl) rfl
  clear hv hu
  by_cases hl : ws.length = xs.length
  rotate_left
  · have d : ((ws.length : Int) != (xs.length : Int)) = true := by simp; omega
    have hR : argsOk ws xs = false := by
      have : (ws.length == xs.length) = false := by simpa using hl
      unfold argsOk; rw [this]; rfl
    rw [hR]
    clear hR eg
    go_enter Tryz.func91, Tryz.ntmps91
    go_wp2
    go_ret
    exact ⟨rfl, Below.refl _ _⟩
  have d : ((ws.length : Int) != (xs.length : Int)) = false := by simp; omega
  have hm : Hd (argsOk ws xs = (((ws.zip xs).drop 0).all fun p => isVal p.1 p.2)) := ⟨by
    have : (ws.length == xs.length) = true := by simpa using hl
    unfold argsOk; rw [this, List.drop_zero, Bool.true_and]⟩
  generalize argsOk ws xs = R at *
  rw [← hl] at r2' l2 d ⊢
  have hl' := Hd.mk hl
  clear hl
  go_enter Tryz.func91, Tryz.ntmps91
  go_wp2
  go_loopw [17] (fun s17 wr => ∃ k : Nat, k ≤ ws.length ∧ s17 = .int .i64 k ∧ Hd (R = (((ws.zip xs).drop k).all fun p => isVal p.1 p.2)) ∧ wr = w) (fun s17 _ => ws.length - (intOf s17).toNat)
  case atStart => exact ⟨0, Nat.zero_le _, rfl, hm, rfl⟩
  case round =>
    clear hm
    obtain ⟨k, hk, rfl, hm, rfl⟩ := hrel
    by_cases hlt : k < ws.length
    · obtain ⟨b, off, cs, hA, hbl, hk1, hat⟩ := r1'.out.in0 (Below.refl _ _) k hlt
      cases hA
      cases hk1
      have g0 := hat 0 _ rfl
      simp at g0
      clear hat
      obtain ⟨b2, off2, cs, hA, hbl2, hk1, hat⟩ := r2'.out.in0 (Below.refl _ _) k (by have := hl'.out; omega)
      cases hA
      cases hk1
      have g1 := hat 0 _ rfl
      simp at g1
      clear hat
      rw [all_drop _ _ _ (by have := hl'.out; simp; omega)] at hm
      simp only [List.getElem_zip] at hm
      have hv := c_isValue ws[k] (xs[k]'(by have := hl'.out; omega)) wr
      generalize ws[k] = a at *
      generalize xs[k]'(by have := hl'.out; omega) = c at *
      have hlt2 : (k : Int) < (ws.length : Int) := by omega
      cases hq : isVal a c
      · rw [hq] at hv
        replace hm := Hd.mk (show R = false by rw [hm.out, hq]; rfl)
        clear hq
        go_wp2_with fail
        refine hv.mono ?_; rintro e w' ⟨rfl, rfl⟩
        go_wp2
        go_ret
        exact ⟨by rw [hm.out]; rfl, Below.refl _ _⟩
      · rw [hq] at hv
        rw [hq, Bool.true_and] at hm
        clear hq
        go_wp2_with fail
        refine hv.mono ?_; rintro e w' ⟨rfl, rfl⟩
        go_wp2
        go_roundw
        case rel => exact ⟨k + 1, by omega, by go_num, hm, by trivial⟩
        case measure => simp [intOf]; omega
    · have e : k = ws.length := by omega
      subst e
      replace hm := Hd.mk (show R = true by rw [hm.out, List.drop_eq_nil_of_le (by have := hl'.out; simp; omega)]; rfl)
      go_wp2
      go_ret
      exact ⟨by rw [hm.out]; rfl, Below.refl _ _⟩
theorem c_areArgs (v u : Value) (ws xs : List Int) (w : World) (hv : RI lm w v ws) (hu : RI lm w u xs) : Calls Tryz.prog 72 #[v, u] w (Ret (.bool (argsOk ws xs)) w) := by
  have h := c_EqualFunc v u ws xs w hv hu
  clear hv hu
  go_enter Tryz.func72, Tryz.ntmps72
  go_wp2_with fail
  refine h.mono ?_; rintro e w1 ⟨rfl, hb1⟩
  go_wp2
  go_ret
  exact ⟨rfl, hb1⟩
set_option maxHeartbeats 1000000 in
theorem s_l7Args (v u v3 : Value) (ret : Int) (ws xs : List Int) (w : World) (hv : RI lm w v ws) (hu : RI lm w u xs) : Calls Tryz.prog 48 #[.agg #[v, .int .i64 ret, v3], u] w (Ret (.bool (argsOk ws xs)) w) := by
  obtain ⟨A1, c1, rfl, -, l1, r1'⟩ := hv.sm
  obtain ⟨A2, c2, rfl, -, l2, r2'⟩ := hu.sm
  clear hv hu
  have hbl := fun o => (Below.refl w.heap.size w).al (Nat.le_refl _) o
  by_cases hl : ws.length = xs.length
  rotate_left
  · have d : ((xs.length : Int) != (ws.length : Int)) = true := by simp; omega
    have hR : argsOk ws xs = false := by
      have : (ws.length == xs.length) = false := by simpa using hl
      unfold argsOk; rw [this]; rfl
    rw [hR]
    clear hR
    go_enter Tryz.func48, Tryz.ntmps48
    go_wp2
    go_ret
    exact ⟨rfl, by first | exact Below.refl _ _ | exact hbl _⟩
  have d : ((xs.length : Int) != (ws.length : Int)) = false := by simp; omega
  have hm : Hd (argsOk ws xs = (((ws.zip xs).drop 0).all fun p => isVal p.1 p.2)) := ⟨by
    have : (ws.length == xs.length) = true := by simpa using hl
    unfold argsOk; rw [this, List.drop_zero, Bool.true_and]⟩
  generalize argsOk ws xs = R at *
  rw [← hl] at r2' l2 d ⊢
  have hl' := Hd.mk hl
  clear hl
  go_enter Tryz.func48, Tryz.ntmps48
  go_wp2
  have hW0 : ∃ W0 : World, Below w.heap.size w W0 ∧ W0.cell? ⟨w.heap.size, 0, none⟩ = some (.slice A1 ws.length c1) ∧ w.heap.size < W0.heap.size ∧ W0 = w.alloc (.cells #[.slice A1 ws.length c1, .int .i64 ret, v3] 35) := ⟨_, hbl _, by simp, by simp, rfl⟩
  obtain ⟨W0, hb0, k0, hz0, hW0⟩ := hW0
  rw [← hW0]
  have hb0' := Hd.mk hb0
  have k0' := Hd.mk k0
  clear hW0 hb0 k0 hbl
  go_loopw [5] (fun s5 wr => ∃ k : Nat, k ≤ ws.length ∧ s5 = .int .i64 k ∧ Hd (R = (((ws.zip xs).drop k).all fun p => isVal p.1 p.2)) ∧ Hd (Below W0.heap.size W0 wr)) (fun s5 _ => ws.length - (intOf s5).toNat)
  case atStart => exact ⟨0, Nat.zero_le _, rfl, hm, ⟨Below.refl _ _⟩⟩
  case round =>
    clear hm
    obtain ⟨k, hk, rfl, hm, hbr⟩ := hrel
    have a0 := (bat hbr.out w.heap.size (by omega) 0).trans k0'.out
    by_cases hlt : k < ws.length
    · obtain ⟨b, off, cs, hA, hbl, hk1, hat⟩ := r1'.out.in0 (hb0'.out.then hbr.out) k hlt
      cases hA
      cases hk1
      have g0 := hat 0 _ rfl
      simp at g0
      clear hat
      obtain ⟨b2, off2, cs, hA, hbl2, hk1, hat⟩ := r2'.out.in0 (hb0'.out.then hbr.out) k (by have := hl'.out; omega)
      cases hA
      cases hk1
      have g1 := hat 0 _ rfl
      simp at g1
      clear hat
      rw [all_drop _ _ _ (by have := hl'.out; simp; omega)] at hm
      simp only [List.getElem_zip] at hm
      have hv := fun W => s_l1Value ws[k] (xs[k]'(by have := hl'.out; omega)) W
      generalize ws[k] = a at *
      generalize xs[k]'(by have := hl'.out; omega) = c at *
      have hlt2 : (k : Int) < (ws.length : Int) := by omega
      have hlt3 : (k : Int) < (ws.length : Int) := by omega
      have y0 : (0 : Int) ≤ (k : Int) := by omega
      cases hq : isVal a c
      · rw [hq] at hv
        replace hm := Hd.mk (show R = false by rw [hm.out, hq]; rfl)
        clear hq
        go_wp2
        go_quiet ((go_at_call 76; exact quietS (hv _)))
        go_wp2
        go_ret
        exact ⟨by rw [hm.out]; rfl, drewN_below (hb0'.out.then hbr.out) _⟩
      · rw [hq] at hv
        rw [hq, Bool.true_and] at hm
        clear hq
        go_wp2
        go_quiet ((go_at_call 76; exact quietS (hv _)))
        go_wp2
        go_roundw
        case rel => exact ⟨k + 1, by omega, by go_num, hm, ⟨drewN_below hbr.out _⟩⟩
        case measure => simp [intOf]; omega
    · have e : k = ws.length := by omega
      subst e
      replace hm := Hd.mk (show R = true by rw [hm.out, List.drop_eq_nil_of_le (by have := hl'.out; simp; omega)]; rfl)
      go_wp2
      go_ret
      exact ⟨by rw [hm.out]; rfl, hb0'.out.then hbr.out⟩
theorem args_rng {ws xs : List Int} (h : argsOk ws xs = true) : ws.length = xs.length ∧ ∀ x ∈ xs, 0 ≤ x ∧ x ≤ 4294967295 := by
  unfold argsOk at h
  simp only [Bool.and_eq_true, beq_iff_eq, List.all_eq_true] at h
  obtain ⟨hl, h⟩ := h
  refine ⟨hl, fun x hx => ?_⟩
  obtain ⟨i, hi, rfl⟩ := List.getElem_of_mem hx
  have hm : (ws[i]'(by omega), xs[i]) ∈ ws.zip xs := by
    have : (ws.zip xs)[i]'(by simp; omega) = (ws[i]'(by omega), xs[i]) := List.getElem_zip ..
    rw [← this]; exact List.getElem_mem _
  obtain ⟨v1, v2, -⟩ := val_rng (h _ hm)
  exact ⟨v1, v2⟩
end Go.Proofs.YtkcgejbnhpccdaaGreat
