/- The contract of unitsOf. No conditions. Contracts of the reference's leaf functions. No conditions. Contracts of the program's masking and signs, each with the plain function that it computes. No conditions but the operands' ranges. Contracts of the program's shifts, divisions and reckoning of two operands. Conditions: the operands are of their width. Contracts of the reference's masking, shifts and reckoning: the same plain functions. Conditions: the operands are of their width. Contracts of Binary and Casted of the program and of the reference: one plain function each. No conditions. Contract of the program's table of the fields that an operation uses. No conditions. Contracts of the search in a row of letters, and of isBlank. No conditions. Contracts of isReg and isPlaced. No conditions. -/
import Derived.Test.YtdnbiohohbnhgaaJ03
import Derived.Test.YtdnbiohohbnhgaaJ02
import Derived.Maps.OwnSet
import Derived.Lib.ConvBytes
import Derived.Laws.AppendOwn
set_option linter.unusedSimpArgs false
set_option linter.unusedVariables false
namespace Go.Proofs.Ytdnbiohohbnhgaa
open Go.RowKit
theorem units_snoc (f : XFunc) (k : Nat) : (upTo (k + 1)).filter (isUnit f) = (upTo k).filter (isUnit f) ++ (if isUnit f k then [(k : Int)] else []) := by
  rw [upTo_succ, List.filter_append]
  congr 1
  cases h : isUnit f k <;> simp [h]
theorem upTo_len (n : Nat) : (upTo n).length = n := by simp [upTo]
theorem filt_le {α : Type} (p : α → Bool) (l : List α) : (l.filter p).length ≤ l.length := List.length_filter_le p l
set_option maxHeartbeats 4000000 in
theorem c_unitsOf (f : XFunc) (cs : List Value) (w : World) (hf : KFunc lm w f cs) (hc : countOf f ≤ 1048576) : Calls Try.prog 30 #[.agg cs.toArray] w (RetI (unitsOf f) w) := by
  have hin := fun id W hW => c_instOf f cs id W (KM.mv hf hW) (by omega)
  have hcount := fun W hW => c_CountOf f cs W (KM.mv hf hW)
  have hc0 := countOf_nn f
  obtain ⟨v1, v2, rfl, hp, hb⟩ := hf
  have hbl := fun o o' => ((Below.refl w.heap.size w).al (Nat.le_refl _) o).al (by simp) o'
  clear hp hb
  unfold unitsOf
  obtain ⟨n, hn⟩ : ∃ n : Nat, countOf f = n := ⟨(countOf f).toNat, by omega⟩
  rw [hn, Int.toNat_natCast]
  rw [hn] at hcount hc
  have hl := fun k => filt_le (isUnit f) (upTo k)
  simp only [upTo_len] at hl
  have hl' := Hd.mk hl
  clear hl hn hc0
  go_enter Try.func30, Try.ntmps30
  go_wp2_with fail
  refine (hcount _ (hbl _ _)).mono ?_; rintro e w1 ⟨rfl, hb1⟩
  have k0 := bat hb1 w.heap.size (by simp; omega)
  have hz1 := hb1.size
  simp at k0 hz1
  have hown : w1.ownsRow (w.heap.size + 1) 2 1 (.slice (some ⟨w.heap.size + 1, 0, none⟩) 0 0) 0 [] := own_mv (own_empty _ _ _ _ _ (by simp) (by simp)) hb1
  have hbw := Hd.mk ((hbl _ _).then hb1)
  clear hb1 hcount
  go_wp2
  go_loopw [3, 10] (fun s3 s10 wr => ∃ k : Nat, k ≤ n ∧ s10 = .int .i64 k ∧ Hd (wr.ownsRow (w.heap.size + 1) 2 1 s3 ((upTo k).filter (isUnit f)).length (((upTo k).filter (isUnit f)).map (Value.int .i64))) ∧ Hd (Below w.heap.size w wr) ∧ Hd (∀ o, wr.cell? ⟨w.heap.size, o, none⟩ = w1.cell? ⟨w.heap.size, o, none⟩) ∧ Hd (w.heap.size < wr.heap.size)) (fun _ s10 _ => n - (intOf s10).toNat)
  case atStart => exact ⟨0, Nat.zero_le _, rfl, ⟨by simpa [upTo] using hown⟩, hbw, ⟨fun _ => rfl⟩, ⟨by omega⟩⟩
  case round =>
    obtain ⟨k, hk, rfl, ho, hbr, hk0, hzr⟩ := hrel
    replace k0 := fun o => (hk0.out o).trans (k0 o)
    have hk0' := hk0.out
    by_cases hlt : k < n
    · have hun := Hd.mk (units_snoc f k)
      have hi1 := hin k wr hbr.out
      have hun2 : isUnit f k = ((instAt f k).2 && ((instAt f k).1.op == 24 || (instAt f k).1.op == 25)) := rfl
      unfold RetInst at hi1
      generalize hI : instAt f k = I at *
      obtain ⟨i, b⟩ := I
      simp only at hun2 hi1
      have hrl := hl'.out k
      generalize (upTo k).filter (isUnit f) = xs at *
      have hz := hzr.out
      go_wp2_with fail
      refine hi1.mono ?_; rintro e w2 ⟨cs, rfl, ⟨v7, rfl, hr7⟩, hb2⟩
      obtain ⟨A7, c7, rfl, -, -, -⟩ := hr7.sm
      have ho2 := Hd.mk (own_mv ho.out hb2)
      have hb2' := Hd.mk (hbr.out.then hb2)
      replace k0 := fun o => (bat hb2 w.heap.size hz o).trans (k0 o)
      have hk2 := Hd.mk (fun o => (bat hb2 w.heap.size hz o).trans (hk0' o))
      have hz2 := hb2.size
      clear hb2 hi1 hr7 hk0 hk0'
      cases b with
      | false =>
        rw [hun2] at hun
        go_wp2
        go_roundw
        case rel =>
          have hb3 := fun o => (Below.refl w2.heap.size w2).al (Nat.le_refl _) o
          refine ⟨k + 1, by omega, by go_num, ⟨?_⟩, ⟨hb2'.out.then (hb3 _)⟩, ⟨fun o => (bat (hb3 _) w.heap.size (by omega) o).trans (hk2.out o)⟩, ⟨by simp; omega⟩⟩
          rw [hun.out]
          simpa using own_mv ho2.out (hb3 _)
        case measure => simp [intOf]; omega
      | true =>
        have hb3 := fun o o' => ((Below.refl w2.heap.size w2).al (Nat.le_refl _) o).al (by simp) o'
        have his := fun o => c_is (.slice (some ⟨w2.heap.size + 1, 0, none⟩) 2 2) [24, 25] i.op ((w2.alloc o).alloc (.cells #[.int .i64 24, .int .i64 25] 2))
          (rd_at _ (w2.heap.size + 1) 0 2 [24, 25] (by simp) (by simp) (by simp) (fun j hj => by
            simp at hj
            have : j = 0 ∨ j = 1 := by omega
            rcases this with rfl | rfl <;> simp))
        have hs : hasI [24, 25] i.op = (i.op == 24 || i.op == 25) := by simp [hasI]
        simp only [hs] at his
        simp only [Bool.true_and] at hun2
        rw [hun2] at hun
        clear hs hun2
        generalize (i.op == 24 || i.op == 25) = q at *
        have z2 : w.heap.size < w2.heap.size := by omega
        go_wp2_with fail
        refine (his _).mono ?_; rintro e w3 ⟨rfl, hb4⟩
        have hb5 := Hd.mk ((hb3 _ _).then hb4)
        clear hb4 his hb3
        have ho3 := Hd.mk (own_mv ho2.out hb5.out)
        have hk3 := Hd.mk (fun o => (bat hb5.out w.heap.size z2 o).trans (hk2.out o))
        have hz3 := hb5.out.size
        have hb3' := Hd.mk (hb2'.out.then hb5.out)
        cases q with
        | false =>
          go_wp2
          go_roundw
          case rel =>
            refine ⟨k + 1, by omega, by go_num, ⟨?_⟩, hb3', hk3, ⟨by omega⟩⟩
            rw [hun.out]
            simpa using ho3.out
          case measure => simp [intOf]; omega
        | true =>
          have hb6 := fun o => (Below.refl w3.heap.size w3).al (Nat.le_refl _) o
          go_wp2_with (at_builtin; refine app_I rfl _ _ rfl (w.heap.size + 1) _ xs [(k : Int)] rfl ?h1 _ 1 1 rfl (rd_one _ _) ?h2 ?h3 ?h4)
          case h1 => exact own_mv ho3.out (hb6 _)
          case h2 => omega
          case h3 => simp; omega
          case h4 =>
            intro v' w4 ho4 hg
            have hb7 : Below w.heap.size w w4 := (hb3'.out.then (hb6 _)).grown hg (by simp; omega) (fun k hk => by have := own_block_ge ho3.out k hk; omega)
            have hk7 : ∀ o, w4.cell? ⟨w.heap.size, o, none⟩ = w1.cell? ⟨w.heap.size, o, none⟩ := fun o => (grown_cell hg (by simp; omega) (fun h => by have := own_block_ge ho3.out _ h; omega) o).trans ((bat (hb6 _) w.heap.size (by omega) o).trans (hk3.out o))
            have hz7 := hg.size
            simp at hz7
            have ho4' := Hd.mk ho4
            have hb7' := Hd.mk hb7
            have hk7' := Hd.mk hk7
            clear hg ho4 hb7 hk7 hb6
            go_wp2
            go_roundw
            case rel =>
              refine ⟨k + 1, by omega, by go_num, ⟨?_⟩, hb7', hk7', ⟨by omega⟩⟩
              rw [hun.out]
              simpa using ho4'.out
            case measure => simp [intOf]; omega
    · have e : k = n := by omega
      subst e
      go_wp2
      go_ret
      exact ⟨_, rfl, own_lower ho.out (by omega), hbr.out⟩
end Go.Proofs.Ytdnbiohohbnhgaa
set_option linter.unusedSimpArgs false
set_option linter.unusedVariables false
namespace Go.Proofs.Ytdnbiohohbnhgaa
open Go.RowKit
theorem s_l1In (n lo hi : Int) (w : World) : Calls Try.prog 36 #[.int .i64 n, .int .i64 lo, .int .i64 hi] w (Same (.bool (inR n lo hi)) w) := by
  unfold inR
  by_cases h : lo ≤ n
  all_goals
    go_enter Try.func36, Try.ntmps36
    go_wp2
    go_ret
    exact ⟨by first | (simp [h]; done) | (have h' : ¬ lo ≤ n := (by omega); simp [h']), rfl⟩
theorem s_WidthOk (n : Int) (w : World) : Calls Try.prog 48 #[.int .i64 n] w (Same (.bool (widthOk n)) w) := by
  go_enter Try.func48, Try.ntmps48
  go_wp2
  all_goals
    go_ret
    exact ⟨by simp [widthOk, *], rfl⟩
theorem s_l1Top (n : Int) (w : World) (h : widthOk n = true) : Calls Try.prog 98 #[.int .i64 n] w (Same (.int .i64 (2 ^ n.toNat)) w) := by
  simp only [widthOk, Bool.or_eq_true, beq_iff_eq] at h
  rcases h with ((rfl | rfl) | rfl) | rfl
  all_goals
    go_enter Try.func98, Try.ntmps98
    go_wp2
    go_ret
    exact ⟨rfl, rfl⟩
theorem pow_bd (n : Int) (h : widthOk n = true) : (2 : Int) ≤ 2 ^ n.toNat ∧ (2 : Int) ^ n.toNat ≤ 4294967296 := by
  simp only [widthOk, Bool.or_eq_true, beq_iff_eq] at h
  rcases h with ((rfl | rfl) | rfl) | rfl <;> decide
theorem s_l1Value (n v : Int) (w : World) : Calls Try.prog 60 #[.int .i64 n, .int .i64 v] w (Same (.bool (isVal n v)) w) := by
  unfold isVal
  cases h : widthOk n with
  | false =>
    have hw := s_WidthOk n
    rw [h] at hw
    clear h
    go_enter Try.func60, Try.ntmps60
    go_wp2_with (go_at_call 48; refine (hw _).mono ?_; rintro e w' ⟨rfl, rfl⟩)
    go_ret
    exact ⟨by simp, rfl⟩
  | true =>
    have hw := s_WidthOk n
    rw [h] at hw
    have hbd := pow_bd n h
    have ht := fun w => s_l1Top n w h
    clear h
    generalize (2 : Int) ^ n.toNat = t at *
    obtain ⟨hb1, hb2⟩ := hbd
    go_enter Try.func60, Try.ntmps60
    go_wp2_with (first | (go_at_call 48; refine (hw _).mono ?_; rintro e w' ⟨rfl, rfl⟩) | (go_at_call 98; refine (ht _).mono ?_; rintro e w' ⟨rfl, rfl⟩) | (go_at_call 36; refine (s_l1In _ _ _ _).mono ?_; rintro e w' ⟨rfl, rfl⟩))
    go_ret
    exact ⟨by simp, rfl⟩
set_option maxHeartbeats 400000 in
theorem s_l1Copy (v : Value) (xs : List Int) (w : World) (hv : RI lm w v xs) : Calls Try.prog 113 #[v] w (RetI xs w) := by
  obtain ⟨A, c, rfl, h1, h2, hv0⟩ := hv.sm
  clear hv
  go_enter Try.func113, Try.ntmps113
  go_wp2_with (at_builtin; refine app_I rfl _ _ rfl w.heap.size _ [] xs rfl ?h1 A xs.length c rfl ?h2 (by simp) ?h3 ?h4)
  case h1 => exact own_empty _ _ _ _ _ rfl (Nat.le_refl _)
  case h2 => exact hv0.out.mv ((Below.refl _ _).al (Nat.le_refl _) _)
  case h3 => simp
  case h4 =>
    intro v' w' ho hg
    go_wp2
    go_ret
    refine ⟨_, rfl, ho, ((Below.refl _ w).al (Nat.le_refl _) (.cells #[] 2)).grown hg (by simp) (fun k hk => ?_)⟩
    simp only [Value.ownBlock, Option.some.injEq] at hk; omega
set_option maxHeartbeats 1000000 in
theorem s_l2Operands (i : XInst) (v : Value) (w : World) (hv : RI lm w v i.args) : Calls Try.prog 80 #[instV i v] w (RetI (opsOf i) w) := by
  obtain ⟨op, wd, a, b, c, imm, args⟩ := i
  simp only [instV] at hv ⊢
  have hv0 := Hd.mk hv
  have hbl := fun o => (Below.refl w.heap.size w).al (Nat.le_refl _) o
  clear hv
  by_cases h1 : bin op = true
  · have r1 : inR op 1 17 = true := h1
    rw [show opsOf ⟨op, wd, a, b, c, imm, args⟩ = [a, b] by simp [opsOf, h1]]
    clear h1
    go_enter Try.func80, Try.ntmps80
    go_wp2_with (go_at_call 36; refine (s_l1In _ _ _ _).mono ?_; rintro e w' ⟨rfl, rfl⟩)
    go_ret
    exact retI_made (hbl _) [a, b] 2 _ rfl (by simp) (by omega)
  rw [Bool.not_eq_true] at h1
  have r1 : inR op 1 17 = false := h1
  by_cases h2 : op = 24
  · subst h2
    rw [show opsOf ⟨24, wd, a, b, c, imm, args⟩ = [a, b] by simp [opsOf]]
    go_enter Try.func80, Try.ntmps80
    go_wp2_with (go_at_call 36; refine (s_l1In _ _ _ _).mono ?_; rintro e w' ⟨rfl, rfl⟩)
    go_ret
    exact retI_made (hbl _) [a, b] 2 _ rfl (by simp) (by omega)
  by_cases h3 : cst op = true
  · have r3 : inR op 18 20 = true := h3
    rw [show opsOf ⟨op, wd, a, b, c, imm, args⟩ = [a] by simp [opsOf, h1, h2, h3]]
    have b2 := beqF h2
    clear h1 h2 h3
    go_enter Try.func80, Try.ntmps80
    go_wp2_with (go_at_call 36; refine (s_l1In _ _ _ _).mono ?_; rintro e w' ⟨rfl, rfl⟩)
    go_ret
    exact retI_made (hbl _) [a] 1 _ rfl (by simp) (by omega)
  rw [Bool.not_eq_true] at h3
  have r3 : inR op 18 20 = false := h3
  by_cases h4 : op = 23 ∨ op = 25 ∨ op = 27
  · rcases h4 with rfl | rfl | rfl
    all_goals
      rw [show ∀ o, o = 23 ∨ o = 25 ∨ o = 27 → opsOf ⟨o, wd, a, b, c, imm, args⟩ = [a] from fun o ho => by rcases ho with rfl | rfl | rfl <;> simp [opsOf, bin, inR]]
      · clear h1 h2 h3
        go_enter Try.func80, Try.ntmps80
        go_wp2_with (go_at_call 36; refine (s_l1In _ _ _ _).mono ?_; rintro e w' ⟨rfl, rfl⟩)
        go_ret
        exact retI_made (hbl _) [a] 1 _ rfl (by simp) (by omega)
      · simp
  obtain ⟨h5, h6, h7⟩ : op ≠ 23 ∧ op ≠ 25 ∧ op ≠ 27 := by omega
  clear h4
  have b2 := beqF h2
  have b5 := beqF h5
  have b6 := beqF h6
  have b7 := beqF h7
  by_cases h8 : op = 22
  · subst h8
    rw [show opsOf ⟨22, wd, a, b, c, imm, args⟩ = [a, b, c] by simp [opsOf, bin, cst, inR]]
    clear h1 h2 h3 h5 h6 h7 b2 b5 b6 b7
    go_enter Try.func80, Try.ntmps80
    go_wp2_with (go_at_call 36; refine (s_l1In _ _ _ _).mono ?_; rintro e w' ⟨rfl, rfl⟩)
    go_ret
    exact retI_made (hbl _) [a, b, c] 3 _ rfl (by simp) (by omega)
  have b8 := beqF h8
  by_cases h9 : op = 26
  · subst h9
    rw [show opsOf ⟨26, wd, a, b, c, imm, args⟩ = args by simp [opsOf, bin, cst, inR]]
    clear h1 h2 h3 h5 h6 h7 b2 b5 b6 b7 b8 h8
    go_enter Try.func80, Try.ntmps80
    go_wp2_with (first | (go_at_call 36; refine (s_l1In _ _ _ _).mono ?_; rintro e w' ⟨rfl, rfl⟩) | (go_at_call 113; refine (s_l1Copy _ _ _ (hv0.out.mv (hbl _))).mono ?_; rintro e w' hr; obtain ⟨v', rfl, ho, hb'⟩ := hr.later (hbl _)))
    go_ret
    exact ⟨_, rfl, ho, hb'⟩
  · have b9 := beqF h9
    rw [show opsOf ⟨op, wd, a, b, c, imm, args⟩ = [] by simp [opsOf, h1, h2, h3, h5, h6, h7, h8, h9]]
    clear h1 h2 h3 h5 h6 h7 h8 h9
    go_enter Try.func80, Try.ntmps80
    go_wp2_with (go_at_call 36; refine (s_l1In _ _ _ _).mono ?_; rintro e w' ⟨rfl, rfl⟩)
    go_ret
    exact retI_made (hbl _) [] 0 _ rfl (by simp) (by omega)
end Go.Proofs.Ytdnbiohohbnhgaa
set_option linter.unusedSimpArgs false
set_option linter.unusedVariables false
namespace Go.Proofs.Ytdnbiohohbnhgaa
open Go.RowKit
/-- What a number is under a width's mask. -/
def mskd (w n : Int) : Int := if widthOk w then n % 2 ^ w.toNat else 0
theorem and_mask (n : Int) (i : Nat) (hi : i ≤ 32) : bits .and .i64 n (2 ^ i - 1) = n % 2 ^ i := by
  have hpos : 0 < 2 ^ i := Nat.two_pow_pos i
  have h32 : 2 ^ i ≤ 2 ^ 32 := Nat.pow_le_pow_right (by decide) hi
  have hc : ((2 : Int) ^ i - 1) = ((2 ^ i - 1 : Nat) : Int) := by rw [Int.natCast_sub hpos]; simp
  have hm : (2 ^ i - 1) % 2 ^ 64 = 2 ^ i - 1 := Nat.mod_eq_of_lt (by omega)
  have h64 : (2 : Nat) ^ i ∣ 2 ^ 64 := Nat.pow_dvd_pow 2 (by omega)
  have hz : (n % 2 ^ 64).toNat % 2 ^ i = (n % 2 ^ i).toNat := by
    have e1 : ((n % 2 ^ 64).toNat : Int) = n % 2 ^ 64 := Int.toNat_of_nonneg (Int.emod_nonneg _ (by decide))
    have hp : (0 : Int) < 2 ^ i := Int.pow_pos (by decide)
    have e2 : ((n % 2 ^ i).toNat : Int) = n % 2 ^ i := Int.toNat_of_nonneg (Int.emod_nonneg _ (by omega))
    have hd : (2 : Int) ^ i ∣ 2 ^ 64 := by
      obtain ⟨c, hc⟩ := h64
      exact ⟨(c : Int), by exact_mod_cast hc⟩
    apply Int.ofNat_inj.1
    rw [Int.natCast_emod, e1, e2]
    rw [show ((2 ^ i : Nat) : Int) = 2 ^ i by simp]
    exact Int.emod_emod_of_dvd n hd
  rw [hc]
  simp only [bits]
  rw [BitVec.ofInt_natCast, BitVec.toNat_and, BitVec.toNat_ofNat]
  change IntKind.i64.wrap (((BitVec.ofInt 64 n).toNat &&& ((2 ^ i - 1) % 2 ^ 64) : Nat) : Int) = _
  rw [hm, Nat.and_two_pow_sub_one_eq_mod, BitVec.toNat_ofInt]
  change IntKind.i64.wrap (((n % 2 ^ 64).toNat % 2 ^ i : Nat) : Int) = _
  rw [hz]
  have hp : (0 : Int) < 2 ^ i := Int.pow_pos (by decide)
  have hn := Int.emod_nonneg n (show (2 : Int) ^ i ≠ 0 by omega)
  have hl := Int.emod_lt_of_pos n hp
  have h32' : (2 : Int) ^ i ≤ 4294967296 := by
    have h9 := Int.ofNat_le.2 h32
    rw [show ((2 ^ i : Nat) : Int) = 2 ^ i by simp] at h9
    exact h9
  rw [Int.toNat_of_nonneg hn]
  exact IntWalk.i64_in _ (by omega)
theorem wd4 {w : Int} (h : widthOk w = true) : w = 1 ∨ w = 8 ∨ w = 16 ∨ w = 32 := by
  simp only [widthOk, Bool.or_eq_true, beq_iff_eq] at h
  rcases h with ((rfl | rfl) | rfl) | rfl <;> simp
theorem c_Masked (w n : Int) (W : World) : Calls Try.prog 109 #[.int .i64 w, .int .i64 n] W (Same (.int .i64 (mskd w n)) W) := by
  cases h : widthOk w
  · have hw := c_WidthOk w
    rw [h] at hw
    have hm : mskd w n = 0 := by unfold mskd; rw [h]; rfl
    rw [hm]
    clear h hm
    go_enter Try.func109, Try.ntmps109
    go_wp2_with fail
    refine (hw _).mono ?_; rintro e w1 ⟨rfl, rfl⟩
    go_wp2
    go_ret
    exact ⟨rfl, rfl⟩
  · have hw := c_WidthOk w
    rw [h] at hw
    have hk := fun W => c_mask w W h
    have hm : mskd w n = n % 2 ^ w.toNat := by unfold mskd; rw [h]; rfl
    rw [hm]
    have h' := Hd.mk h
    clear hm h
    go_enter Try.func109, Try.ntmps109
    go_wp2_with fail
    refine (hw _).mono ?_; rintro e w1 ⟨rfl, rfl⟩
    go_wp2_with fail
    refine (hk _).mono ?_; rintro e w1 ⟨rfl, rfl⟩
    go_wp2
    go_ret
    refine ⟨?_, rfl⟩
    have hl : w.toNat ≤ 32 := by rcases wd4 h'.out with rfl | rfl | rfl | rfl <;> decide
    rw [← and_mask n w.toNat hl]
    rfl
def b01 (b : Bool) : Int := if b then 1 else 0
theorem c_truth (b : Bool) (W : World) : Calls Try.prog 139 #[.bool b] W (Same (.int .i64 (b01 b)) W) := by
  cases b
  all_goals
    go_enter Try.func139, Try.ntmps139
    go_wp2
    go_ret
    exact ⟨rfl, rfl⟩
theorem s_l1Bit (b : Bool) (W : World) : Calls Try.prog 128 #[.bool b] W (Same (.int .i64 (b01 b)) W) := by
  cases b
  all_goals
    go_enter Try.func128, Try.ntmps128
    go_wp2
    go_ret
    exact ⟨rfl, rfl⟩
/-- A value with its sign. -/
def sgn (w v : Int) : Int := if 2 ^ w.toNat ≤ 2 * v then v - 2 ^ w.toNat else v
theorem c_signOf (w v : Int) (W : World) (h : isVal w v = true) : Calls Try.prog 138 #[.int .i64 w, .int .i64 v] W (Same (.int .i64 (sgn w v)) W) := by
  unfold isVal at h
  simp only [Bool.and_eq_true] at h
  obtain ⟨hw, hv⟩ := h
  have hk := fun W => c_mask w W hw
  unfold inR at hv
  simp only [Bool.and_eq_true, decide_eq_true_eq] at hv
  obtain ⟨v1, v2⟩ := hv
  rcases wd4 hw with rfl | rfl | rfl | rfl
  · have v2' : v ≤ 1 := v2
    by_cases hs : 1 ≤ v
    · have hb : bits BinOp.and IntKind.i64 v 1 = 1 := by
        have := and_mask v 1 (by decide)
        simp only [Int.pow_succ, Int.pow_zero] at this
        rw [show (1 : Int) * 2 - 1 = 1 from rfl] at this
        rw [this]; omega
      have ht : (bits BinOp.and IntKind.i64 v 1 == 1) = true := by rw [hb]; rfl
      have hr : sgn 1 v = v - 2 := by unfold sgn; rw [if_pos (by show (2 : Int) ≤ _; omega)]; rfl
      rw [hr]
      clear hr hb v2
      go_enter Try.func138, Try.ntmps138
      go_wp2_with fail
      refine (hk _).mono ?_; rintro e w1 ⟨rfl, rfl⟩
      go_wp2
      go_ret
      exact ⟨by first | rfl | (congr 2; omega) | (simp; omega), rfl⟩
    · have hb : bits BinOp.and IntKind.i64 v 1 = 0 := by
        have := and_mask v 1 (by decide)
        simp only [Int.pow_succ, Int.pow_zero] at this
        rw [show (1 : Int) * 2 - 1 = 1 from rfl] at this
        rw [this]; omega
      have ht : (bits BinOp.and IntKind.i64 v 1 == 1) = false := by rw [hb]; rfl
      have hr : sgn 1 v = v := by unfold sgn; rw [if_neg (by show ¬ (2 : Int) ≤ _; omega)]
      rw [hr]
      clear hr hb v2
      go_enter Try.func138, Try.ntmps138
      go_wp2
      go_ret
      exact ⟨rfl, rfl⟩
  · have v2' : v ≤ 255 := v2
    by_cases hs : 128 ≤ v
    · have hb : bits BinOp.and IntKind.i64 (v / 128) 1 = 1 := by
        have := and_mask (v / 128) 1 (by decide)
        simp only [Int.pow_succ, Int.pow_zero] at this
        rw [show (1 : Int) * 2 - 1 = 1 from rfl] at this
        rw [this]; omega
      have ht : (bits BinOp.and IntKind.i64 (v / 128) 1 == 1) = true := by rw [hb]; rfl
      have hr : sgn 8 v = v - 256 := by unfold sgn; rw [if_pos (by show (256 : Int) ≤ _; omega)]; rfl
      rw [hr]
      clear hr hb v2
      go_enter Try.func138, Try.ntmps138
      go_wp2_with fail
      refine (hk _).mono ?_; rintro e w1 ⟨rfl, rfl⟩
      go_wp2
      go_ret
      exact ⟨by first | rfl | (congr 2; omega) | (simp; omega), rfl⟩
    · have hb : bits BinOp.and IntKind.i64 (v / 128) 1 = 0 := by
        have := and_mask (v / 128) 1 (by decide)
        simp only [Int.pow_succ, Int.pow_zero] at this
        rw [show (1 : Int) * 2 - 1 = 1 from rfl] at this
        rw [this]; omega
      have ht : (bits BinOp.and IntKind.i64 (v / 128) 1 == 1) = false := by rw [hb]; rfl
      have hr : sgn 8 v = v := by unfold sgn; rw [if_neg (by show ¬ (256 : Int) ≤ _; omega)]
      rw [hr]
      clear hr hb v2
      go_enter Try.func138, Try.ntmps138
      go_wp2
      go_ret
      exact ⟨rfl, rfl⟩
  · have v2' : v ≤ 65535 := v2
    by_cases hs : 32768 ≤ v
    · have hb : bits BinOp.and IntKind.i64 (v / 32768) 1 = 1 := by
        have := and_mask (v / 32768) 1 (by decide)
        simp only [Int.pow_succ, Int.pow_zero] at this
        rw [show (1 : Int) * 2 - 1 = 1 from rfl] at this
        rw [this]; omega
      have ht : (bits BinOp.and IntKind.i64 (v / 32768) 1 == 1) = true := by rw [hb]; rfl
      have hr : sgn 16 v = v - 65536 := by unfold sgn; rw [if_pos (by show (65536 : Int) ≤ _; omega)]; rfl
      rw [hr]
      clear hr hb v2
      go_enter Try.func138, Try.ntmps138
      go_wp2_with fail
      refine (hk _).mono ?_; rintro e w1 ⟨rfl, rfl⟩
      go_wp2
      go_ret
      exact ⟨by first | rfl | (congr 2; omega) | (simp; omega), rfl⟩
    · have hb : bits BinOp.and IntKind.i64 (v / 32768) 1 = 0 := by
        have := and_mask (v / 32768) 1 (by decide)
        simp only [Int.pow_succ, Int.pow_zero] at this
        rw [show (1 : Int) * 2 - 1 = 1 from rfl] at this
        rw [this]; omega
      have ht : (bits BinOp.and IntKind.i64 (v / 32768) 1 == 1) = false := by rw [hb]; rfl
      have hr : sgn 16 v = v := by unfold sgn; rw [if_neg (by show ¬ (65536 : Int) ≤ _; omega)]
      rw [hr]
      clear hr hb v2
      go_enter Try.func138, Try.ntmps138
      go_wp2
      go_ret
      exact ⟨rfl, rfl⟩
  · have v2' : v ≤ 4294967295 := v2
    by_cases hs : 2147483648 ≤ v
    · have hb : bits BinOp.and IntKind.i64 (v / 2147483648) 1 = 1 := by
        have := and_mask (v / 2147483648) 1 (by decide)
        simp only [Int.pow_succ, Int.pow_zero] at this
        rw [show (1 : Int) * 2 - 1 = 1 from rfl] at this
        rw [this]; omega
      have ht : (bits BinOp.and IntKind.i64 (v / 2147483648) 1 == 1) = true := by rw [hb]; rfl
      have hr : sgn 32 v = v - 4294967296 := by unfold sgn; rw [if_pos (by show (4294967296 : Int) ≤ _; omega)]; rfl
      rw [hr]
      clear hr hb v2
      go_enter Try.func138, Try.ntmps138
      go_wp2_with fail
      refine (hk _).mono ?_; rintro e w1 ⟨rfl, rfl⟩
      go_wp2
      go_ret
      exact ⟨by first | rfl | (congr 2; omega) | (simp; omega), rfl⟩
    · have hb : bits BinOp.and IntKind.i64 (v / 2147483648) 1 = 0 := by
        have := and_mask (v / 2147483648) 1 (by decide)
        simp only [Int.pow_succ, Int.pow_zero] at this
        rw [show (1 : Int) * 2 - 1 = 1 from rfl] at this
        rw [this]; omega
      have ht : (bits BinOp.and IntKind.i64 (v / 2147483648) 1 == 1) = false := by rw [hb]; rfl
      have hr : sgn 32 v = v := by unfold sgn; rw [if_neg (by show ¬ (4294967296 : Int) ≤ _; omega)]
      rw [hr]
      clear hr hb v2
      go_enter Try.func138, Try.ntmps138
      go_wp2
      go_ret
      exact ⟨rfl, rfl⟩
end Go.Proofs.Ytdnbiohohbnhgaa
set_option linter.unusedSimpArgs false
set_option linter.unusedVariables false
namespace Go.Proofs.Ytdnbiohohbnhgaa
open Go.RowKit
theorem val_rng {w v : Int} (h : isVal w v = true) : 0 ≤ v ∧ v ≤ 4294967295 ∧ widthOk w = true ∧ v < 2 ^ w.toNat := by
  unfold isVal inR at h
  simp only [Bool.and_eq_true, decide_eq_true_eq] at h
  obtain ⟨hw, v1, v2⟩ := h
  refine ⟨v1, ?_, hw, by omega⟩
  rcases wd4 hw with rfl | rfl | rfl | rfl
  · have : v ≤ 1 := v2
    omega
  · have : v ≤ 255 := v2
    omega
  · have : v ≤ 65535 := v2
    omega
  · exact v2
theorem sgn_rng {w v : Int} (h : isVal w v = true) : -4294967295 ≤ sgn w v ∧ sgn w v ≤ 4294967295 := by
  obtain ⟨h1, h2, h3, h4⟩ := val_rng h
  have : (2 : Int) ^ w.toNat ≤ 4294967296 := (pow_bd w h3).2
  unfold sgn; split <;> omega
def shR (op w a b : Int) : Int := if op = 13 then sgn w a / 2 ^ (min b 63).toNat else if w ≤ b then 0 else if op = 11 then wrap64 (a * 2 ^ b.toNat) else a / 2 ^ b.toNat
set_option maxHeartbeats 1000000 in
theorem c_shifted (op w a b : Int) (W : World) (ha : isVal w a = true) (hb : isVal w b = true) : Calls Try.prog 140 #[.int .i64 op, .int .i64 w, .int .i64 a, .int .i64 b] W (Same (.int .i64 (shR op w a b)) W) := by
  unfold shR
  obtain ⟨a1, a2, -, -⟩ := val_rng ha
  obtain ⟨b1, b2, hw, -⟩ := val_rng hb
  have hs := fun W => c_signOf w a W ha
  have hsr := sgn_rng ha
  have hw32 : 1 ≤ w ∧ w ≤ 32 := by rcases wd4 hw with rfl | rfl | rfl | rfl <;> decide
  clear ha hb hw
  by_cases h13 : op = 13
  · subst h13
    rw [if_pos rfl]
    generalize sgn w a = x at *
    by_cases hm : b ≤ 63
    · have e : min b 63 = b := Int.min_eq_left hm
      rw [e]
      go_enter Try.func140, Try.ntmps140
      go_wp2_with fail
      refine (hs _).mono ?_; rintro e w1 ⟨rfl, rfl⟩
      go_wp2
      go_ret
      exact ⟨rfl, rfl⟩
    · have e : min b 63 = 63 := Int.min_eq_right (by omega)
      rw [e]
      go_enter Try.func140, Try.ntmps140
      go_wp2_with fail
      refine (hs _).mono ?_; rintro e w1 ⟨rfl, rfl⟩
      go_wp2
      go_ret
      exact ⟨rfl, rfl⟩
  · rw [if_neg h13]
    have t13 := beqF h13
    by_cases hlt : w ≤ b
    · rw [if_pos hlt]
      go_enter Try.func140, Try.ntmps140
      go_wp2
      go_ret
      exact ⟨rfl, rfl⟩
    · rw [if_neg hlt]
      have hb32 : b ≤ 64 := by omega
      by_cases h11 : op = 11
      · subst h11
        rw [if_pos rfl]
        go_enter Try.func140, Try.ntmps140
        go_wp2
        go_ret
        exact ⟨rfl, rfl⟩
      · rw [if_neg h11]
        have t11 := beqF h11
        go_enter Try.func140, Try.ntmps140
        go_wp2
        go_ret
        exact ⟨rfl, rfl⟩
theorem c_isDivision (n : Int) (w : World) : Calls Try.prog 136 #[.int .i64 n] w (Same (.bool (inR n 4 7)) w) := by
  go_enter Try.func136, Try.ntmps136
  go_wp2_with (go_at_call 42; refine (c_within _ _ _ _).mono ?_; rintro e w' ⟨rfl, rfl⟩)
  go_ret
  exact ⟨rfl, rfl⟩
def reck (op w a b : Int) : Int :=
  if op = 1 then (a + b) else
  if op = 2 then (a - b) else
  if op = 3 then (wrap64 (a * b)) else
  if op = 4 then (a / b) else
  if op = 5 then (wrap64 ((sgn w a).tdiv (sgn w b))) else
  if op = 6 then (a % b) else
  if op = 7 then ((sgn w a).tmod (sgn w b)) else
  if op = 8 then (bits .and .i64 a b) else
  if op = 9 then (bits .or .i64 a b) else
  if op = 10 then (bits .xor .i64 a b) else
  if op = 14 then (b01 (a == b)) else
  if op = 15 then (b01 (a != b)) else
  if op = 16 then (b01 (decide (a < b))) else
  if op = 17 then (b01 (decide (sgn w a < sgn w b))) else
  shR op w a b
set_option maxHeartbeats 4000000 in
theorem c_reckoned (op w a b : Int) (W : World) (ho : bin op = true) (ha : isVal w a = true) (hb : isVal w b = true) (hd : inR op 4 7 = true → b ≠ 0) : Calls Try.prog 137 #[.int .i64 op, .int .i64 w, .int .i64 a, .int .i64 b] W (Same (.int .i64 (reck op w a b)) W) := by
  obtain ⟨a1, a2, -, -⟩ := val_rng ha
  obtain ⟨b1, b2, -, hb4⟩ := val_rng hb
  have hs := fun W => c_signOf w a W ha
  have hs' := fun W => c_signOf w b W hb
  have hr := sgn_rng ha
  have hr' := sgn_rng hb
  have hy0 : b ≠ 0 → sgn w b ≠ 0 := fun h => by unfold sgn; split <;> omega
  have hsh := fun W => c_shifted op w a b W ha hb
  unfold bin inR at ho
  simp only [Bool.and_eq_true, decide_eq_true_eq] at ho
  obtain ⟨o1, o2⟩ := ho
  clear ha hb hb4

  have hop : op = 1 ∨ op = 2 ∨ op = 3 ∨ op = 4 ∨ op = 5 ∨ op = 6 ∨ op = 7 ∨ op = 8 ∨ op = 9 ∨ op = 10 ∨ op = 11 ∨ op = 12 ∨ op = 13 ∨ op = 14 ∨ op = 15 ∨ op = 16 ∨ op = 17 := by omega
  clear o1 o2
  rcases hop with rfl | rfl | rfl | rfl | rfl | rfl | rfl | rfl | rfl | rfl | rfl | rfl | rfl | rfl | rfl | rfl | rfl
  · have hR : reck 1 w a b = a + b := rfl
    rw [hR]
    clear hR
    clear hd hy0
    clear hsh
    generalize sgn w a = x at *
    generalize sgn w b = y at *
    go_enter Try.func137, Try.ntmps137
    go_wp2_with fail
    refine (hs _).mono ?_; rintro e w1 ⟨rfl, rfl⟩
    go_wp2_with fail
    refine (hs' _).mono ?_; rintro e w1 ⟨rfl, rfl⟩
    go_wp2
    go_ret
    exact ⟨rfl, rfl⟩
  · have hR : reck 2 w a b = a - b := rfl
    rw [hR]
    clear hR
    clear hd hy0
    clear hsh
    generalize sgn w a = x at *
    generalize sgn w b = y at *
    go_enter Try.func137, Try.ntmps137
    go_wp2_with fail
    refine (hs _).mono ?_; rintro e w1 ⟨rfl, rfl⟩
    go_wp2_with fail
    refine (hs' _).mono ?_; rintro e w1 ⟨rfl, rfl⟩
    go_wp2
    go_ret
    exact ⟨rfl, rfl⟩
  · have hR : reck 3 w a b = wrap64 (a * b) := rfl
    rw [hR]
    clear hR
    clear hd hy0
    clear hsh
    generalize sgn w a = x at *
    generalize sgn w b = y at *
    go_enter Try.func137, Try.ntmps137
    go_wp2_with fail
    refine (hs _).mono ?_; rintro e w1 ⟨rfl, rfl⟩
    go_wp2_with fail
    refine (hs' _).mono ?_; rintro e w1 ⟨rfl, rfl⟩
    go_wp2
    go_ret
    exact ⟨rfl, rfl⟩
  · have hR : reck 4 w a b = a / b := rfl
    rw [hR]
    clear hR
    have hb0 : b ≠ 0 := hd (by decide)
    have hb1 : 1 ≤ b := by omega
    have hy := hy0 hb0
    clear hd hy0
    clear hsh
    generalize sgn w a = x at *
    generalize sgn w b = y at *
    go_enter Try.func137, Try.ntmps137
    go_wp2_with fail
    refine (hs _).mono ?_; rintro e w1 ⟨rfl, rfl⟩
    go_wp2_with fail
    refine (hs' _).mono ?_; rintro e w1 ⟨rfl, rfl⟩
    go_wp2
    go_ret
    exact ⟨rfl, rfl⟩
  · have hR : reck 5 w a b = wrap64 ((sgn w a).tdiv (sgn w b)) := rfl
    rw [hR]
    clear hR
    have hb0 : b ≠ 0 := hd (by decide)
    have hb1 : 1 ≤ b := by omega
    have hy := hy0 hb0
    clear hd hy0
    clear hsh
    generalize sgn w a = x at *
    generalize sgn w b = y at *
    go_enter Try.func137, Try.ntmps137
    go_wp2_with fail
    refine (hs _).mono ?_; rintro e w1 ⟨rfl, rfl⟩
    go_wp2_with fail
    refine (hs' _).mono ?_; rintro e w1 ⟨rfl, rfl⟩
    go_wp2
    go_ret
    exact ⟨rfl, rfl⟩
  · have hR : reck 6 w a b = a % b := rfl
    rw [hR]
    clear hR
    have hb0 : b ≠ 0 := hd (by decide)
    have hb1 : 1 ≤ b := by omega
    have hy := hy0 hb0
    clear hd hy0
    clear hsh
    generalize sgn w a = x at *
    generalize sgn w b = y at *
    go_enter Try.func137, Try.ntmps137
    go_wp2_with fail
    refine (hs _).mono ?_; rintro e w1 ⟨rfl, rfl⟩
    go_wp2_with fail
    refine (hs' _).mono ?_; rintro e w1 ⟨rfl, rfl⟩
    go_wp2
    go_ret
    exact ⟨rfl, rfl⟩
  · have hR : reck 7 w a b = (sgn w a).tmod (sgn w b) := rfl
    rw [hR]
    clear hR
    have hb0 : b ≠ 0 := hd (by decide)
    have hb1 : 1 ≤ b := by omega
    have hy := hy0 hb0
    clear hd hy0
    clear hsh
    generalize sgn w a = x at *
    generalize sgn w b = y at *
    go_enter Try.func137, Try.ntmps137
    go_wp2_with fail
    refine (hs _).mono ?_; rintro e w1 ⟨rfl, rfl⟩
    go_wp2_with fail
    refine (hs' _).mono ?_; rintro e w1 ⟨rfl, rfl⟩
    go_wp2
    go_ret
    exact ⟨rfl, rfl⟩
  · have hR : reck 8 w a b = bits .and .i64 a b := rfl
    rw [hR]
    clear hR
    clear hd hy0
    clear hsh
    generalize sgn w a = x at *
    generalize sgn w b = y at *
    go_enter Try.func137, Try.ntmps137
    go_wp2_with fail
    refine (hs _).mono ?_; rintro e w1 ⟨rfl, rfl⟩
    go_wp2_with fail
    refine (hs' _).mono ?_; rintro e w1 ⟨rfl, rfl⟩
    go_wp2
    go_ret
    exact ⟨rfl, rfl⟩
  · have hR : reck 9 w a b = bits .or .i64 a b := rfl
    rw [hR]
    clear hR
    clear hd hy0
    clear hsh
    generalize sgn w a = x at *
    generalize sgn w b = y at *
    go_enter Try.func137, Try.ntmps137
    go_wp2_with fail
    refine (hs _).mono ?_; rintro e w1 ⟨rfl, rfl⟩
    go_wp2_with fail
    refine (hs' _).mono ?_; rintro e w1 ⟨rfl, rfl⟩
    go_wp2
    go_ret
    exact ⟨rfl, rfl⟩
  · have hR : reck 10 w a b = bits .xor .i64 a b := rfl
    rw [hR]
    clear hR
    clear hd hy0
    clear hsh
    generalize sgn w a = x at *
    generalize sgn w b = y at *
    go_enter Try.func137, Try.ntmps137
    go_wp2_with fail
    refine (hs _).mono ?_; rintro e w1 ⟨rfl, rfl⟩
    go_wp2_with fail
    refine (hs' _).mono ?_; rintro e w1 ⟨rfl, rfl⟩
    go_wp2
    go_ret
    exact ⟨rfl, rfl⟩
  · have hR : reck 11 w a b = shR 11 w a b := rfl
    rw [hR]
    clear hR
    clear hd hy0
    generalize shR 11 w a b = z at *
    generalize sgn w a = x at *
    generalize sgn w b = y at *
    go_enter Try.func137, Try.ntmps137
    go_wp2_with fail
    refine (hs _).mono ?_; rintro e w1 ⟨rfl, rfl⟩
    go_wp2_with fail
    refine (hs' _).mono ?_; rintro e w1 ⟨rfl, rfl⟩
    go_wp2_with (go_at_call 140; refine (hsh _).mono ?_; rintro e w1 ⟨rfl, rfl⟩)
    go_ret
    exact ⟨rfl, rfl⟩
  · have hR : reck 12 w a b = shR 12 w a b := rfl
    rw [hR]
    clear hR
    clear hd hy0
    generalize shR 12 w a b = z at *
    generalize sgn w a = x at *
    generalize sgn w b = y at *
    go_enter Try.func137, Try.ntmps137
    go_wp2_with fail
    refine (hs _).mono ?_; rintro e w1 ⟨rfl, rfl⟩
    go_wp2_with fail
    refine (hs' _).mono ?_; rintro e w1 ⟨rfl, rfl⟩
    go_wp2_with (go_at_call 140; refine (hsh _).mono ?_; rintro e w1 ⟨rfl, rfl⟩)
    go_ret
    exact ⟨rfl, rfl⟩
  · have hR : reck 13 w a b = shR 13 w a b := rfl
    rw [hR]
    clear hR
    clear hd hy0
    generalize shR 13 w a b = z at *
    generalize sgn w a = x at *
    generalize sgn w b = y at *
    go_enter Try.func137, Try.ntmps137
    go_wp2_with fail
    refine (hs _).mono ?_; rintro e w1 ⟨rfl, rfl⟩
    go_wp2_with fail
    refine (hs' _).mono ?_; rintro e w1 ⟨rfl, rfl⟩
    go_wp2_with (go_at_call 140; refine (hsh _).mono ?_; rintro e w1 ⟨rfl, rfl⟩)
    go_ret
    exact ⟨rfl, rfl⟩
  · have hR : reck 14 w a b = b01 (a == b) := rfl
    rw [hR]
    clear hR
    clear hd hy0
    clear hsh
    generalize sgn w a = x at *
    generalize sgn w b = y at *
    go_enter Try.func137, Try.ntmps137
    go_wp2_with fail
    refine (hs _).mono ?_; rintro e w1 ⟨rfl, rfl⟩
    go_wp2_with fail
    refine (hs' _).mono ?_; rintro e w1 ⟨rfl, rfl⟩
    go_wp2_with (go_at_call 139; refine (c_truth _ _).mono ?_; rintro e w1 ⟨rfl, rfl⟩)
    go_ret
    exact ⟨rfl, rfl⟩
  · have hR : reck 15 w a b = b01 (a != b) := rfl
    rw [hR]
    clear hR
    clear hd hy0
    clear hsh
    generalize sgn w a = x at *
    generalize sgn w b = y at *
    go_enter Try.func137, Try.ntmps137
    go_wp2_with fail
    refine (hs _).mono ?_; rintro e w1 ⟨rfl, rfl⟩
    go_wp2_with fail
    refine (hs' _).mono ?_; rintro e w1 ⟨rfl, rfl⟩
    go_wp2_with (go_at_call 139; refine (c_truth _ _).mono ?_; rintro e w1 ⟨rfl, rfl⟩)
    go_ret
    exact ⟨rfl, rfl⟩
  · have hR : reck 16 w a b = b01 (decide (a < b)) := rfl
    rw [hR]
    clear hR
    clear hd hy0
    clear hsh
    generalize sgn w a = x at *
    generalize sgn w b = y at *
    go_enter Try.func137, Try.ntmps137
    go_wp2_with fail
    refine (hs _).mono ?_; rintro e w1 ⟨rfl, rfl⟩
    go_wp2_with fail
    refine (hs' _).mono ?_; rintro e w1 ⟨rfl, rfl⟩
    go_wp2_with (go_at_call 139; refine (c_truth _ _).mono ?_; rintro e w1 ⟨rfl, rfl⟩)
    go_ret
    exact ⟨rfl, rfl⟩
  · have hR : reck 17 w a b = b01 (decide (sgn w a < sgn w b)) := rfl
    rw [hR]
    clear hR
    clear hd hy0
    clear hsh
    generalize sgn w a = x at *
    generalize sgn w b = y at *
    go_enter Try.func137, Try.ntmps137
    go_wp2_with fail
    refine (hs _).mono ?_; rintro e w1 ⟨rfl, rfl⟩
    go_wp2_with fail
    refine (hs' _).mono ?_; rintro e w1 ⟨rfl, rfl⟩
    go_wp2_with (go_at_call 139; refine (c_truth _ _).mono ?_; rintro e w1 ⟨rfl, rfl⟩)
    go_ret
    exact ⟨rfl, rfl⟩
end Go.Proofs.Ytdnbiohohbnhgaa
set_option linter.unusedSimpArgs false
set_option linter.unusedVariables false
namespace Go.Proofs.Ytdnbiohohbnhgaa
open Go.RowKit
theorem s_Masked (w n : Int) (W : World) : Calls Try.prog 62 #[.int .i64 w, .int .i64 n] W (Same (.int .i64 (mskd w n)) W) := by
  cases h : widthOk w
  · have hw := s_WidthOk w
    rw [h] at hw
    have hm : mskd w n = 0 := by unfold mskd; rw [h]; rfl
    rw [hm]
    clear h hm
    go_enter Try.func62, Try.ntmps62
    go_wp2_with fail
    refine (hw _).mono ?_; rintro e w1 ⟨rfl, rfl⟩
    go_wp2
    go_ret
    exact ⟨rfl, rfl⟩
  · have hw := s_WidthOk w
    rw [h] at hw
    have hk := fun W => s_l1Top w W h
    have hpb := pow_bd w h
    have hm : mskd w n = n % 2 ^ w.toNat := by unfold mskd; rw [h]; rfl
    rw [hm]
    have hl : w.toNat ≤ 32 := by rcases wd4 h with rfl | rfl | rfl | rfl <;> decide
    have ha := Hd.mk (and_mask n w.toNat hl)
    clear hm h hl
    generalize (2 : Int) ^ w.toNat = t at *
    obtain ⟨t1, t2⟩ := hpb
    go_enter Try.func62, Try.ntmps62
    go_wp2_with fail
    refine (hw _).mono ?_; rintro e w1 ⟨rfl, rfl⟩
    go_wp2_with fail
    refine (hk _).mono ?_; rintro e w1 ⟨rfl, rfl⟩
    go_wp2
    go_ret
    exact ⟨by rw [← ha.out]; rfl, rfl⟩
theorem pow_even {w : Int} (h : widthOk w = true) : ∃ s : Int, (2 : Int) ^ w.toNat = 2 * s := by
  rcases wd4 h with rfl | rfl | rfl | rfl
  · exact ⟨1, rfl⟩
  · exact ⟨128, rfl⟩
  · exact ⟨32768, rfl⟩
  · exact ⟨2147483648, rfl⟩
theorem s_l1Sign (w v : Int) (W : World) (h : isVal w v = true) : Calls Try.prog 101 #[.int .i64 w, .int .i64 v] W (Same (.int .i64 (sgn w v)) W) := by
  obtain ⟨v1, v2, hw, v3⟩ := val_rng h
  have hk := fun W => s_l1Top w W hw
  have hpb := pow_bd w hw
  have hev := pow_even hw
  clear h
  unfold sgn
  generalize (2 : Int) ^ w.toNat = t at *
  obtain ⟨t1, t2⟩ := hpb
  by_cases hs : t ≤ 2 * v
  · have ht : t / 2 ≤ v := by omega
    rw [if_pos hs]
    go_enter Try.func101, Try.ntmps101
    go_wp2_with (go_at_call 98; refine (hk _).mono ?_; rintro e w1 ⟨rfl, rfl⟩)
    go_ret
    exact ⟨rfl, rfl⟩
  · have ht : ¬ t / 2 ≤ v := by obtain ⟨s, hs'⟩ := hev; omega
    rw [if_neg hs]
    go_enter Try.func101, Try.ntmps101
    go_wp2_with (go_at_call 98; refine (hk _).mono ?_; rintro e w1 ⟨rfl, rfl⟩)
    go_ret
    exact ⟨rfl, rfl⟩
def shT (op w a b : Int) : Int := if op = 13 ∧ w ≤ b then sgn w a / 2 ^ (w.toNat - 1) else if w ≤ b then 0 else if op = 11 then wrap64 (a * 2 ^ b.toNat) else if op = 12 then a / 2 ^ b.toNat else sgn w a / 2 ^ b.toNat
theorem s_l1Shift (op w a b : Int) (W : World) (ha : isVal w a = true) (hb : isVal w b = true) : Calls Try.prog 129 #[.int .i64 op, .int .i64 w, .int .i64 a, .int .i64 b] W (Same (.int .i64 (shT op w a b)) W) := by
  unfold shT
  obtain ⟨a1, a2, -, -⟩ := val_rng ha
  obtain ⟨b1, b2, hw, -⟩ := val_rng hb
  have hs := fun W => s_l1Sign w a W ha
  have hsr := sgn_rng ha
  have hw32 : 1 ≤ w ∧ w ≤ 32 := by rcases wd4 hw with rfl | rfl | rfl | rfl <;> decide
  clear ha hb hw
  generalize sgn w a = x at *
  by_cases hlt : w ≤ b
  · by_cases h13 : op = 13
    · subst h13
      rw [if_pos ⟨rfl, hlt⟩]
      have hu : IntKind.u64.wrap (w - 1) = w - 1 := IntWalk.u64_in _ (by omega)
      have hu2 : IntKind.i64.wrap (w - 1) = w - 1 := IntWalk.i64_in _ (by omega)
      go_enter Try.func129, Try.ntmps129
      go_wp2_with (go_at_call 101; refine (hs _).mono ?_; rintro e w1 ⟨rfl, rfl⟩)
      go_ret
      exact ⟨rfl, rfl⟩
    · rw [if_neg (fun h => h13 h.1), if_pos hlt]
      have t13 := beqF h13
      go_enter Try.func129, Try.ntmps129
      go_wp2
      go_ret
      exact ⟨rfl, rfl⟩
  · rw [if_neg (fun h => hlt h.2), if_neg hlt]
    have hu : IntKind.u64.wrap b = b := IntWalk.u64_in _ (by omega)
    by_cases h11 : op = 11
    · subst h11
      rw [if_pos rfl]
      go_enter Try.func129, Try.ntmps129
      go_wp2
      go_ret
      exact ⟨rfl, rfl⟩
    · rw [if_neg h11]
      have t11 := beqF h11
      by_cases h12 : op = 12
      · subst h12
        rw [if_pos rfl]
        go_enter Try.func129, Try.ntmps129
        go_wp2
        go_ret
        exact ⟨rfl, rfl⟩
      · rw [if_neg h12]
        have t12 := beqF h12
        by_cases h13 : op = 13
        · subst h13
          go_enter Try.func129, Try.ntmps129
          go_wp2_with (go_at_call 101; refine (hs _).mono ?_; rintro e w1 ⟨rfl, rfl⟩)
          go_ret
          exact ⟨rfl, rfl⟩
        · have t13 := beqF h13
          go_enter Try.func129, Try.ntmps129
          go_wp2_with (go_at_call 101; refine (hs _).mono ?_; rintro e w1 ⟨rfl, rfl⟩)
          go_ret
          exact ⟨rfl, rfl⟩
theorem s_l1Divides (n : Int) (w : World) : Calls Try.prog 99 #[.int .i64 n] w (Same (.bool (inR n 4 7)) w) := by
  go_enter Try.func99, Try.ntmps99
  go_wp2_with (go_at_call 36; refine (s_l1In _ _ _ _).mono ?_; rintro e w' ⟨rfl, rfl⟩)
  go_ret
  exact ⟨rfl, rfl⟩
def two (op w a b : Int) : Int :=
  if op = 1 then (a + b) else
  if op = 2 then (a - b) else
  if op = 3 then (wrap64 (sgn w a * sgn w b)) else
  if op = 4 then (a / b) else
  if op = 5 then (wrap64 ((sgn w a).tdiv (sgn w b))) else
  if op = 6 then (a % b) else
  if op = 7 then ((sgn w a).tmod (sgn w b)) else
  if op = 8 then (bits .and .i64 a b) else
  if op = 9 then (bits .or .i64 a b) else
  if op = 10 then (bits .xor .i64 a b) else
  if op = 14 then (b01 (a == b)) else
  if op = 15 then (b01 (a != b)) else
  if op = 16 then (b01 (decide (a < b))) else
  if op = 17 then (b01 (decide (sgn w a < sgn w b))) else
  shT op w a b
set_option maxHeartbeats 4000000 in
theorem s_l1Two (op w a b : Int) (W : World) (ho : bin op = true) (ha : isVal w a = true) (hb : isVal w b = true) (hd : inR op 4 7 = true → b ≠ 0) : Calls Try.prog 100 #[.int .i64 op, .int .i64 w, .int .i64 a, .int .i64 b] W (Same (.int .i64 (two op w a b)) W) := by
  obtain ⟨a1, a2, -, -⟩ := val_rng ha
  obtain ⟨b1, b2, -, hb4⟩ := val_rng hb
  have hs := fun W => s_l1Sign w a W ha
  have hs' := fun W => s_l1Sign w b W hb
  have hr := sgn_rng ha
  have hr' := sgn_rng hb
  have hy0 : b ≠ 0 → sgn w b ≠ 0 := fun h => by unfold sgn; split <;> omega
  have hsh := fun W => s_l1Shift op w a b W ha hb
  unfold bin inR at ho
  simp only [Bool.and_eq_true, decide_eq_true_eq] at ho
  obtain ⟨o1, o2⟩ := ho
  clear ha hb hb4

  have hop : op = 1 ∨ op = 2 ∨ op = 3 ∨ op = 4 ∨ op = 5 ∨ op = 6 ∨ op = 7 ∨ op = 8 ∨ op = 9 ∨ op = 10 ∨ op = 11 ∨ op = 12 ∨ op = 13 ∨ op = 14 ∨ op = 15 ∨ op = 16 ∨ op = 17 := by omega
  clear o1 o2
  rcases hop with rfl | rfl | rfl | rfl | rfl | rfl | rfl | rfl | rfl | rfl | rfl | rfl | rfl | rfl | rfl | rfl | rfl
  · have hR : two 1 w a b = a + b := rfl
    rw [hR]
    clear hR
    clear hd hy0
    clear hsh
    generalize sgn w a = x at *
    generalize sgn w b = y at *
    go_enter Try.func100, Try.ntmps100
    go_wp2
    go_ret
    exact ⟨rfl, rfl⟩
  · have hR : two 2 w a b = a - b := rfl
    rw [hR]
    clear hR
    clear hd hy0
    clear hsh
    generalize sgn w a = x at *
    generalize sgn w b = y at *
    go_enter Try.func100, Try.ntmps100
    go_wp2
    go_ret
    exact ⟨rfl, rfl⟩
  · have hR : two 3 w a b = wrap64 (sgn w a * sgn w b) := rfl
    rw [hR]
    clear hR
    clear hd hy0
    clear hsh
    generalize sgn w a = x at *
    generalize sgn w b = y at *
    go_enter Try.func100, Try.ntmps100
    go_wp2_with fail
    refine (hs _).mono ?_; rintro e w1 ⟨rfl, rfl⟩
    go_wp2_with fail
    refine (hs' _).mono ?_; rintro e w1 ⟨rfl, rfl⟩
    go_wp2
    go_ret
    exact ⟨rfl, rfl⟩
  · have hR : two 4 w a b = a / b := rfl
    rw [hR]
    clear hR
    have hb0 : b ≠ 0 := hd (by decide)
    have hb1 : 1 ≤ b := by omega
    have hy := hy0 hb0
    clear hd hy0
    clear hsh
    generalize sgn w a = x at *
    generalize sgn w b = y at *
    go_enter Try.func100, Try.ntmps100
    go_wp2
    go_ret
    exact ⟨rfl, rfl⟩
  · have hR : two 5 w a b = wrap64 ((sgn w a).tdiv (sgn w b)) := rfl
    rw [hR]
    clear hR
    have hb0 : b ≠ 0 := hd (by decide)
    have hb1 : 1 ≤ b := by omega
    have hy := hy0 hb0
    clear hd hy0
    clear hsh
    generalize sgn w a = x at *
    generalize sgn w b = y at *
    go_enter Try.func100, Try.ntmps100
    go_wp2_with fail
    refine (hs _).mono ?_; rintro e w1 ⟨rfl, rfl⟩
    go_wp2_with fail
    refine (hs' _).mono ?_; rintro e w1 ⟨rfl, rfl⟩
    go_wp2
    go_ret
    exact ⟨rfl, rfl⟩
  · have hR : two 6 w a b = a % b := rfl
    rw [hR]
    clear hR
    have hb0 : b ≠ 0 := hd (by decide)
    have hb1 : 1 ≤ b := by omega
    have hy := hy0 hb0
    clear hd hy0
    clear hsh
    generalize sgn w a = x at *
    generalize sgn w b = y at *
    go_enter Try.func100, Try.ntmps100
    go_wp2
    go_ret
    exact ⟨rfl, rfl⟩
  · have hR : two 7 w a b = (sgn w a).tmod (sgn w b) := rfl
    rw [hR]
    clear hR
    have hb0 : b ≠ 0 := hd (by decide)
    have hb1 : 1 ≤ b := by omega
    have hy := hy0 hb0
    clear hd hy0
    clear hsh
    generalize sgn w a = x at *
    generalize sgn w b = y at *
    go_enter Try.func100, Try.ntmps100
    go_wp2_with fail
    refine (hs _).mono ?_; rintro e w1 ⟨rfl, rfl⟩
    go_wp2_with fail
    refine (hs' _).mono ?_; rintro e w1 ⟨rfl, rfl⟩
    go_wp2
    go_ret
    exact ⟨rfl, rfl⟩
  · have hR : two 8 w a b = bits .and .i64 a b := rfl
    rw [hR]
    clear hR
    clear hd hy0
    clear hsh
    generalize sgn w a = x at *
    generalize sgn w b = y at *
    go_enter Try.func100, Try.ntmps100
    go_wp2
    go_ret
    exact ⟨rfl, rfl⟩
  · have hR : two 9 w a b = bits .or .i64 a b := rfl
    rw [hR]
    clear hR
    clear hd hy0
    clear hsh
    generalize sgn w a = x at *
    generalize sgn w b = y at *
    go_enter Try.func100, Try.ntmps100
    go_wp2
    go_ret
    exact ⟨rfl, rfl⟩
  · have hR : two 10 w a b = bits .xor .i64 a b := rfl
    rw [hR]
    clear hR
    clear hd hy0
    clear hsh
    generalize sgn w a = x at *
    generalize sgn w b = y at *
    go_enter Try.func100, Try.ntmps100
    go_wp2
    go_ret
    exact ⟨rfl, rfl⟩
  · have hR : two 11 w a b = shT 11 w a b := rfl
    rw [hR]
    clear hR
    clear hd hy0
    generalize shT 11 w a b = z at *
    generalize sgn w a = x at *
    generalize sgn w b = y at *
    go_enter Try.func100, Try.ntmps100
    go_wp2_with (go_at_call 129; refine (hsh _).mono ?_; rintro e w1 ⟨rfl, rfl⟩)
    go_ret
    exact ⟨rfl, rfl⟩
  · have hR : two 12 w a b = shT 12 w a b := rfl
    rw [hR]
    clear hR
    clear hd hy0
    generalize shT 12 w a b = z at *
    generalize sgn w a = x at *
    generalize sgn w b = y at *
    go_enter Try.func100, Try.ntmps100
    go_wp2_with (go_at_call 129; refine (hsh _).mono ?_; rintro e w1 ⟨rfl, rfl⟩)
    go_ret
    exact ⟨rfl, rfl⟩
  · have hR : two 13 w a b = shT 13 w a b := rfl
    rw [hR]
    clear hR
    clear hd hy0
    generalize shT 13 w a b = z at *
    generalize sgn w a = x at *
    generalize sgn w b = y at *
    go_enter Try.func100, Try.ntmps100
    go_wp2_with (go_at_call 129; refine (hsh _).mono ?_; rintro e w1 ⟨rfl, rfl⟩)
    go_ret
    exact ⟨rfl, rfl⟩
  · have hR : two 14 w a b = b01 (a == b) := rfl
    rw [hR]
    clear hR
    clear hd hy0
    clear hsh
    generalize sgn w a = x at *
    generalize sgn w b = y at *
    go_enter Try.func100, Try.ntmps100
    go_wp2_with (go_at_call 128; refine (s_l1Bit _ _).mono ?_; rintro e w1 ⟨rfl, rfl⟩)
    go_ret
    exact ⟨rfl, rfl⟩
  · have hR : two 15 w a b = b01 (a != b) := rfl
    rw [hR]
    clear hR
    clear hd hy0
    clear hsh
    generalize sgn w a = x at *
    generalize sgn w b = y at *
    go_enter Try.func100, Try.ntmps100
    go_wp2_with (go_at_call 128; refine (s_l1Bit _ _).mono ?_; rintro e w1 ⟨rfl, rfl⟩)
    go_ret
    exact ⟨rfl, rfl⟩
  · have hR : two 16 w a b = b01 (decide (a < b)) := rfl
    rw [hR]
    clear hR
    clear hd hy0
    clear hsh
    generalize sgn w a = x at *
    generalize sgn w b = y at *
    go_enter Try.func100, Try.ntmps100
    go_wp2_with (go_at_call 128; refine (s_l1Bit _ _).mono ?_; rintro e w1 ⟨rfl, rfl⟩)
    go_ret
    exact ⟨rfl, rfl⟩
  · have hR : two 17 w a b = b01 (decide (sgn w a < sgn w b)) := rfl
    rw [hR]
    clear hR
    clear hd hy0
    clear hsh
    generalize sgn w a = x at *
    generalize sgn w b = y at *
    go_enter Try.func100, Try.ntmps100
    go_wp2_with fail
    refine (hs _).mono ?_; rintro e w1 ⟨rfl, rfl⟩
    go_wp2_with fail
    refine (hs' _).mono ?_; rintro e w1 ⟨rfl, rfl⟩
    go_wp2_with (go_at_call 128; refine (s_l1Bit _ _).mono ?_; rintro e w1 ⟨rfl, rfl⟩)
    go_ret
    exact ⟨rfl, rfl⟩
end Go.Proofs.Ytdnbiohohbnhgaa
set_option linter.unusedSimpArgs false
set_option linter.unusedVariables false
namespace Go.Proofs.Ytdnbiohohbnhgaa
open Go.RowKit
theorem mskd_wrap (w n : Int) : mskd w (wrap64 n) = mskd w n := by
  unfold mskd
  cases h : widthOk w
  · rfl
  · rw [if_pos rfl, if_pos rfl]
    unfold wrap64
    rcases wd4 h with rfl | rfl | rfl | rfl
    · show _ % (2 : Int) = _ % (2 : Int); omega
    · show _ % (256 : Int) = _ % (256 : Int); omega
    · show _ % (65536 : Int) = _ % (65536 : Int); omega
    · show _ % (4294967296 : Int) = _ % (4294967296 : Int); omega
theorem sgn_mod (w v : Int) : sgn w v % 2 ^ w.toNat = v % 2 ^ w.toNat := by
  unfold sgn
  split
  · rw [Int.sub_emod_right]
  · rfl
theorem mskd_mul (w a b : Int) : mskd w (a * b) = mskd w (sgn w a * sgn w b) := by
  unfold mskd
  split
  · rw [Int.mul_emod, Int.mul_emod (sgn w a), sgn_mod, sgn_mod]
  · rfl
theorem div_small (x c d : Int) (h1 : -c ≤ x) (h2 : x < c) (h3 : c ≤ d) : x / d = if x < 0 then -1 else 0 := by
  split
  · have hd : 0 < d := by omega
    exact (((Int.ediv_emod_unique hd).2 ⟨(by omega : (x + d) + d * (-1) = x), by omega, by omega⟩).1)
  · exact Int.ediv_eq_zero_of_lt (by omega) (by omega)
theorem sh_same (op w a b : Int) (ho : 11 ≤ op ∧ op ≤ 13) (ha : isVal w a = true) (hb : isVal w b = true) : shR op w a b = shT op w a b := by
  obtain ⟨a1, a2, hw, a4⟩ := val_rng ha
  obtain ⟨b1, b2, -, b4⟩ := val_rng hb
  have hw32 : 1 ≤ w ∧ w ≤ 32 := by rcases wd4 hw with rfl | rfl | rfl | rfl <;> decide
  unfold shR shT
  by_cases h13 : op = 13
  · subst h13
    by_cases hlt : w ≤ b
    · rw [if_pos rfl, if_pos ⟨rfl, hlt⟩]
      have hp : (2 : Int) ^ w.toNat = 2 * 2 ^ (w.toNat - 1) := by
        obtain ⟨k, hk⟩ : ∃ k, w.toNat = k + 1 := ⟨w.toNat - 1, by omega⟩
        rw [hk, Int.pow_succ, Nat.add_sub_cancel, Int.mul_comm]
      have hq : (2 : Int) ^ (w.toNat - 1) ≤ 2 ^ (min b 63).toNat := by
        have h := Nat.pow_le_pow_right (show 0 < 2 by decide) (show w.toNat - 1 ≤ (min b 63).toNat by omega)
        have h' := Int.ofNat_le.2 h
        simpa using h'
      have h0 : (0 : Int) < 2 ^ (w.toNat - 1) := Int.pow_pos (by decide)
      have hs : -(2 ^ (w.toNat - 1)) ≤ sgn w a ∧ sgn w a < 2 ^ (w.toNat - 1) := by
        unfold sgn
        rw [hp] at a4 ⊢
        split <;> omega
      rw [div_small _ _ _ hs.1 hs.2 hq, div_small _ _ _ hs.1 hs.2 (Int.le_refl _)]
    · rw [if_pos rfl, if_neg (fun h => hlt h.2), if_neg hlt, if_neg (by decide), if_neg (by decide), Int.min_eq_left (by omega)]
  · have hn : ¬ (op = 13 ∧ w ≤ b) := fun h => h13 h.1
    rw [if_neg h13, if_neg hn]
    by_cases hlt : w ≤ b
    · rw [if_pos hlt, if_pos hlt]
    · rw [if_neg hlt, if_neg hlt]
      by_cases h11 : op = 11
      · rw [if_pos h11, if_pos h11]
      · rw [if_neg h11, if_neg h11, if_pos (by omega)]
theorem two_same (op w a b : Int) (ho : bin op = true) (ha : isVal w a = true) (hb : isVal w b = true) : mskd w (reck op w a b) = mskd w (two op w a b) := by
  unfold bin inR at ho
  simp only [Bool.and_eq_true, decide_eq_true_eq] at ho
  by_cases h3 : op = 3
  · subst h3
    show mskd w (wrap64 (a * b)) = mskd w (wrap64 (sgn w a * sgn w b))
    rw [mskd_wrap, mskd_wrap, mskd_mul]
  · congr 1
    unfold reck two
    rw [if_neg h3, if_neg h3]
    by_cases hs : 11 ≤ op ∧ op ≤ 13
    · rw [sh_same op w a b hs ha hb]
    · have : op = 1 ∨ op = 2 ∨ op = 4 ∨ op = 5 ∨ op = 6 ∨ op = 7 ∨ op = 8 ∨ op = 9 ∨ op = 10 ∨ op = 14 ∨ op = 15 ∨ op = 16 ∨ op = 17 := by omega
      rcases this with rfl | rfl | rfl | rfl | rfl | rfl | rfl | rfl | rfl | rfl | rfl | rfl | rfl <;> rfl
/-- What a binary operation gives, and the code. -/
def binV (op w a b : Int) : Int × Int :=
  if !(bin op && isVal w a && isVal w b) then (0, 2)
  else if inR op 4 7 && b == 0 then (0, 1)
  else (mskd w (two op w a b), 0)
def castV (op f t v : Int) : Int × Bool :=
  if !(isVal f v && widthOk t) then (0, false)
  else if op == 18 && decide (f < t) then (v, true)
  else if op == 19 && decide (f < t) then (mskd t (sgn f v), true)
  else if op == 20 && decide (t < f) then (mskd t v, true)
  else (0, false)
set_option maxHeartbeats 1000000 in
theorem c_Binary (op w a b : Int) (W : World) : Calls Try.prog 132 #[.int .i64 op, .int .i64 w, .int .i64 a, .int .i64 b] W (Same (.tuple #[.int .i64 (binV op w a b).1, .int .i64 (binV op w a b).2]) W) := by
  have h1 := fun W => c_isBinary op W
  have h2 := fun W => c_isValue w a W
  have h3 := fun W => c_isValue w b W
  have h4 := fun W => c_isDivision op W
  have h5 := fun ho ha hb hd W => c_reckoned op w a b W ho ha hb hd
  have h6 := fun W => c_Masked w (reck op w a b) W
  have hsame := fun ho ha hb => two_same op w a b ho ha hb
  cases ho : bin op
  · have hR : binV op w a b = (0, 2) := by unfold binV; rw [ho]; rfl
    rw [ho] at h1; rw [hR]
    clear h2 h3 h4 h5 h6 ho hR hsame
    go_enter Try.func132, Try.ntmps132
    go_wp2_with fail
    refine (h1 _).mono ?_; rintro e w1 ⟨rfl, rfl⟩
    go_wp2
    go_ret2
    exact ⟨rfl, rfl⟩
  cases ha : isVal w a
  · have hR : binV op w a b = (0, 2) := by unfold binV; rw [ho, ha]; rfl
    rw [ho] at h1; rw [ha] at h2; rw [hR]
    clear h3 h4 h5 h6 ho ha hR hsame
    go_enter Try.func132, Try.ntmps132
    go_wp2_with fail
    refine (h1 _).mono ?_; rintro e w1 ⟨rfl, rfl⟩
    go_wp2_with fail
    refine (h2 _).mono ?_; rintro e w1 ⟨rfl, rfl⟩
    go_wp2
    go_ret2
    exact ⟨rfl, rfl⟩
  cases hb : isVal w b
  · have hR : binV op w a b = (0, 2) := by unfold binV; rw [ho, ha, hb]; rfl
    rw [ho] at h1; rw [ha] at h2; rw [hb] at h3; rw [hR]
    clear h4 h5 h6 ho ha hb hR hsame
    go_enter Try.func132, Try.ntmps132
    go_wp2_with fail
    refine (h1 _).mono ?_; rintro e w1 ⟨rfl, rfl⟩
    go_wp2_with fail
    refine (h2 _).mono ?_; rintro e w1 ⟨rfl, rfl⟩
    go_wp2_with fail
    refine (h3 _).mono ?_; rintro e w1 ⟨rfl, rfl⟩
    go_wp2
    go_ret2
    exact ⟨rfl, rfl⟩
  rw [ho] at h1; rw [ha] at h2; rw [hb] at h3
  obtain ⟨-, b2, -, -⟩ := val_rng hb
  cases hd : inR op 4 7
  · have hR : binV op w a b = (mskd w (two op w a b), 0) := by unfold binV; rw [ho, ha, hb, hd]; rfl
    have h5' := fun W => h5 ho ha hb (fun h => by rw [hd] at h; cases h) W
    rw [hd] at h4; rw [hR]
    rw [← hsame ho ha hb]
    clear h5 ho ha hb hd hR hsame
    generalize reck op w a b = r at *
    go_enter Try.func132, Try.ntmps132
    go_wp2_with fail
    refine (h1 _).mono ?_; rintro e w1 ⟨rfl, rfl⟩
    go_wp2_with fail
    refine (h2 _).mono ?_; rintro e w1 ⟨rfl, rfl⟩
    go_wp2_with fail
    refine (h3 _).mono ?_; rintro e w1 ⟨rfl, rfl⟩
    go_wp2_with fail
    refine (h4 _).mono ?_; rintro e w1 ⟨rfl, rfl⟩
    go_wp2_with fail
    refine (h5' _).mono ?_; rintro e w1 ⟨rfl, rfl⟩
    go_wp2_with fail
    refine (h6 _).mono ?_; rintro e w1 ⟨rfl, rfl⟩
    go_wp2
    go_ret2
    exact ⟨rfl, rfl⟩
  · by_cases h0 : b = 0
    · subst h0
      have hR : binV op w a 0 = (0, 1) := by unfold binV; rw [ho, ha, hb, hd]; rfl
      rw [hd] at h4; rw [hR]
      clear h5 h6 ho ha hb hd hR hsame
      go_enter Try.func132, Try.ntmps132
      go_wp2_with fail
      refine (h1 _).mono ?_; rintro e w1 ⟨rfl, rfl⟩
      go_wp2_with fail
      refine (h2 _).mono ?_; rintro e w1 ⟨rfl, rfl⟩
      go_wp2_with fail
      refine (h3 _).mono ?_; rintro e w1 ⟨rfl, rfl⟩
      go_wp2_with fail
      refine (h4 _).mono ?_; rintro e w1 ⟨rfl, rfl⟩
      go_wp2
      go_ret2
      exact ⟨rfl, rfl⟩
    · have hR : binV op w a b = (mskd w (two op w a b), 0) := by unfold binV; rw [ho, ha, hb, hd, beqF h0]; rfl
      have h5' := fun W => h5 ho ha hb (fun _ => h0) W
      have t0 := beqF h0
      rw [hd] at h4; rw [hR]
      rw [← hsame ho ha hb]
      clear h5 ho ha hb hd hR h0 hsame
      generalize reck op w a b = r at *
      go_enter Try.func132, Try.ntmps132
      go_wp2_with fail
      refine (h1 _).mono ?_; rintro e w1 ⟨rfl, rfl⟩
      go_wp2_with fail
      refine (h2 _).mono ?_; rintro e w1 ⟨rfl, rfl⟩
      go_wp2_with fail
      refine (h3 _).mono ?_; rintro e w1 ⟨rfl, rfl⟩
      go_wp2_with fail
      refine (h4 _).mono ?_; rintro e w1 ⟨rfl, rfl⟩
      go_wp2_with fail
      refine (h5' _).mono ?_; rintro e w1 ⟨rfl, rfl⟩
      go_wp2_with fail
      refine (h6 _).mono ?_; rintro e w1 ⟨rfl, rfl⟩
      go_wp2
      go_ret2
      exact ⟨rfl, rfl⟩
set_option maxHeartbeats 1000000 in
theorem s_Binary (op w a b : Int) (W : World) : Calls Try.prog 61 #[.int .i64 op, .int .i64 w, .int .i64 a, .int .i64 b] W (Same (.tuple #[.int .i64 (binV op w a b).1, .int .i64 (binV op w a b).2]) W) := by
  have h1 := fun W => s_l1In op 1 17 W
  change ∀ W, Calls Try.prog 36 #[.int .i64 op, .int .i64 1, .int .i64 17] W (Same (.bool (bin op)) W) at h1
  have h2 := fun W => s_l1Value w a W
  have h3 := fun W => s_l1Value w b W
  have h4 := fun W => s_l1Divides op W
  have h5 := fun ho ha hb hd W => s_l1Two op w a b W ho ha hb hd
  have h6 := fun W => s_Masked w (two op w a b) W
  cases ho : bin op
  · have hR : binV op w a b = (0, 2) := by unfold binV; rw [ho]; rfl
    rw [ho] at h1; rw [hR]
    clear h2 h3 h4 h5 h6 ho hR 
    go_enter Try.func61, Try.ntmps61
    go_wp2_with fail
    refine (h1 _).mono ?_; rintro e w1 ⟨rfl, rfl⟩
    go_wp2
    go_ret2
    exact ⟨rfl, rfl⟩
  cases ha : isVal w a
  · have hR : binV op w a b = (0, 2) := by unfold binV; rw [ho, ha]; rfl
    rw [ho] at h1; rw [ha] at h2; rw [hR]
    clear h3 h4 h5 h6 ho ha hR 
    go_enter Try.func61, Try.ntmps61
    go_wp2_with fail
    refine (h1 _).mono ?_; rintro e w1 ⟨rfl, rfl⟩
    go_wp2_with fail
    refine (h2 _).mono ?_; rintro e w1 ⟨rfl, rfl⟩
    go_wp2
    go_ret2
    exact ⟨rfl, rfl⟩
  cases hb : isVal w b
  · have hR : binV op w a b = (0, 2) := by unfold binV; rw [ho, ha, hb]; rfl
    rw [ho] at h1; rw [ha] at h2; rw [hb] at h3; rw [hR]
    clear h4 h5 h6 ho ha hb hR 
    go_enter Try.func61, Try.ntmps61
    go_wp2_with fail
    refine (h1 _).mono ?_; rintro e w1 ⟨rfl, rfl⟩
    go_wp2_with fail
    refine (h2 _).mono ?_; rintro e w1 ⟨rfl, rfl⟩
    go_wp2_with fail
    refine (h3 _).mono ?_; rintro e w1 ⟨rfl, rfl⟩
    go_wp2
    go_ret2
    exact ⟨rfl, rfl⟩
  rw [ho] at h1; rw [ha] at h2; rw [hb] at h3
  obtain ⟨-, b2, -, -⟩ := val_rng hb
  cases hd : inR op 4 7
  · have hR : binV op w a b = (mskd w (two op w a b), 0) := by unfold binV; rw [ho, ha, hb, hd]; rfl
    have h5' := fun W => h5 ho ha hb (fun h => by rw [hd] at h; cases h) W
    rw [hd] at h4; rw [hR]
    skip
    clear h5 ho ha hb hd hR 
    generalize two op w a b = r at *
    go_enter Try.func61, Try.ntmps61
    go_wp2_with fail
    refine (h1 _).mono ?_; rintro e w1 ⟨rfl, rfl⟩
    go_wp2_with fail
    refine (h2 _).mono ?_; rintro e w1 ⟨rfl, rfl⟩
    go_wp2_with fail
    refine (h3 _).mono ?_; rintro e w1 ⟨rfl, rfl⟩
    go_wp2_with fail
    refine (h4 _).mono ?_; rintro e w1 ⟨rfl, rfl⟩
    go_wp2_with fail
    refine (h5' _).mono ?_; rintro e w1 ⟨rfl, rfl⟩
    go_wp2_with fail
    refine (h6 _).mono ?_; rintro e w1 ⟨rfl, rfl⟩
    go_wp2
    go_ret2
    exact ⟨rfl, rfl⟩
  · by_cases h0 : b = 0
    · subst h0
      have hR : binV op w a 0 = (0, 1) := by unfold binV; rw [ho, ha, hb, hd]; rfl
      rw [hd] at h4; rw [hR]
      clear h5 h6 ho ha hb hd hR 
      go_enter Try.func61, Try.ntmps61
      go_wp2_with fail
      refine (h1 _).mono ?_; rintro e w1 ⟨rfl, rfl⟩
      go_wp2_with fail
      refine (h2 _).mono ?_; rintro e w1 ⟨rfl, rfl⟩
      go_wp2_with fail
      refine (h3 _).mono ?_; rintro e w1 ⟨rfl, rfl⟩
      go_wp2_with fail
      refine (h4 _).mono ?_; rintro e w1 ⟨rfl, rfl⟩
      go_wp2
      go_ret2
      exact ⟨rfl, rfl⟩
    · have hR : binV op w a b = (mskd w (two op w a b), 0) := by unfold binV; rw [ho, ha, hb, hd, beqF h0]; rfl
      have h5' := fun W => h5 ho ha hb (fun _ => h0) W
      have t0 := beqF h0
      rw [hd] at h4; rw [hR]
      skip
      clear h5 ho ha hb hd hR h0 
      generalize two op w a b = r at *
      go_enter Try.func61, Try.ntmps61
      go_wp2_with fail
      refine (h1 _).mono ?_; rintro e w1 ⟨rfl, rfl⟩
      go_wp2_with fail
      refine (h2 _).mono ?_; rintro e w1 ⟨rfl, rfl⟩
      go_wp2_with fail
      refine (h3 _).mono ?_; rintro e w1 ⟨rfl, rfl⟩
      go_wp2_with fail
      refine (h4 _).mono ?_; rintro e w1 ⟨rfl, rfl⟩
      go_wp2_with fail
      refine (h5' _).mono ?_; rintro e w1 ⟨rfl, rfl⟩
      go_wp2_with fail
      refine (h6 _).mono ?_; rintro e w1 ⟨rfl, rfl⟩
      go_wp2
      go_ret2
      exact ⟨rfl, rfl⟩
set_option maxHeartbeats 1000000 in
theorem c_Casted (op f t v : Int) (W : World) : Calls Try.prog 133 #[.int .i64 op, .int .i64 f, .int .i64 t, .int .i64 v] W (Same (.tuple #[.int .i64 (castV op f t v).1, .bool (castV op f t v).2]) W) := by
  have h1 := fun W => c_isValue f v W
  have h2 := fun W => c_WidthOk t W
  have h3 := fun h W => c_signOf f v W h
  have h4 := fun W => c_Masked t (sgn f v) W
  have h5 := fun W => c_Masked t v W
  cases ha : isVal f v
  · have hR : castV op f t v = (0, false) := by unfold castV; rw [ha]; rfl
    rw [ha] at h1; rw [hR]
    clear h2 h3 h4 h5 ha hR
    go_enter Try.func133, Try.ntmps133
    go_wp2_with fail
    refine (h1 _).mono ?_; rintro e w1 ⟨rfl, rfl⟩
    go_wp2
    go_ret2
    exact ⟨rfl, rfl⟩
  cases hw : widthOk t
  · have hR : castV op f t v = (0, false) := by unfold castV; rw [ha, hw]; rfl
    rw [ha] at h1; rw [hw] at h2; rw [hR]
    clear h3 h4 h5 ha hw hR
    go_enter Try.func133, Try.ntmps133
    go_wp2_with fail
    refine (h1 _).mono ?_; rintro e w1 ⟨rfl, rfl⟩
    go_wp2_with fail
    refine (h2 _).mono ?_; rintro e w1 ⟨rfl, rfl⟩
    go_wp2
    go_ret2
    exact ⟨rfl, rfl⟩
  have hR : castV op f t v = (if op == 18 && decide (f < t) then (v, true) else if op == 19 && decide (f < t) then (mskd t (sgn f v), true) else if op == 20 && decide (t < f) then (mskd t v, true) else (0, false)) := by unfold castV; rw [ha, hw]; rfl
  have h3' := fun W => h3 ha W
  rw [ha] at h1; rw [hw] at h2; rw [hR]
  clear h3 ha hw hR
  generalize mskd t (sgn f v) = x at *
  generalize mskd t v = y at *
  generalize sgn f v = z at *
  by_cases l1 : f < t
  · have d1 : decide (f < t) = true := by simpa using l1
    have d2 : decide (t < f) = false := by simp; omega
    rw [d1, d2]
    by_cases o1 : op = 18
    · subst o1
      go_enter Try.func133, Try.ntmps133
      go_wp2_with fail
      refine (h1 _).mono ?_; rintro e w1 ⟨rfl, rfl⟩
      go_wp2_with fail
      refine (h2 _).mono ?_; rintro e w1 ⟨rfl, rfl⟩
      go_wp2
      go_ret2
      exact ⟨rfl, rfl⟩
    · have t1 := beqF o1
      by_cases o2 : op = 19
      · subst o2
        go_enter Try.func133, Try.ntmps133
        go_wp2_with fail
        refine (h1 _).mono ?_; rintro e w1 ⟨rfl, rfl⟩
        go_wp2_with fail
        refine (h2 _).mono ?_; rintro e w1 ⟨rfl, rfl⟩
        go_wp2_with fail
        refine (h3' _).mono ?_; rintro e w1 ⟨rfl, rfl⟩
        go_wp2_with fail
        refine (h4 _).mono ?_; rintro e w1 ⟨rfl, rfl⟩
        go_wp2
        go_ret2
        exact ⟨rfl, rfl⟩
      · have t2 := beqF o2
        rw [t1, t2, Bool.and_false]
        by_cases o3 : op = 20
        · subst o3
          go_enter Try.func133, Try.ntmps133
          go_wp2_with fail
          refine (h1 _).mono ?_; rintro e w1 ⟨rfl, rfl⟩
          go_wp2_with fail
          refine (h2 _).mono ?_; rintro e w1 ⟨rfl, rfl⟩
          go_wp2
          go_ret2
          exact ⟨rfl, rfl⟩
        · have t3 := beqF o3
          go_enter Try.func133, Try.ntmps133
          go_wp2_with fail
          refine (h1 _).mono ?_; rintro e w1 ⟨rfl, rfl⟩
          go_wp2_with fail
          refine (h2 _).mono ?_; rintro e w1 ⟨rfl, rfl⟩
          go_wp2
          go_ret2
          exact ⟨rfl, rfl⟩
  · have d1 : decide (f < t) = false := by simpa using l1
    rw [d1, Bool.and_false, Bool.and_false]
    by_cases o3 : op = 20
    · subst o3
      by_cases l2 : t < f
      · have d2 : decide (t < f) = true := by simpa using l2
        rw [d2]
        go_enter Try.func133, Try.ntmps133
        go_wp2_with fail
        refine (h1 _).mono ?_; rintro e w1 ⟨rfl, rfl⟩
        go_wp2_with fail
        refine (h2 _).mono ?_; rintro e w1 ⟨rfl, rfl⟩
        go_wp2_with fail
        refine (h5 _).mono ?_; rintro e w1 ⟨rfl, rfl⟩
        go_wp2
        go_ret2
        exact ⟨rfl, rfl⟩
      · have d2 : decide (t < f) = false := by simpa using l2
        rw [d2]
        go_enter Try.func133, Try.ntmps133
        go_wp2_with fail
        refine (h1 _).mono ?_; rintro e w1 ⟨rfl, rfl⟩
        go_wp2_with fail
        refine (h2 _).mono ?_; rintro e w1 ⟨rfl, rfl⟩
        go_wp2
        go_ret2
        exact ⟨rfl, rfl⟩
    · have t3 := beqF o3
      rw [t3, Bool.false_and]
      by_cases o1 : op = 18
      · subst o1
        go_enter Try.func133, Try.ntmps133
        go_wp2_with fail
        refine (h1 _).mono ?_; rintro e w1 ⟨rfl, rfl⟩
        go_wp2_with fail
        refine (h2 _).mono ?_; rintro e w1 ⟨rfl, rfl⟩
        go_wp2
        go_ret2
        exact ⟨rfl, rfl⟩
      · have t1 := beqF o1
        by_cases o2 : op = 19
        · subst o2
          go_enter Try.func133, Try.ntmps133
          go_wp2_with fail
          refine (h1 _).mono ?_; rintro e w1 ⟨rfl, rfl⟩
          go_wp2_with fail
          refine (h2 _).mono ?_; rintro e w1 ⟨rfl, rfl⟩
          go_wp2
          go_ret2
          exact ⟨rfl, rfl⟩
        · have t2 := beqF o2
          go_enter Try.func133, Try.ntmps133
          go_wp2_with fail
          refine (h1 _).mono ?_; rintro e w1 ⟨rfl, rfl⟩
          go_wp2_with fail
          refine (h2 _).mono ?_; rintro e w1 ⟨rfl, rfl⟩
          go_wp2
          go_ret2
          exact ⟨rfl, rfl⟩
set_option maxHeartbeats 1000000 in
theorem s_Casted (op f t v : Int) (W : World) : Calls Try.prog 63 #[.int .i64 op, .int .i64 f, .int .i64 t, .int .i64 v] W (Same (.tuple #[.int .i64 (castV op f t v).1, .bool (castV op f t v).2]) W) := by
  have h1 := fun W => s_l1Value f v W
  have h2 := fun W => s_WidthOk t W
  have h3 := fun h W => s_l1Sign f v W h
  have h4 := fun W => s_Masked t (sgn f v) W
  have h5 := fun W => s_Masked t v W
  cases ha : isVal f v
  · have hR : castV op f t v = (0, false) := by unfold castV; rw [ha]; rfl
    rw [ha] at h1; rw [hR]
    clear h2 h3 h4 h5 ha hR
    go_enter Try.func63, Try.ntmps63
    go_wp2_with fail
    refine (h1 _).mono ?_; rintro e w1 ⟨rfl, rfl⟩
    go_wp2
    go_ret2
    exact ⟨rfl, rfl⟩
  cases hw : widthOk t
  · have hR : castV op f t v = (0, false) := by unfold castV; rw [ha, hw]; rfl
    rw [ha] at h1; rw [hw] at h2; rw [hR]
    clear h3 h4 h5 ha hw hR
    go_enter Try.func63, Try.ntmps63
    go_wp2_with fail
    refine (h1 _).mono ?_; rintro e w1 ⟨rfl, rfl⟩
    go_wp2_with fail
    refine (h2 _).mono ?_; rintro e w1 ⟨rfl, rfl⟩
    go_wp2
    go_ret2
    exact ⟨rfl, rfl⟩
  have hR : castV op f t v = (if op == 18 && decide (f < t) then (v, true) else if op == 19 && decide (f < t) then (mskd t (sgn f v), true) else if op == 20 && decide (t < f) then (mskd t v, true) else (0, false)) := by unfold castV; rw [ha, hw]; rfl
  have h3' := fun W => h3 ha W
  rw [ha] at h1; rw [hw] at h2; rw [hR]
  clear h3 ha hw hR
  generalize mskd t (sgn f v) = x at *
  generalize mskd t v = y at *
  generalize sgn f v = z at *
  by_cases l1 : f < t
  · have d1 : decide (f < t) = true := by simpa using l1
    have d2 : decide (t < f) = false := by simp; omega
    rw [d1, d2]
    by_cases o1 : op = 18
    · subst o1
      go_enter Try.func63, Try.ntmps63
      go_wp2_with fail
      refine (h1 _).mono ?_; rintro e w1 ⟨rfl, rfl⟩
      go_wp2_with fail
      refine (h2 _).mono ?_; rintro e w1 ⟨rfl, rfl⟩
      go_wp2
      go_ret2
      exact ⟨rfl, rfl⟩
    · have t1 := beqF o1
      by_cases o2 : op = 19
      · subst o2
        go_enter Try.func63, Try.ntmps63
        go_wp2_with fail
        refine (h1 _).mono ?_; rintro e w1 ⟨rfl, rfl⟩
        go_wp2_with fail
        refine (h2 _).mono ?_; rintro e w1 ⟨rfl, rfl⟩
        go_wp2_with fail
        refine (h3' _).mono ?_; rintro e w1 ⟨rfl, rfl⟩
        go_wp2_with fail
        refine (h4 _).mono ?_; rintro e w1 ⟨rfl, rfl⟩
        go_wp2
        go_ret2
        exact ⟨rfl, rfl⟩
      · have t2 := beqF o2
        rw [t1, t2, Bool.and_false]
        by_cases o3 : op = 20
        · subst o3
          go_enter Try.func63, Try.ntmps63
          go_wp2_with fail
          refine (h1 _).mono ?_; rintro e w1 ⟨rfl, rfl⟩
          go_wp2_with fail
          refine (h2 _).mono ?_; rintro e w1 ⟨rfl, rfl⟩
          go_wp2
          go_ret2
          exact ⟨rfl, rfl⟩
        · have t3 := beqF o3
          go_enter Try.func63, Try.ntmps63
          go_wp2_with fail
          refine (h1 _).mono ?_; rintro e w1 ⟨rfl, rfl⟩
          go_wp2_with fail
          refine (h2 _).mono ?_; rintro e w1 ⟨rfl, rfl⟩
          go_wp2
          go_ret2
          exact ⟨rfl, rfl⟩
  · have d1 : decide (f < t) = false := by simpa using l1
    rw [d1, Bool.and_false, Bool.and_false]
    by_cases o3 : op = 20
    · subst o3
      by_cases l2 : t < f
      · have d2 : decide (t < f) = true := by simpa using l2
        rw [d2]
        go_enter Try.func63, Try.ntmps63
        go_wp2_with fail
        refine (h1 _).mono ?_; rintro e w1 ⟨rfl, rfl⟩
        go_wp2_with fail
        refine (h2 _).mono ?_; rintro e w1 ⟨rfl, rfl⟩
        go_wp2_with fail
        refine (h5 _).mono ?_; rintro e w1 ⟨rfl, rfl⟩
        go_wp2
        go_ret2
        exact ⟨rfl, rfl⟩
      · have d2 : decide (t < f) = false := by simpa using l2
        rw [d2]
        go_enter Try.func63, Try.ntmps63
        go_wp2_with fail
        refine (h1 _).mono ?_; rintro e w1 ⟨rfl, rfl⟩
        go_wp2_with fail
        refine (h2 _).mono ?_; rintro e w1 ⟨rfl, rfl⟩
        go_wp2
        go_ret2
        exact ⟨rfl, rfl⟩
    · have t3 := beqF o3
      rw [t3, Bool.false_and]
      by_cases o1 : op = 18
      · subst o1
        go_enter Try.func63, Try.ntmps63
        go_wp2_with fail
        refine (h1 _).mono ?_; rintro e w1 ⟨rfl, rfl⟩
        go_wp2_with fail
        refine (h2 _).mono ?_; rintro e w1 ⟨rfl, rfl⟩
        go_wp2
        go_ret2
        exact ⟨rfl, rfl⟩
      · have t1 := beqF o1
        by_cases o2 : op = 19
        · subst o2
          go_enter Try.func63, Try.ntmps63
          go_wp2_with fail
          refine (h1 _).mono ?_; rintro e w1 ⟨rfl, rfl⟩
          go_wp2_with fail
          refine (h2 _).mono ?_; rintro e w1 ⟨rfl, rfl⟩
          go_wp2
          go_ret2
          exact ⟨rfl, rfl⟩
        · have t2 := beqF o2
          go_enter Try.func63, Try.ntmps63
          go_wp2_with fail
          refine (h1 _).mono ?_; rintro e w1 ⟨rfl, rfl⟩
          go_wp2_with fail
          refine (h2 _).mono ?_; rintro e w1 ⟨rfl, rfl⟩
          go_wp2
          go_ret2
          exact ⟨rfl, rfl⟩
end Go.Proofs.Ytdnbiohohbnhgaa
set_option linter.unusedSimpArgs false
set_option linter.unusedVariables false
namespace Go.Proofs.Ytdnbiohohbnhgaa
open Go.RowKit Go.ChangeShapes Go.WideShapes
/-- Which of W, D, A, B, C, Imm an operation of a program uses. -/
def usedOf (op : Int) : Option ByteArray :=
  if bin op then some ⟨#[87, 68, 65, 66]⟩ else if cst op then some ⟨#[87, 68, 65, 67]⟩ else if op = 21 then some ⟨#[87, 68, 73]⟩ else if op = 22 then some ⟨#[87, 68, 65, 66, 67]⟩
  else if op = 23 then some ⟨#[87, 68, 65]⟩ else if op = 24 then some ⟨#[65, 66]⟩ else if op = 25 then some ⟨#[65]⟩ else if op = 31 then some ⟨#[73]⟩ else if op = 32 then some ⟨#[65, 73]⟩
  else if op = 33 then some ⟨#[87, 65]⟩ else if op = 35 then some ⟨#[87, 68, 65]⟩ else if op = 34 then some ⟨#[]⟩ else none
theorem zeroS (w : World) : (zeroValue 9).run Try.prog w = .ok (.string ByteArray.empty) w := by
  kernel_rfl
abbrev OwnM (W : World) (b n : Nat) (D : DataW Unit) : Prop := W.ownsMap Try.prog 2 (plainElem (H := Unit) Try.prog 9) b n D
theorem int_wf {k : Int} (hk : -9223372036854775808 ≤ k ∧ k ≤ 9223372036854775807) : (Lit.int .i64 k).wf = true := by
  have e1 : IntKind.i64.min = -9223372036854775808 := by decide
  have e2 : IntKind.i64.max = 9223372036854775807 := by decide
  show (decide (IntKind.i64.min ≤ k) && decide (k ≤ IntKind.i64.max)) = true
  rw [e1, e2, decide_eq_true hk.1, decide_eq_true hk.2]
  rfl
theorem ins {W : World} {b n : Nat} {D : DataW Unit} (h : OwnM W b n D) (hn : n < 100) (k : Int) (hk : -9223372036854775808 ≤ k ∧ k ≤ 9223372036854775807) (s : ByteArray) (hs : s.size ≤ 100) :
    ∃ W', (Instr.mapUpdate 161 (.map (some b)) (.int .i64 k) (.string s)).run Try.prog W = .ok () W' ∧ OwnM W' b (n + 1) (D.put (.int .i64 k) (.lit (.string s.data.toList))) ∧ W.grownBy W' (some b) :=
  World.ownsMap.update h (Maps.int_keyed Try.underlying2) Try.underlying161 (by unfold maxLen; omega) (Maps.keyOf_int_mk Try.underlying2 (int_wf hk)) (plainElem_string Try.underlying9 (by unfold maxLen; omega))
theorem str_inv' {P : Program} {e : TypeId} (he : P.underlying e = some .string) {v : Value} {z : DataW Unit × List MemPlace} (h : plainElem P e v = some z) : ∃ s, v = .string s ∧ z.1 = .lit (.string s.data.toList) := by
  unfold plainElem at h
  rw [he] at h
  cases v with
  | string s =>
    simp only at h
    split at h
    · cases h; exact ⟨_, rfl, rfl⟩
    · cases h
  | _ => cases h
theorem str_inv {v : Value} {D : DataW Unit} {ps : List MemPlace} (h : plainElem (H := Unit) Try.prog 9 v = some (D, ps)) : ∃ s, v = .string s ∧ D = .lit (.string s.data.toList) :=
  str_inv' Try.underlying9 h
def usedD : DataW Unit := (DataW.put (DataW.put (DataW.put (DataW.put (DataW.put (DataW.put (DataW.put (DataW.put (DataW.put (DataW.put (.map []) (.int .i64 21) (.lit (.string [87, 68, 73]))) (.int .i64 22) (.lit (.string [87, 68, 65, 66, 67]))) (.int .i64 23) (.lit (.string [87, 68, 65]))) (.int .i64 24) (.lit (.string [65, 66]))) (.int .i64 25) (.lit (.string [65]))) (.int .i64 31) (.lit (.string [73]))) (.int .i64 32) (.lit (.string [65, 73]))) (.int .i64 33) (.lit (.string [87, 65]))) (.int .i64 35) (.lit (.string [87, 68, 65]))) (.int .i64 34) (.lit (.string [])))
theorem used_hit (k : Int) (l : List UInt8) (h : (k, l) ∈ [(21, [87, 68, 73]), (22, [87, 68, 65, 66, 67]), (23, [87, 68, 65]), (24, [65, 66]), (25, [65]), (31, [73]), (32, [65, 73]), (33, [87, 65]), (35, [87, 68, 65]), (34, [])]) : usedD.atKey (.int .i64 k) (.lit (.string [])) = .lit (.string l) ∧ Maps.has usedD (.int .i64 k) = true := by
  simp only [List.mem_cons, Prod.mk.injEq, List.not_mem_nil, or_false] at h
  rcases h with ⟨rfl, rfl⟩ | ⟨rfl, rfl⟩ | ⟨rfl, rfl⟩ | ⟨rfl, rfl⟩ | ⟨rfl, rfl⟩ | ⟨rfl, rfl⟩ | ⟨rfl, rfl⟩ | ⟨rfl, rfl⟩ | ⟨rfl, rfl⟩ | ⟨rfl, rfl⟩
  all_goals exact ⟨by rfl, by rfl⟩
theorem used_miss (k : Int) (h : k ≠ 21 ∧ k ≠ 22 ∧ k ≠ 23 ∧ k ≠ 24 ∧ k ≠ 25 ∧ k ≠ 31 ∧ k ≠ 32 ∧ k ≠ 33 ∧ k ≠ 35 ∧ k ≠ 34) : Maps.has usedD (.int .i64 k) = false := by
  obtain ⟨h21, h22, h23, h24, h25, h31, h32, h33, h35, h34⟩ := h
  unfold usedD
  rw [Maps.has_put_other (fun e => h34 (by cases e; rfl)), Maps.has_put_other (fun e => h35 (by cases e; rfl)), Maps.has_put_other (fun e => h33 (by cases e; rfl)), Maps.has_put_other (fun e => h32 (by cases e; rfl)), Maps.has_put_other (fun e => h31 (by cases e; rfl)), Maps.has_put_other (fun e => h25 (by cases e; rfl)), Maps.has_put_other (fun e => h24 (by cases e; rfl)), Maps.has_put_other (fun e => h23 (by cases e; rfl)), Maps.has_put_other (fun e => h22 (by cases e; rfl)), Maps.has_put_other (fun e => h21 (by cases e; rfl))]
  rfl
def RetU (op : Int) (w : World) (e : Ending) (w' : World) : Prop := ∃ s, e = .returned (.tuple #[.string s, .bool (usedOf op).isSome]) ∧ (∀ u, usedOf op = some u → s = u) ∧ Below w.heap.size w w'
theorem used_map (w : World) (op : Int) (hop : -9223372036854775808 ≤ op ∧ op ≤ 9223372036854775807) : ∃ w1 w2 w3 w4 w5 w6 w7 w8 w9 w10 s,
    (Instr.mapUpdate 161 (.map (some w.heap.size)) (.int .i64 21) (.string ⟨#[87, 68, 73]⟩)).run Try.prog (w.alloc (.map #[] 0)) = .ok () w1
    ∧ (Instr.mapUpdate 161 (.map (some w.heap.size)) (.int .i64 22) (.string ⟨#[87, 68, 65, 66, 67]⟩)).run Try.prog w1 = .ok () w2
    ∧ (Instr.mapUpdate 161 (.map (some w.heap.size)) (.int .i64 23) (.string ⟨#[87, 68, 65]⟩)).run Try.prog w2 = .ok () w3
    ∧ (Instr.mapUpdate 161 (.map (some w.heap.size)) (.int .i64 24) (.string ⟨#[65, 66]⟩)).run Try.prog w3 = .ok () w4
    ∧ (Instr.mapUpdate 161 (.map (some w.heap.size)) (.int .i64 25) (.string ⟨#[65]⟩)).run Try.prog w4 = .ok () w5
    ∧ (Instr.mapUpdate 161 (.map (some w.heap.size)) (.int .i64 31) (.string ⟨#[73]⟩)).run Try.prog w5 = .ok () w6
    ∧ (Instr.mapUpdate 161 (.map (some w.heap.size)) (.int .i64 32) (.string ⟨#[65, 73]⟩)).run Try.prog w6 = .ok () w7
    ∧ (Instr.mapUpdate 161 (.map (some w.heap.size)) (.int .i64 33) (.string ⟨#[87, 65]⟩)).run Try.prog w7 = .ok () w8
    ∧ (Instr.mapUpdate 161 (.map (some w.heap.size)) (.int .i64 35) (.string ⟨#[87, 68, 65]⟩)).run Try.prog w8 = .ok () w9
    ∧ (Instr.mapUpdate 161 (.map (some w.heap.size)) (.int .i64 34) (.string ⟨#[]⟩)).run Try.prog w9 = .ok () w10
    ∧ (Instr.lookup 161 (.map (some w.heap.size)) (.int .i64 op) true).run Try.prog w10 = .ok (.tuple #[.string s, .bool (Maps.has usedD (.int .i64 op))]) w10 ∧ usedD.atKey (.int .i64 op) (.lit (.string [])) = .lit (.string s.data.toList) ∧ Below w.heap.size w w10 := by
  have o0 : OwnM (w.alloc (.map #[] 0)) w.heap.size 0 (.map []) := World.ownsMap_made w _ _ _
  have b0 : Below w.heap.size w (w.alloc (.map #[] 0)) := (Below.refl _ _).al (Nat.le_refl _) _
  obtain ⟨w1, e1, o1, g1⟩ := ins o0 (by decide) 21 (by decide) ⟨#[87, 68, 73]⟩ (by decide)
  have b1 := b0.grown g1 b0.size (fun k hk => by cases hk; exact Nat.le_refl _)
  obtain ⟨w2, e2, o2, g2⟩ := ins o1 (by decide) 22 (by decide) ⟨#[87, 68, 65, 66, 67]⟩ (by decide)
  have b2 := b1.grown g2 b1.size (fun k hk => by cases hk; exact Nat.le_refl _)
  obtain ⟨w3, e3, o3, g3⟩ := ins o2 (by decide) 23 (by decide) ⟨#[87, 68, 65]⟩ (by decide)
  have b3 := b2.grown g3 b2.size (fun k hk => by cases hk; exact Nat.le_refl _)
  obtain ⟨w4, e4, o4, g4⟩ := ins o3 (by decide) 24 (by decide) ⟨#[65, 66]⟩ (by decide)
  have b4 := b3.grown g4 b3.size (fun k hk => by cases hk; exact Nat.le_refl _)
  obtain ⟨w5, e5, o5, g5⟩ := ins o4 (by decide) 25 (by decide) ⟨#[65]⟩ (by decide)
  have b5 := b4.grown g5 b4.size (fun k hk => by cases hk; exact Nat.le_refl _)
  obtain ⟨w6, e6, o6, g6⟩ := ins o5 (by decide) 31 (by decide) ⟨#[73]⟩ (by decide)
  have b6 := b5.grown g6 b5.size (fun k hk => by cases hk; exact Nat.le_refl _)
  obtain ⟨w7, e7, o7, g7⟩ := ins o6 (by decide) 32 (by decide) ⟨#[65, 73]⟩ (by decide)
  have b7 := b6.grown g7 b6.size (fun k hk => by cases hk; exact Nat.le_refl _)
  obtain ⟨w8, e8, o8, g8⟩ := ins o7 (by decide) 33 (by decide) ⟨#[87, 65]⟩ (by decide)
  have b8 := b7.grown g8 b7.size (fun k hk => by cases hk; exact Nat.le_refl _)
  obtain ⟨w9, e9, o9, g9⟩ := ins o8 (by decide) 35 (by decide) ⟨#[87, 68, 65]⟩ (by decide)
  have b9 := b8.grown g9 b8.size (fun k hk => by cases hk; exact Nat.le_refl _)
  obtain ⟨w10, e10, o10, g10⟩ := ins o9 (by decide) 34 (by decide) ⟨#[]⟩ (by decide)
  have b10 := b9.grown g10 b9.size (fun k hk => by cases hk; exact Nat.le_refl _)
  obtain ⟨v, ps, el, hv⟩ := o10.look_ok (Maps.int_keyed Try.underlying2) Try.underlying161 (zeroS w10) (plainElem_string Try.underlying9 (s := ByteArray.empty) (by decide)) (Maps.keyOf_int_mk (a := op) Try.underlying2 (int_wf hop))
  obtain ⟨s, rfl, hs⟩ := str_inv hv
  exact ⟨w1, w2, w3, w4, w5, w6, w7, w8, w9, w10, s, e1, e2, e3, e4, e5, e6, e7, e8, e9, e10, el, hs, b10⟩
set_option maxRecDepth 20000 in
set_option maxHeartbeats 2000000 in
theorem c_used0 (op : Int) (w : World) (h1 : bin op = false) (h2 : cst op = false) (hop : -9223372036854775808 ≤ op ∧ op ≤ 9223372036854775807) : Calls Try.prog 104 #[.int .i64 op] w (RetU op w) := by
  have hb := fun W => c_isBinary op W
  have hc := fun W => c_isCast op W
  rw [h1] at hb
  rw [h2] at hc
  have hmm := @run_makeMap Try.prog
  obtain ⟨w1, w2, w3, w4, w5, w6, w7, w8, w9, w10, s, e1, e2, e3, e4, e5, e6, e7, e8, e9, e10, el, hs, hbel⟩ := used_map w op hop
  have hfin : (Maps.has usedD (.int .i64 op) = (usedOf op).isSome) ∧ (∀ u, usedOf op = some u → s = u) := by
    have key : ∀ (k : Int) (l : List UInt8), usedD.atKey (.int .i64 k) (.lit (.string [])) = .lit (.string l) ∧ Maps.has usedD (.int .i64 k) = true → op = k → usedOf op = some ⟨l.toArray⟩ → (Maps.has usedD (.int .i64 op) = (usedOf op).isSome) ∧ (∀ u, usedOf op = some u → s = u) := fun k l h hk hu => by
      subst hk
      rw [hu, h.2]
      refine ⟨rfl, fun u hu => ?_⟩
      cases hu
      rw [h.1] at hs
      cases hs
      rfl
    have hit := fun k l h => key k l (used_hit k l h)
    clear key
    by_cases q21 : op = 21
    · subst q21; exact hit 21 _ (by simp) rfl rfl
    by_cases q22 : op = 22
    · subst q22; exact hit 22 _ (by simp) rfl rfl
    by_cases q23 : op = 23
    · subst q23; exact hit 23 _ (by simp) rfl rfl
    by_cases q24 : op = 24
    · subst q24; exact hit 24 _ (by simp) rfl rfl
    by_cases q25 : op = 25
    · subst q25; exact hit 25 _ (by simp) rfl rfl
    by_cases q31 : op = 31
    · subst q31; exact hit 31 _ (by simp) rfl rfl
    by_cases q32 : op = 32
    · subst q32; exact hit 32 _ (by simp) rfl rfl
    by_cases q33 : op = 33
    · subst q33; exact hit 33 _ (by simp) rfl rfl
    by_cases q35 : op = 35
    · subst q35; exact hit 35 _ (by simp) rfl rfl
    by_cases q34 : op = 34
    · subst q34; exact hit 34 _ (by simp) rfl rfl
    have hn : usedOf op = none := by unfold usedOf; rw [h1, h2]; simp [q21, q22, q23, q24, q25, q31, q32, q33, q35, q34]
    rw [hn, used_miss op ⟨q21, q22, q23, q24, q25, q31, q32, q33, q35, q34⟩]
    exact ⟨rfl, fun u h => by cases h⟩
  obtain ⟨hf1, hf2⟩ := hfin
  rw [hf1] at el
  have hf2' := Hd.mk hf2
  have hbel' := Hd.mk hbel
  clear hf1 hf2 hs hbel hop h1 h2
  unfold RetU
  generalize (usedOf op).isSome = ok at *
  go_enter Try.func104, Try.ntmps104
  go_wp2_with fail
  refine (hb _).mono ?_; rintro e w1 ⟨rfl, rfl⟩
  go_wp2_with fail
  refine (hc _).mono ?_; rintro e w1 ⟨rfl, rfl⟩
  go_wp2
  go_ret2
  exact ⟨_, rfl, hf2'.out, hbel'.out⟩
theorem c_used (op : Int) (w : World) (hop : -9223372036854775808 ≤ op ∧ op ≤ 9223372036854775807) : Calls Try.prog 104 #[.int .i64 op] w (RetU op w) := by
  have hb := fun W => c_isBinary op W
  have hc := fun W => c_isCast op W
  cases h1 : bin op
  · cases h2 : cst op
    · exact c_used0 op w h1 h2 hop
    · have hu : usedOf op = some ⟨#[87, 68, 65, 67]⟩ := by unfold usedOf; rw [h1, h2]; rfl
      unfold RetU
      rw [hu]
      rw [h1] at hb
      rw [h2] at hc
      clear h1 h2 hu hop
      go_enter Try.func104, Try.ntmps104
      go_wp2_with fail
      refine (hb _).mono ?_; rintro e w1 ⟨rfl, rfl⟩
      go_wp2_with fail
      refine (hc _).mono ?_; rintro e w1 ⟨rfl, rfl⟩
      go_wp2
      go_ret2
      exact ⟨_, rfl, fun u h => by cases h; rfl, Below.refl _ _⟩
  · have hu : usedOf op = some ⟨#[87, 68, 65, 66]⟩ := by unfold usedOf; rw [h1]; rfl
    unfold RetU
    rw [hu]
    rw [h1] at hb
    clear h1 hu hop hc
    go_enter Try.func104, Try.ntmps104
    go_wp2_with fail
    refine (hb _).mono ?_; rintro e w1 ⟨rfl, rfl⟩
    go_wp2
    go_ret2
    exact ⟨_, rfl, fun u h => by cases h; rfl, Below.refl _ _⟩
end Go.Proofs.Ytdnbiohohbnhgaa
set_option linter.unusedSimpArgs false
set_option linter.unusedVariables false
namespace Go.Proofs.Ytdnbiohohbnhgaa
open Go.RowKit
def KByte (_ : World) (x : Int) (cs : List Value) : Prop := cs = [.int .u8 x]
instance : KM KByte := ⟨fun h _ => h⟩
set_option maxHeartbeats 400000 in
theorem c_IndexB (v : Value) (xs : List Int) (x : Int) (w : World) (hv : Rd lm 1 KByte w v xs) : Calls Try.prog 135 #[v, .int .u8 x] w (Ret (.int .i64 (idx (fun y => x == y) xs)) w) := by
  obtain ⟨A, c, rfl, h1, h2, hv0⟩ := hv.sm
  clear hv
  go_enter Try.func135, Try.ntmps135
  go_wp2
  go_loopw [5, 8] (fun _ s8 wr => ∃ k : Nat, k ≤ xs.length ∧ s8 = .int .i64 k ∧ Hd (Below w.heap.size w wr) ∧ Hd (∀ j (h : j < xs.length), j < k → (x == xs[j]) = false)) (fun _ s8 _ => xs.length - (intOf s8).toNat)
  case atStart => exact ⟨0, Nat.zero_le _, rfl, ⟨Below.refl _ w⟩, ⟨fun j _ h => absurd h (Nat.not_lt_zero _)⟩⟩
  case round =>
    obtain ⟨k, hk, rfl, hb, hn⟩ := hrel
    by_cases hlt : k < xs.length
    · obtain ⟨b, off, cs, hA, hbl, hkk, hat⟩ := hv0.out.in0 hb.out k hlt
      cases hA
      cases hkk
      have g0 := hat 0 _ rfl
      simp at g0
      clear hat
      cases hq : (x == xs[k]) with
      | true =>
        have hq' := Hd.mk hq
        have hq2 : (xs[k] == x) = true := by rw [Bool.beq_comm] at hq; simpa using hq
        go_wp2
        go_ret
        exact ⟨by rw [idx_hit (fun y => x == y) xs k hlt hq'.out hn.out]; rfl, hb.out⟩
      | false =>
        have hq' := Hd.mk hq
        go_wp2
        go_roundw
        case rel =>
          refine ⟨k + 1, by omega, by go_num, hb, ⟨fun j hj hjk => ?_⟩⟩
          by_cases e : j = k
          · subst e; exact hq'.out
          · exact hn.out j hj (by omega)
        case measure => simp [intOf]; omega
    · have e : k = xs.length := by omega
      subst e
      go_wp2
      go_ret
      exact ⟨by rw [idx_miss (fun y => x == y) xs (fun j hj => hn.out j hj hj)]; rfl, hb.out⟩
theorem c_ContainsB (v : Value) (xs : List Int) (x : Int) (w : World) (hv : Rd lm 1 KByte w v xs) : Calls Try.prog 131 #[v, .int .u8 x] w (Ret (.bool (hasI xs x)) w) := by
  rw [hasI, ← idx_any]
  have hi := c_IndexB v xs x w hv
  clear hv
  go_enter Try.func131, Try.ntmps131
  go_wp2_with (go_at_call 135; refine hi.mono ?_; rintro e w' ⟨rfl, hb'⟩)
  go_ret
  exact ⟨rfl, hb'⟩
/-- The six that an instruction of a program may use. -/
def six (x : XMIns) : List Int := [x.w, x.d, x.a, x.b, x.c, x.imm]
def letters : List Int := [87, 68, 65, 66, 67, 73]
def bytesOf (s : ByteArray) : List Int := s.data.toList.map fun b => (b.toNat : Int)
def blankB (x : XMIns) (u : ByteArray) : Bool := ((six x).zip letters).all fun p => p.1 == 0 || hasI (bytesOf u) p.2
def minsV (x : XMIns) : Value := .agg #[.int .i64 x.op, .int .i64 x.w, .int .i64 x.d, .int .i64 x.a, .int .i64 x.b, .int .i64 x.c, .int .i64 x.imm]
theorem bytesOf_len (s : ByteArray) : (bytesOf s).length = s.size := by simp [bytesOf]
theorem conv_str (W : World) (u : ByteArray) (hu : u.size ≤ 1048576) : ∃ c W1, (convert 9 65 (.string u)).run Try.prog W = .ok (.slice (some ⟨W.heap.size, 0, none⟩) u.size c) W1 ∧ Rd lm 1 KByte W1 (.slice (some ⟨W.heap.size, 0, none⟩) u.size c) (bytesOf u) ∧ Below W.heap.size W W1 ∧ W1.heap.size = W.heap.size + 1 := by
  refine ⟨_, _, Lib.run_convert_string_bytes (P := Try.prog) W 9 65 5 u Try.underlying9 Try.underlying65 Try.underlying5, ?_, ?_, Lib.bytesWorld_size W _ u⟩
  · have hc : u.size ≤ grownCap W u.size 0 5 := grownCap_ge _ _ _ _
    have hl := bytesOf_len u
    refine ⟨_, _, by rw [hl], by rw [hl]; exact hc, by rw [hl]; exact hu, fun h => (by cases h), fun h0 => ⟨W.heap.size, 0, rfl, by rw [Lib.bytesWorld_size]; omega, fun i hi => ⟨_, rfl, rfl, fun j hj => ?_⟩⟩⟩
    obtain rfl : j = 0 := by simpa using hj
    have hi' : i < u.size := by rw [← hl]; exact hi
    have h := Lib.bytesWorld_cell W 5 u i hi'
    rw [show 0 + i * 1 + 0 = i by omega, h]
    have hid : i < u.data.toList.length := by simpa using hi'
    simp only [bytesOf, List.getElem_map, List.getElem_cons_zero]
    rw [List.getD_eq_getElem?_getD, List.getElem?_eq_getElem hid]
    rfl
  · exact ⟨rfl, rfl, rfl, by rw [Lib.bytesWorld_size]; omega, fun k hk => Lib.bytesWorld_at_old W _ u k hk⟩
set_option maxHeartbeats 1000000 in
theorem c_isBlank (x : XMIns) (u : ByteArray) (w : World) (hu : u.size ≤ 100) : Calls Try.prog 105 #[minsV x, .string u] w (Ret (.bool (blankB x u)) w) := by
  obtain ⟨R, hR⟩ : ∃ R, R = blankB x u := ⟨_, rfl⟩
  rw [← hR]
  have hR0 : Hd (R = (((six x).zip letters).drop 0).all fun p => p.1 == 0 || hasI (bytesOf u) p.2) := ⟨hR⟩
  clear hR
  obtain ⟨W0, hW0⟩ : ∃ W0 : World, W0 = (w.alloc (.cells #[.int .i64 x.op, .int .i64 x.w, .int .i64 x.d, .int .i64 x.a, .int .i64 x.b, .int .i64 x.c, .int .i64 x.imm] 71)).alloc (.cells #[.int .i64 x.w, .int .i64 x.d, .int .i64 x.a, .int .i64 x.b, .int .i64 x.c, .int .i64 x.imm] 2) := ⟨_, rfl⟩
  have hz0 : W0.heap.size = w.heap.size + 2 := by rw [hW0]; simp
  have hb0 : Below w.heap.size w W0 := by rw [hW0]; exact ((Below.refl _ _).al (Nat.le_refl _) _).al (by first | (simp; done) | (simp; omega)) _
  have hn : ∀ k n, (six x)[k]? = some n → W0.cell? ⟨w.heap.size + 1, k, none⟩ = some (.int .i64 n) := by
    intro k n hk
    have hlt : k < 6 := (List.getElem?_eq_some_iff.1 hk).1
    match k, hlt with
    | 0, _ => cases hk; rw [hW0]; simp
    | 1, _ => cases hk; rw [hW0]; simp
    | 2, _ => cases hk; rw [hW0]; simp
    | 3, _ => cases hk; rw [hW0]; simp
    | 4, _ => cases hk; rw [hW0]; simp
    | 5, _ => cases hk; rw [hW0]; simp
  have hn' := Hd.mk hn
  have hW0' := Hd.mk hW0
  have hb0' := Hd.mk hb0
  clear hn hW0 hb0
  unfold minsV
  go_enter Try.func105, Try.ntmps105
  go_wp2
  go_loopw [5, 6, 21] (fun _ _ s21 wr => ∃ k : Nat, k ≤ 6 ∧ s21 = .int .i64 k ∧ Hd (R = (((six x).zip letters).drop k).all fun p => p.1 == 0 || hasI (bytesOf u) p.2) ∧ Hd (Below W0.heap.size W0 wr)) (fun _ _ s21 _ => 6 - (intOf s21).toNat)
  case atStart => exact ⟨0, by omega, rfl, hR0, ⟨by rw [← hW0'.out]; exact Below.refl _ _⟩⟩
  case round =>
    clear hR0
    obtain ⟨k, hk, rfl, hR, hbr⟩ := hrel
    by_cases hk6 : k = 6
    · subst hk6
      have hR' := Hd.mk (show R = true by rw [hR.out]; rfl)
      clear hR
      go_wp2
      go_ret
      exact ⟨by rw [hR'.out]; rfl, hb0'.out.then hbr.out⟩
    · have hcell := fun n h => (bat hbr.out (w.heap.size + 1) (by omega) k).trans (hn'.out k n h)
      have hzr := hbr.out.size
      have h6 : k = 0 ∨ k = 1 ∨ k = 2 ∨ k = 3 ∨ k = 4 ∨ k = 5 := by omega
      clear hk hk6
      rcases h6 with rfl | rfl | rfl | rfl | rfl | rfl
      · have g0 := hcell x.w rfl
        have hRs : R = ((x.w == 0 || hasI (bytesOf u) 87) && (((six x).zip letters).drop 1).all fun p => p.1 == 0 || hasI (bytesOf u) p.2) := hR.out
        generalize x.w = n at g0 hRs
        clear hcell hR
        cases hq : (n == 0)
        · rw [hq, Bool.false_or] at hRs
          have hq' : (n != 0) = true := by simpa using hq
          obtain ⟨c1, W1, hcv, hrd, hb1, hz1⟩ := conv_str wr u (by omega)
          have hcon := c_ContainsB _ (bytesOf u) 87 W1 hrd
          have hb1' := Hd.mk (hbr.out.then hb1)
          clear hrd hb1
          cases hc : hasI (bytesOf u) 87
          · rw [hc] at hRs hcon
            have hRs' := Hd.mk (show R = false by simpa using hRs)
            clear hRs hc
            go_wp2_with fail
            refine hcon.mono ?_; rintro e w2 ⟨rfl, hb2⟩
            go_wp2
            go_ret
            exact ⟨by rw [hRs'.out]; rfl, hb0'.out.then (hb1'.out.then hb2)⟩
          · rw [hc] at hRs hcon
            have hRs' := Hd.mk (show R = (((six x).zip letters).drop 1).all fun p => p.1 == 0 || hasI (bytesOf u) p.2 by simpa using hRs)
            clear hRs hc
            go_wp2_with fail
            refine hcon.mono ?_; rintro e w2 ⟨rfl, hb2⟩
            go_wp2
            go_roundw
            case rel => exact ⟨1, by omega, by go_num, hRs', ⟨hb1'.out.then hb2⟩⟩
            case measure => simp [intOf]
        · rw [hq] at hRs
          have hRs' := Hd.mk (show R = (((six x).zip letters).drop 1).all fun p => p.1 == 0 || hasI (bytesOf u) p.2 by simpa using hRs)
          have hq' : (n != 0) = false := by simpa using hq
          clear hRs
          go_wp2
          go_roundw
          case rel => exact ⟨1, by omega, by go_num, hRs', hbr⟩
          case measure => simp [intOf]
      · have g0 := hcell x.d rfl
        have hRs : R = ((x.d == 0 || hasI (bytesOf u) 68) && (((six x).zip letters).drop 2).all fun p => p.1 == 0 || hasI (bytesOf u) p.2) := hR.out
        generalize x.d = n at g0 hRs
        clear hcell hR
        cases hq : (n == 0)
        · rw [hq, Bool.false_or] at hRs
          have hq' : (n != 0) = true := by simpa using hq
          obtain ⟨c1, W1, hcv, hrd, hb1, hz1⟩ := conv_str wr u (by omega)
          have hcon := c_ContainsB _ (bytesOf u) 68 W1 hrd
          have hb1' := Hd.mk (hbr.out.then hb1)
          clear hrd hb1
          cases hc : hasI (bytesOf u) 68
          · rw [hc] at hRs hcon
            have hRs' := Hd.mk (show R = false by simpa using hRs)
            clear hRs hc
            go_wp2_with fail
            refine hcon.mono ?_; rintro e w2 ⟨rfl, hb2⟩
            go_wp2
            go_ret
            exact ⟨by rw [hRs'.out]; rfl, hb0'.out.then (hb1'.out.then hb2)⟩
          · rw [hc] at hRs hcon
            have hRs' := Hd.mk (show R = (((six x).zip letters).drop 2).all fun p => p.1 == 0 || hasI (bytesOf u) p.2 by simpa using hRs)
            clear hRs hc
            go_wp2_with fail
            refine hcon.mono ?_; rintro e w2 ⟨rfl, hb2⟩
            go_wp2
            go_roundw
            case rel => exact ⟨2, by omega, by go_num, hRs', ⟨hb1'.out.then hb2⟩⟩
            case measure => simp [intOf]
        · rw [hq] at hRs
          have hRs' := Hd.mk (show R = (((six x).zip letters).drop 2).all fun p => p.1 == 0 || hasI (bytesOf u) p.2 by simpa using hRs)
          have hq' : (n != 0) = false := by simpa using hq
          clear hRs
          go_wp2
          go_roundw
          case rel => exact ⟨2, by omega, by go_num, hRs', hbr⟩
          case measure => simp [intOf]
      · have g0 := hcell x.a rfl
        have hRs : R = ((x.a == 0 || hasI (bytesOf u) 65) && (((six x).zip letters).drop 3).all fun p => p.1 == 0 || hasI (bytesOf u) p.2) := hR.out
        generalize x.a = n at g0 hRs
        clear hcell hR
        cases hq : (n == 0)
        · rw [hq, Bool.false_or] at hRs
          have hq' : (n != 0) = true := by simpa using hq
          obtain ⟨c1, W1, hcv, hrd, hb1, hz1⟩ := conv_str wr u (by omega)
          have hcon := c_ContainsB _ (bytesOf u) 65 W1 hrd
          have hb1' := Hd.mk (hbr.out.then hb1)
          clear hrd hb1
          cases hc : hasI (bytesOf u) 65
          · rw [hc] at hRs hcon
            have hRs' := Hd.mk (show R = false by simpa using hRs)
            clear hRs hc
            go_wp2_with fail
            refine hcon.mono ?_; rintro e w2 ⟨rfl, hb2⟩
            go_wp2
            go_ret
            exact ⟨by rw [hRs'.out]; rfl, hb0'.out.then (hb1'.out.then hb2)⟩
          · rw [hc] at hRs hcon
            have hRs' := Hd.mk (show R = (((six x).zip letters).drop 3).all fun p => p.1 == 0 || hasI (bytesOf u) p.2 by simpa using hRs)
            clear hRs hc
            go_wp2_with fail
            refine hcon.mono ?_; rintro e w2 ⟨rfl, hb2⟩
            go_wp2
            go_roundw
            case rel => exact ⟨3, by omega, by go_num, hRs', ⟨hb1'.out.then hb2⟩⟩
            case measure => simp [intOf]
        · rw [hq] at hRs
          have hRs' := Hd.mk (show R = (((six x).zip letters).drop 3).all fun p => p.1 == 0 || hasI (bytesOf u) p.2 by simpa using hRs)
          have hq' : (n != 0) = false := by simpa using hq
          clear hRs
          go_wp2
          go_roundw
          case rel => exact ⟨3, by omega, by go_num, hRs', hbr⟩
          case measure => simp [intOf]
      · have g0 := hcell x.b rfl
        have hRs : R = ((x.b == 0 || hasI (bytesOf u) 66) && (((six x).zip letters).drop 4).all fun p => p.1 == 0 || hasI (bytesOf u) p.2) := hR.out
        generalize x.b = n at g0 hRs
        clear hcell hR
        cases hq : (n == 0)
        · rw [hq, Bool.false_or] at hRs
          have hq' : (n != 0) = true := by simpa using hq
          obtain ⟨c1, W1, hcv, hrd, hb1, hz1⟩ := conv_str wr u (by omega)
          have hcon := c_ContainsB _ (bytesOf u) 66 W1 hrd
          have hb1' := Hd.mk (hbr.out.then hb1)
          clear hrd hb1
          cases hc : hasI (bytesOf u) 66
          · rw [hc] at hRs hcon
            have hRs' := Hd.mk (show R = false by simpa using hRs)
            clear hRs hc
            go_wp2_with fail
            refine hcon.mono ?_; rintro e w2 ⟨rfl, hb2⟩
            go_wp2
            go_ret
            exact ⟨by rw [hRs'.out]; rfl, hb0'.out.then (hb1'.out.then hb2)⟩
          · rw [hc] at hRs hcon
            have hRs' := Hd.mk (show R = (((six x).zip letters).drop 4).all fun p => p.1 == 0 || hasI (bytesOf u) p.2 by simpa using hRs)
            clear hRs hc
            go_wp2_with fail
            refine hcon.mono ?_; rintro e w2 ⟨rfl, hb2⟩
            go_wp2
            go_roundw
            case rel => exact ⟨4, by omega, by go_num, hRs', ⟨hb1'.out.then hb2⟩⟩
            case measure => simp [intOf]
        · rw [hq] at hRs
          have hRs' := Hd.mk (show R = (((six x).zip letters).drop 4).all fun p => p.1 == 0 || hasI (bytesOf u) p.2 by simpa using hRs)
          have hq' : (n != 0) = false := by simpa using hq
          clear hRs
          go_wp2
          go_roundw
          case rel => exact ⟨4, by omega, by go_num, hRs', hbr⟩
          case measure => simp [intOf]
      · have g0 := hcell x.c rfl
        have hRs : R = ((x.c == 0 || hasI (bytesOf u) 67) && (((six x).zip letters).drop 5).all fun p => p.1 == 0 || hasI (bytesOf u) p.2) := hR.out
        generalize x.c = n at g0 hRs
        clear hcell hR
        cases hq : (n == 0)
        · rw [hq, Bool.false_or] at hRs
          have hq' : (n != 0) = true := by simpa using hq
          obtain ⟨c1, W1, hcv, hrd, hb1, hz1⟩ := conv_str wr u (by omega)
          have hcon := c_ContainsB _ (bytesOf u) 67 W1 hrd
          have hb1' := Hd.mk (hbr.out.then hb1)
          clear hrd hb1
          cases hc : hasI (bytesOf u) 67
          · rw [hc] at hRs hcon
            have hRs' := Hd.mk (show R = false by simpa using hRs)
            clear hRs hc
            go_wp2_with fail
            refine hcon.mono ?_; rintro e w2 ⟨rfl, hb2⟩
            go_wp2
            go_ret
            exact ⟨by rw [hRs'.out]; rfl, hb0'.out.then (hb1'.out.then hb2)⟩
          · rw [hc] at hRs hcon
            have hRs' := Hd.mk (show R = (((six x).zip letters).drop 5).all fun p => p.1 == 0 || hasI (bytesOf u) p.2 by simpa using hRs)
            clear hRs hc
            go_wp2_with fail
            refine hcon.mono ?_; rintro e w2 ⟨rfl, hb2⟩
            go_wp2
            go_roundw
            case rel => exact ⟨5, by omega, by go_num, hRs', ⟨hb1'.out.then hb2⟩⟩
            case measure => simp [intOf]
        · rw [hq] at hRs
          have hRs' := Hd.mk (show R = (((six x).zip letters).drop 5).all fun p => p.1 == 0 || hasI (bytesOf u) p.2 by simpa using hRs)
          have hq' : (n != 0) = false := by simpa using hq
          clear hRs
          go_wp2
          go_roundw
          case rel => exact ⟨5, by omega, by go_num, hRs', hbr⟩
          case measure => simp [intOf]
      · have g0 := hcell x.imm rfl
        have hRs : R = ((x.imm == 0 || hasI (bytesOf u) 73) && (((six x).zip letters).drop 6).all fun p => p.1 == 0 || hasI (bytesOf u) p.2) := hR.out
        generalize x.imm = n at g0 hRs
        clear hcell hR
        cases hq : (n == 0)
        · rw [hq, Bool.false_or] at hRs
          have hq' : (n != 0) = true := by simpa using hq
          obtain ⟨c1, W1, hcv, hrd, hb1, hz1⟩ := conv_str wr u (by omega)
          have hcon := c_ContainsB _ (bytesOf u) 73 W1 hrd
          have hb1' := Hd.mk (hbr.out.then hb1)
          clear hrd hb1
          cases hc : hasI (bytesOf u) 73
          · rw [hc] at hRs hcon
            have hRs' := Hd.mk (show R = false by simpa using hRs)
            clear hRs hc
            go_wp2_with fail
            refine hcon.mono ?_; rintro e w2 ⟨rfl, hb2⟩
            go_wp2
            go_ret
            exact ⟨by rw [hRs'.out]; rfl, hb0'.out.then (hb1'.out.then hb2)⟩
          · rw [hc] at hRs hcon
            have hRs' := Hd.mk (show R = (((six x).zip letters).drop 6).all fun p => p.1 == 0 || hasI (bytesOf u) p.2 by simpa using hRs)
            clear hRs hc
            go_wp2_with fail
            refine hcon.mono ?_; rintro e w2 ⟨rfl, hb2⟩
            go_wp2
            go_roundw
            case rel => exact ⟨6, by omega, by go_num, hRs', ⟨hb1'.out.then hb2⟩⟩
            case measure => simp [intOf]
        · rw [hq] at hRs
          have hRs' := Hd.mk (show R = (((six x).zip letters).drop 6).all fun p => p.1 == 0 || hasI (bytesOf u) p.2 by simpa using hRs)
          have hq' : (n != 0) = false := by simpa using hq
          clear hRs
          go_wp2
          go_roundw
          case rel => exact ⟨6, by omega, by go_num, hRs', hbr⟩
          case measure => simp [intOf]
end Go.Proofs.Ytdnbiohohbnhgaa
set_option linter.unusedSimpArgs false
set_option linter.unusedVariables false
namespace Go.Proofs.Ytdnbiohohbnhgaa
open Go.RowKit
abbrev progV (r : Int) (v1 v2 v3 : Value) : Value := .agg #[.int .i64 r, v1, v2, v3]
def regB (r n : Int) : Bool := inR n 0 (r - 1)
theorem c_isReg (r n : Int) (v1 v2 v3 : Value) (w : World) (hr : 0 ≤ r ∧ r ≤ 130) : Calls Try.prog 67 #[progV r v1 v2 v3, .int .i64 n] w (Ret (.bool (regB r n)) w) := by
  have hw := fun W => c_within n 0 (r - 1) W
  have hbl := fun o => (Below.refl w.heap.size w).al (Nat.le_refl _) o
  obtain ⟨r1, r2⟩ := hr
  unfold progV
  go_enter Try.func67, Try.ntmps67
  go_wp2_with fail
  refine (hw _).mono ?_; rintro e w1 ⟨rfl, rfl⟩
  go_wp2
  go_ret
  exact ⟨rfl, by first | exact Below.refl _ _ | exact hbl _⟩
def placedB (n : Int) (x : XMIns) : Bool :=
  if x.op = 31 ∨ x.op = 32 then inR x.imm 0 (n - 1) else if x.op = 24 ∨ x.op = 25 ∨ x.op = 34 then true else if x.op = 21 then isVal x.w x.imm else if x.op = 23 then x.w == 8 else widthOk x.w
set_option maxHeartbeats 1000000 in
theorem c_isPlaced (r : Int) (v1 v2 : Value) (A : Option Addr) (n c : Nat) (x : XMIns) (w : World) (hn : n ≤ 1048576) : Calls Try.prog 106 #[progV r v1 v2 (.slice A n c), minsV x] w (Ret (.bool (placedB n x)) w) := by
  have hw := fun W => c_within x.imm 0 ((n : Int) - 1) W
  have hv := fun W => c_isValue x.w x.imm W
  have hk := fun W => c_WidthOk x.w W
  have hbl := fun o => (Below.refl w.heap.size w).al (Nat.le_refl _) o
  have hbl2 := fun o o' => ((Below.refl w.heap.size w).al (Nat.le_refl _) o).al (show w.heap.size ≤ (w.alloc o).heap.size by simp) o'
  unfold progV minsV placedB
  obtain ⟨op, wd, d, a, b, cc, imm⟩ := x
  simp only at hw hv hk ⊢
  by_cases o1 : op = 31 ∨ op = 32
  · rw [if_pos o1]
    rcases o1 with rfl | rfl
    all_goals
      go_enter Try.func106, Try.ntmps106
      go_wp2_with fail
      refine (hw _).mono ?_; rintro e w1 ⟨rfl, rfl⟩
      go_wp2
      go_ret
      exact ⟨rfl, by first | exact Below.refl _ _ | exact hbl _ | exact hbl2 _ _⟩
  rw [if_neg o1]
  by_cases o2 : op = 24 ∨ op = 25 ∨ op = 34
  · rw [if_pos o2]
    rcases o2 with rfl | rfl | rfl
    all_goals
      go_enter Try.func106, Try.ntmps106
      go_wp2
      go_ret
      exact ⟨rfl, by first | exact Below.refl _ _ | exact hbl _ | exact hbl2 _ _⟩
  rw [if_neg o2]
  by_cases o3 : op = 21
  · subst o3
    rw [if_pos rfl]
    go_enter Try.func106, Try.ntmps106
    go_wp2_with fail
    refine (hv _).mono ?_; rintro e w1 ⟨rfl, rfl⟩
    go_wp2
    go_ret
    exact ⟨rfl, by first | exact Below.refl _ _ | exact hbl _ | exact hbl2 _ _⟩
  rw [if_neg o3]
  by_cases o4 : op = 23
  · subst o4
    rw [if_pos rfl]
    go_enter Try.func106, Try.ntmps106
    go_wp2
    go_ret
    exact ⟨rfl, by first | exact Below.refl _ _ | exact hbl _ | exact hbl2 _ _⟩
  · rw [if_neg o4]
    have t1 : (op == 31) = false := beqF fun h => o1 (.inl h)
    have t2 : (op == 32) = false := beqF fun h => o1 (.inr h)
    have t3 : (op == 24) = false := beqF fun h => o2 (.inl h)
    have t4 : (op == 25) = false := beqF fun h => o2 (.inr (.inl h))
    have t5 : (op == 34) = false := beqF fun h => o2 (.inr (.inr h))
    have t6 := beqF o3
    have t7 := beqF o4
    clear o1 o2 o3 o4
    go_enter Try.func106, Try.ntmps106
    go_wp2_with fail
    refine (hk _).mono ?_; rintro e w1 ⟨rfl, rfl⟩
    go_wp2
    go_ret
    exact ⟨rfl, by first | exact Below.refl _ _ | exact hbl _ | exact hbl2 _ _⟩
def minsOk (r n : Int) (x : XMIns) : Bool :=
  match usedOf x.op with
  | none => false
  | some u => blankB x u && regB r x.d && regB r x.a && regB r x.b && placedB n x && (if cst x.op then widthOk x.c && ((decide (x.c < x.w) && x.op != 20) || (decide (x.c > x.w) && x.op == 20)) else regB r x.c)
end Go.Proofs.Ytdnbiohohbnhgaa
