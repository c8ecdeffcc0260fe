import Derived.Test.YtkcgejbnhpccdaaGreatP05
import Derived.Test.YtkcgejbnhpccdaaGreatP09
import Derived.Test.YtkcgejbnhpccdaaGreatP26
import Derived.Test.YtkcgejbnhpccdaaGreatP03
set_option linter.unusedSimpArgs false
set_option linter.unusedVariables false
namespace Go.Proofs.YtkcgejbnhpccdaaGreat
open Go.RowKit
theorem ops_cases (i : XInst) : inR i.op 1 27 = true → i.op ≠ 26 → (i.op = 21 ∧ (opsOf i).length = 0) ∨ (i.op = 24 ∧ (opsOf i).length = 2) ∨ (i.op = 25 ∧ (opsOf i).length = 1) ∨ (i.op = 23 ∧ (opsOf i).length = 1) ∨
    (i.op ≠ 21 ∧ i.op ≠ 23 ∧ i.op ≠ 24 ∧ i.op ≠ 25 ∧ ((opsOf i).length = 1 ∨ (opsOf i).length = 2 ∨ (opsOf i).length = 3)) := by
  intro h h26
  simp only [inR, Bool.and_eq_true, decide_eq_true_eq] at h
  by_cases h1 : i.op = 21
  · simp [opsOf, bin, cst, inR, h1]
  by_cases h2 : i.op = 23
  · simp [opsOf, bin, cst, inR, h2]
  by_cases h3 : i.op = 24
  · simp [opsOf, bin, cst, inR, h3]
  by_cases h4 : i.op = 25
  · simp [opsOf, bin, cst, inR, h4]
  · right; right; right; right
    refine ⟨h1, h2, h3, h4, ?_⟩
    unfold opsOf
    repeat' split
    all_goals first | (simp; done) | (simp_all [bin, cst, inR]; done) | (simp_all [bin, cst, inR]; omega)
theorem widthOk_ne (w : Int) (h : widthOk w = true) : (w == 0) = false := by
  simp only [widthOk, Bool.or_eq_true, beq_iff_eq] at h
  simp; omega
set_option maxHeartbeats 8000000 in
set_option maxRecDepth 100000 in
theorem s_l2Inst (i : XInst) (v : Value) (ids funcs : Int) (w : World) (hv : RI lm w v i.args) (hi : 0 ≤ ids) (hi2 : ids ≤ 1048576) (hf : 0 ≤ funcs) (hf2 : funcs ≤ 1048576) :
    Calls Tryz.prog 145 #[instV i v, .int .i64 ids, .int .i64 funcs] w (Ret (.bool (instOk ids funcs i)) w) := by
  have hops := s_l2Operands i
  obtain ⟨A, c, rfl, _, hl, hv0⟩ := hv.sm
  have hp := instOk_pre ids funcs i
  have hpre : instPre i = (inR i.op 1 27 && decide (i.args.length ≤ 4) && (i.args.isEmpty || i.op == 26)) := rfl
  have hbl := fun o => (Below.refl w.heap.size w).al (Nat.le_refl _) o
  have hlen := opsOf_len i hl
  have hcl := Hd.mk (ops_cases i)
  have hN := Hd.mk (show ownN i = if i.op == 26 then 0 else (opsOf i).length from rfl)
  have hn3 := Hd.mk (show i.op ≠ 26 → (opsOf i).length ≤ 3 from fun ho => by rcases opsOf_le i with h | ⟨_, h⟩; exact h; exact absurd h ho)
  have hW := Hd.mk (show wFits i = if i.op == 24 || i.op == 25 then i.w == 0 else if i.op == 23 then i.w == 8 else widthOk i.w from rfl)
  have hM := Hd.mk (show immFits i funcs = if i.op == 21 then isVal i.w i.imm else if i.op == 26 then inR i.imm 0 (funcs - 1) else i.imm == 0 from rfl)
  obtain ⟨op, wd, a, b, c0, imm, args⟩ := i
  simp only [instV] at *
  generalize instOk ids funcs _ = R at *
  generalize hP : instPre _ = Pr at *
  generalize ownN _ = N at *
  generalize wFits _ = WF at *
  generalize immFits _ _ = IF at *
  generalize opsOf _ = l at *
  clear hP
  cases h0 : inR op 1 27 with
  | false =>
    rw [h0] at hpre
    simp at hpre
    subst hpre
    simp at hp
    subst hp
    go_enter Tryz.func145, Tryz.ntmps145
    go_wp2_with (go_at_call 47; refine (s_l1In _ _ _ _).mono ?_; rintro e w' ⟨rfl, rfl⟩)
    go_ret
    exact ⟨rfl, hbl _⟩
  | true =>
    rw [h0] at hpre
    by_cases h2 : op ≠ 26 ∧ 0 < args.length
    · obtain ⟨h4, h3⟩ := h2
      have h5 : args.isEmpty = false := by cases args <;> simp_all
      simp [beqF h4, h5] at hpre
      subst hpre
      simp at hp
      subst hp
      have b4 := bneT h4
      clear h5
      go_enter Tryz.func145, Tryz.ntmps145
      go_wp2_with (go_at_call 47; refine (s_l1In _ _ _ _).mono ?_; rintro e w' ⟨rfl, rfl⟩)
      go_ret
      exact ⟨rfl, hbl _⟩
    · have hpre2 : Pr = decide (args.length ≤ 4) := by
        rw [hpre]
        have : args.isEmpty = true ∨ op = 26 := by
          rcases Nat.eq_zero_or_pos args.length with h | h
          · left; simpa using h
          · right; exact Decidable.byContradiction fun h' => h2 ⟨h', h⟩
        rcases this with h | h <;> simp [h]
      have hargs : op ≠ 26 → args.length = 0 := fun h => by omega
      clear hpre h2
      have hp' := Hd.mk hp
      have hpre' := Hd.mk hpre2
      have hargs' := Hd.mk hargs
      clear hp hpre2 hargs
      have h26 : op ≠ 26 ∧ args = [] ∨ op = 26 := by
        by_cases h : op = 26
        · exact .inr h
        · exact .inl ⟨h, List.eq_nil_of_length_eq_zero (hargs'.out h)⟩
      clear hargs'
      rcases h26 with ⟨h26, rfl⟩ | rfl
      · have b26 := bneT h26
        have c26 := beqF h26
        have hl3 := hn3.out h26
        have hN2 := hN.out
        rw [c26] at hN2
        simp at hN2
        subst hN2
        have hPr := hpre'.out
        simp at hPr
        subst hPr
        go_enter Tryz.func145, Tryz.ntmps145
        go_wp2_with fail
        refine (s_l1In _ _ _ _).mono ?_; rintro e w' ⟨rfl, rfl⟩
        go_wp2_with fail
        refine (hops _ _ (hv0.out.mv (hbl _))).mono ?_; rintro e w1 ⟨v', rfl, ho1, hb1⟩
        obtain ⟨A1, c1, rfl, -, -, hr1⟩ := (own_ints (L := lm) ho1 (by simp only [lm]; omega)).2.sm
        have k0 := bat hb1 w.heap.size (by simp)
        simp at k0
        have hbw := Hd.mk ((hbl _).then hb1)
        clear hb1 ho1 hops
        go_wp2
        go_loop [8] (fun s8 => ∃ k : Nat, k ≤ l.length ∧ s8 = .int .i64 k ∧ Hd ((l.take k).all (isIdB ids) = true)) (fun s8 => l.length - (intOf s8).toNat)
        case atStart => exact ⟨0, Nat.zero_le _, rfl, ⟨by simp⟩⟩
        case round =>
          obtain ⟨k, hk, rfl, hall⟩ := hrel
          by_cases hlt : k < l.length
          · obtain ⟨b1, off1, cs1, hA, hbl1, hk1, hat⟩ := hr1.out.in0 (Below.refl _ _) k hlt
            cases hA
            cases hk1
            have g0 := hat 0 _ rfl
            simp at g0
            clear hat
            have hsn := Hd.mk (all_take_snoc (isIdB ids) l k hlt)
            have hfail := fun h => Hd.mk (all_false_of (isIdB ids) l k hlt h)
            have hid : isIdB ids l[k] = inR l[k] 0 (ids - 1) := rfl
            generalize l[k] = y at *
            cases hq : inR y 0 (ids - 1) with
            | false =>
              have hp2 := hp'.out
              rw [(hfail (by rw [hid, hq])).out] at hp2
              simp at hp2
              subst hp2
              go_wp2_with (go_at_call 47; refine (s_l1In _ _ _ _).mono ?_; rintro e w' ⟨rfl, rfl⟩)
              go_ret
              exact ⟨rfl, hbw.out⟩
            | true =>
              go_wp2_with (go_at_call 47; refine (s_l1In _ _ _ _).mono ?_; rintro e w' ⟨rfl, rfl⟩)
              go_round
              case rel => exact ⟨k + 1, by omega, by go_num, ⟨by rw [hsn.out, hall.out, hid, hq]; rfl⟩⟩
              case measure => simp [intOf]; omega
          · have e : k = l.length := by omega
            subst e
            rw [List.take_length] at hall
            have hp2 := hp'.out
            rw [hall.out] at hp2
            have hR := Hd.mk hp2
            have hcls := hcl.out h0 h26
            clear hp2 hp' hn3 hN hcl
            rcases hcls with ⟨rfl, hn⟩ | ⟨rfl, hn⟩ | ⟨rfl, hn⟩ | ⟨rfl, hn⟩ | ⟨o21, o23, o24, o25, hn⟩
            · skip
              cases hwd : widthOk wd with
              | false =>
                have hwf : WF = false := by rw [hW.out]; simp [hwd]
                by_cases hw0 : wd = 0
                · subst hw0
                  have e : R = false := by rw [hR.out]; simp [hn, hwf]
                  subst e
                  go_wp2_with (first | (go_at_call 105; refine (s_WidthOk _ _).mono ?_; rintro e w' ⟨rfl, rfl⟩) | (go_at_call 76; refine (s_l1Value _ _ _).mono ?_; rintro e w' ⟨rfl, rfl⟩) | (go_at_call 47; refine (s_l1In _ _ _ _).mono ?_; rintro e w' ⟨rfl, rfl⟩))
                  go_ret
                  exact ⟨by first | rfl | simp, hbw.out⟩
                · have yw := beqF hw0
                  have e : R = false := by rw [hR.out]; simp [hn, hwf]
                  subst e
                  go_wp2_with (first | (go_at_call 105; refine (s_WidthOk _ _).mono ?_; rintro e w' ⟨rfl, rfl⟩) | (go_at_call 76; refine (s_l1Value _ _ _).mono ?_; rintro e w' ⟨rfl, rfl⟩) | (go_at_call 47; refine (s_l1In _ _ _ _).mono ?_; rintro e w' ⟨rfl, rfl⟩))
                  go_ret
                  exact ⟨by first | rfl | simp, hbw.out⟩
              | true =>
                have yw := widthOk_ne wd hwd
                have hwf : WF = true := by rw [hW.out]; simp [hwd]
                have hif : IF = isVal wd imm := hM.out
                by_cases za : a = 0
                rotate_left
                · have ya := bneT za
                  have e : R = false := by rw [hR.out]; simp [hn, hwf, za]
                  subst e
                  go_wp2_with (first | (go_at_call 105; refine (s_WidthOk _ _).mono ?_; rintro e w' ⟨rfl, rfl⟩) | (go_at_call 76; refine (s_l1Value _ _ _).mono ?_; rintro e w' ⟨rfl, rfl⟩) | (go_at_call 47; refine (s_l1In _ _ _ _).mono ?_; rintro e w' ⟨rfl, rfl⟩))
                  go_ret
                  exact ⟨by first | rfl | simp, hbw.out⟩
                subst za
                by_cases zb : b = 0
                rotate_left
                · have yb := bneT zb
                  have e : R = false := by rw [hR.out]; simp [hn, hwf, zb]
                  subst e
                  go_wp2_with (first | (go_at_call 105; refine (s_WidthOk _ _).mono ?_; rintro e w' ⟨rfl, rfl⟩) | (go_at_call 76; refine (s_l1Value _ _ _).mono ?_; rintro e w' ⟨rfl, rfl⟩) | (go_at_call 47; refine (s_l1In _ _ _ _).mono ?_; rintro e w' ⟨rfl, rfl⟩))
                  go_ret
                  exact ⟨by first | rfl | simp, hbw.out⟩
                subst zb
                by_cases zc0 : c0 = 0
                rotate_left
                · have yc0 := bneT zc0
                  have e : R = false := by rw [hR.out]; simp [hn, hwf, zc0]
                  subst e
                  go_wp2_with (first | (go_at_call 105; refine (s_WidthOk _ _).mono ?_; rintro e w' ⟨rfl, rfl⟩) | (go_at_call 76; refine (s_l1Value _ _ _).mono ?_; rintro e w' ⟨rfl, rfl⟩) | (go_at_call 47; refine (s_l1In _ _ _ _).mono ?_; rintro e w' ⟨rfl, rfl⟩))
                  go_ret
                  exact ⟨by first | rfl | simp, hbw.out⟩
                subst zc0
                have e : R = isVal wd imm := by rw [hR.out]; simp [hn, hwf, hif]
                subst e
                go_wp2_with (first | (go_at_call 105; refine (s_WidthOk _ _).mono ?_; rintro e w' ⟨rfl, rfl⟩) | (go_at_call 76; refine (s_l1Value _ _ _).mono ?_; rintro e w' ⟨rfl, rfl⟩) | (go_at_call 47; refine (s_l1In _ _ _ _).mono ?_; rintro e w' ⟨rfl, rfl⟩))
                go_ret
                exact ⟨by first | rfl | simp, hbw.out⟩
            · skip
              by_cases hw0 : wd = 0
              rotate_left
              · have hwf : WF = false := by rw [hW.out]; simp [hw0]
                have yw := beqF hw0
                have e : R = false := by rw [hR.out]; simp [hn, hwf]
                subst e
                go_wp2_with (first | (go_at_call 105; refine (s_WidthOk _ _).mono ?_; rintro e w' ⟨rfl, rfl⟩) | (go_at_call 76; refine (s_l1Value _ _ _).mono ?_; rintro e w' ⟨rfl, rfl⟩) | (go_at_call 47; refine (s_l1In _ _ _ _).mono ?_; rintro e w' ⟨rfl, rfl⟩))
                go_ret
                exact ⟨by first | rfl | simp, hbw.out⟩
              have hwf : WF = true := by rw [hW.out]; simp [hw0]
              have hif : IF = (imm == 0) := hM.out
              subst hw0
              by_cases zc0 : c0 = 0
              rotate_left
              · have yc0 := bneT zc0
                have e : R = false := by rw [hR.out]; simp [hn, hwf, zc0]
                subst e
                go_wp2_with (first | (go_at_call 105; refine (s_WidthOk _ _).mono ?_; rintro e w' ⟨rfl, rfl⟩) | (go_at_call 76; refine (s_l1Value _ _ _).mono ?_; rintro e w' ⟨rfl, rfl⟩) | (go_at_call 47; refine (s_l1In _ _ _ _).mono ?_; rintro e w' ⟨rfl, rfl⟩))
                go_ret
                exact ⟨by first | rfl | simp, hbw.out⟩
              subst zc0
              have e : R = (imm == 0) := by rw [hR.out]; simp [hn, hwf, hif]
              subst e
              go_wp2_with (first | (go_at_call 105; refine (s_WidthOk _ _).mono ?_; rintro e w' ⟨rfl, rfl⟩) | (go_at_call 76; refine (s_l1Value _ _ _).mono ?_; rintro e w' ⟨rfl, rfl⟩) | (go_at_call 47; refine (s_l1In _ _ _ _).mono ?_; rintro e w' ⟨rfl, rfl⟩))
              go_ret
              exact ⟨by first | rfl | simp, hbw.out⟩
            · skip
              by_cases hw0 : wd = 0
              rotate_left
              · have hwf : WF = false := by rw [hW.out]; simp [hw0]
                have yw := beqF hw0
                have e : R = false := by rw [hR.out]; simp [hn, hwf]
                subst e
                go_wp2_with (first | (go_at_call 105; refine (s_WidthOk _ _).mono ?_; rintro e w' ⟨rfl, rfl⟩) | (go_at_call 76; refine (s_l1Value _ _ _).mono ?_; rintro e w' ⟨rfl, rfl⟩) | (go_at_call 47; refine (s_l1In _ _ _ _).mono ?_; rintro e w' ⟨rfl, rfl⟩))
                go_ret
                exact ⟨by first | rfl | simp, hbw.out⟩
              have hwf : WF = true := by rw [hW.out]; simp [hw0]
              have hif : IF = (imm == 0) := hM.out
              subst hw0
              by_cases zb : b = 0
              rotate_left
              · have yb := bneT zb
                have e : R = false := by rw [hR.out]; simp [hn, hwf, zb]
                subst e
                go_wp2_with (first | (go_at_call 105; refine (s_WidthOk _ _).mono ?_; rintro e w' ⟨rfl, rfl⟩) | (go_at_call 76; refine (s_l1Value _ _ _).mono ?_; rintro e w' ⟨rfl, rfl⟩) | (go_at_call 47; refine (s_l1In _ _ _ _).mono ?_; rintro e w' ⟨rfl, rfl⟩))
                go_ret
                exact ⟨by first | rfl | simp, hbw.out⟩
              subst zb
              by_cases zc0 : c0 = 0
              rotate_left
              · have yc0 := bneT zc0
                have e : R = false := by rw [hR.out]; simp [hn, hwf, zc0]
                subst e
                go_wp2_with (first | (go_at_call 105; refine (s_WidthOk _ _).mono ?_; rintro e w' ⟨rfl, rfl⟩) | (go_at_call 76; refine (s_l1Value _ _ _).mono ?_; rintro e w' ⟨rfl, rfl⟩) | (go_at_call 47; refine (s_l1In _ _ _ _).mono ?_; rintro e w' ⟨rfl, rfl⟩))
                go_ret
                exact ⟨by first | rfl | simp, hbw.out⟩
              subst zc0
              have e : R = (imm == 0) := by rw [hR.out]; simp [hn, hwf, hif]
              subst e
              go_wp2_with (first | (go_at_call 105; refine (s_WidthOk _ _).mono ?_; rintro e w' ⟨rfl, rfl⟩) | (go_at_call 76; refine (s_l1Value _ _ _).mono ?_; rintro e w' ⟨rfl, rfl⟩) | (go_at_call 47; refine (s_l1In _ _ _ _).mono ?_; rintro e w' ⟨rfl, rfl⟩))
              go_ret
              exact ⟨by first | rfl | simp, hbw.out⟩
            · skip
              cases hwd : widthOk wd with
              | false =>
                have hwf : WF = false := by rw [hW.out]; simp; intro h; subst h; cases hwd
                by_cases hw0 : wd = 0
                · subst hw0
                  have e : R = false := by rw [hR.out]; simp [hn, hwf]
                  subst e
                  go_wp2_with (first | (go_at_call 105; refine (s_WidthOk _ _).mono ?_; rintro e w' ⟨rfl, rfl⟩) | (go_at_call 76; refine (s_l1Value _ _ _).mono ?_; rintro e w' ⟨rfl, rfl⟩) | (go_at_call 47; refine (s_l1In _ _ _ _).mono ?_; rintro e w' ⟨rfl, rfl⟩))
                  go_ret
                  exact ⟨by first | rfl | simp, hbw.out⟩
                · have yw := beqF hw0
                  have e : R = false := by rw [hR.out]; simp [hn, hwf]
                  subst e
                  go_wp2_with (first | (go_at_call 105; refine (s_WidthOk _ _).mono ?_; rintro e w' ⟨rfl, rfl⟩) | (go_at_call 76; refine (s_l1Value _ _ _).mono ?_; rintro e w' ⟨rfl, rfl⟩) | (go_at_call 47; refine (s_l1In _ _ _ _).mono ?_; rintro e w' ⟨rfl, rfl⟩))
                  go_ret
                  exact ⟨by first | rfl | simp, hbw.out⟩
              | true =>
                have yw := widthOk_ne wd hwd
                have hwf : WF = (wd == 8) := hW.out
                have hif : IF = (imm == 0) := hM.out
                by_cases zb : b = 0
                rotate_left
                · have yb := bneT zb
                  have e : R = false := by rw [hR.out]; simp [hn, hwf, zb]
                  subst e
                  go_wp2_with (first | (go_at_call 105; refine (s_WidthOk _ _).mono ?_; rintro e w' ⟨rfl, rfl⟩) | (go_at_call 76; refine (s_l1Value _ _ _).mono ?_; rintro e w' ⟨rfl, rfl⟩) | (go_at_call 47; refine (s_l1In _ _ _ _).mono ?_; rintro e w' ⟨rfl, rfl⟩))
                  go_ret
                  exact ⟨by first | rfl | simp, hbw.out⟩
                subst zb
                by_cases zc0 : c0 = 0
                rotate_left
                · have yc0 := bneT zc0
                  have e : R = false := by rw [hR.out]; simp [hn, hwf, zc0]
                  subst e
                  go_wp2_with (first | (go_at_call 105; refine (s_WidthOk _ _).mono ?_; rintro e w' ⟨rfl, rfl⟩) | (go_at_call 76; refine (s_l1Value _ _ _).mono ?_; rintro e w' ⟨rfl, rfl⟩) | (go_at_call 47; refine (s_l1In _ _ _ _).mono ?_; rintro e w' ⟨rfl, rfl⟩))
                  go_ret
                  exact ⟨by first | rfl | simp, hbw.out⟩
                subst zc0
                by_cases h8 : wd = 8
                · subst h8
                  have e : R = (imm == 0) := by rw [hR.out]; simp [hn, hwf, hif]
                  subst e
                  go_wp2_with (first | (go_at_call 105; refine (s_WidthOk _ _).mono ?_; rintro e w' ⟨rfl, rfl⟩) | (go_at_call 76; refine (s_l1Value _ _ _).mono ?_; rintro e w' ⟨rfl, rfl⟩) | (go_at_call 47; refine (s_l1In _ _ _ _).mono ?_; rintro e w' ⟨rfl, rfl⟩))
                  go_ret
                  exact ⟨by first | rfl | simp, hbw.out⟩
                · have y8 := beqF h8
                  have e : R = false := by rw [hR.out]; simp [hn, hwf, y8]
                  subst e
                  go_wp2_with (first | (go_at_call 105; refine (s_WidthOk _ _).mono ?_; rintro e w' ⟨rfl, rfl⟩) | (go_at_call 76; refine (s_l1Value _ _ _).mono ?_; rintro e w' ⟨rfl, rfl⟩) | (go_at_call 47; refine (s_l1In _ _ _ _).mono ?_; rintro e w' ⟨rfl, rfl⟩))
                  go_ret
                  exact ⟨by first | rfl | simp, hbw.out⟩
            · have b21 := beqF o21
              have b23 := beqF o23
              have b24 := beqF o24
              have b25 := beqF o25
              rcases hn with hn | hn | hn
              · skip
                cases hwd : widthOk wd with
                | false =>
                  have hwf : WF = false := by rw [hW.out]; simp [hwd, b21, b23, b24, b25, c26]
                  by_cases hw0 : wd = 0
                  · subst hw0
                    have e : R = false := by rw [hR.out]; simp [hn, hwf]
                    subst e
                    go_wp2_with (first | (go_at_call 105; refine (s_WidthOk _ _).mono ?_; rintro e w' ⟨rfl, rfl⟩) | (go_at_call 76; refine (s_l1Value _ _ _).mono ?_; rintro e w' ⟨rfl, rfl⟩) | (go_at_call 47; refine (s_l1In _ _ _ _).mono ?_; rintro e w' ⟨rfl, rfl⟩))
                    go_ret
                    exact ⟨by first | rfl | simp, hbw.out⟩
                  · have yw := beqF hw0
                    have e : R = false := by rw [hR.out]; simp [hn, hwf]
                    subst e
                    go_wp2_with (first | (go_at_call 105; refine (s_WidthOk _ _).mono ?_; rintro e w' ⟨rfl, rfl⟩) | (go_at_call 76; refine (s_l1Value _ _ _).mono ?_; rintro e w' ⟨rfl, rfl⟩) | (go_at_call 47; refine (s_l1In _ _ _ _).mono ?_; rintro e w' ⟨rfl, rfl⟩))
                    go_ret
                    exact ⟨by first | rfl | simp, hbw.out⟩
                | true =>
                  have yw := widthOk_ne wd hwd
                  have hwf : WF = true := by rw [hW.out]; simp [hwd, b21, b23, b24, b25, c26]
                  have hif : IF = (imm == 0) := by rw [hM.out]; simp [b21, b23, b24, b25, c26]
                  by_cases zb : b = 0
                  rotate_left
                  · have yb := bneT zb
                    have e : R = false := by rw [hR.out]; simp [hn, hwf, zb]
                    subst e
                    go_wp2_with (first | (go_at_call 105; refine (s_WidthOk _ _).mono ?_; rintro e w' ⟨rfl, rfl⟩) | (go_at_call 76; refine (s_l1Value _ _ _).mono ?_; rintro e w' ⟨rfl, rfl⟩) | (go_at_call 47; refine (s_l1In _ _ _ _).mono ?_; rintro e w' ⟨rfl, rfl⟩))
                    go_ret
                    exact ⟨by first | rfl | simp, hbw.out⟩
                  subst zb
                  by_cases zc0 : c0 = 0
                  rotate_left
                  · have yc0 := bneT zc0
                    have e : R = false := by rw [hR.out]; simp [hn, hwf, zc0]
                    subst e
                    go_wp2_with (first | (go_at_call 105; refine (s_WidthOk _ _).mono ?_; rintro e w' ⟨rfl, rfl⟩) | (go_at_call 76; refine (s_l1Value _ _ _).mono ?_; rintro e w' ⟨rfl, rfl⟩) | (go_at_call 47; refine (s_l1In _ _ _ _).mono ?_; rintro e w' ⟨rfl, rfl⟩))
                    go_ret
                    exact ⟨by first | rfl | simp, hbw.out⟩
                  subst zc0
                  have e : R = (imm == 0) := by rw [hR.out]; simp [hn, hwf, hif]
                  subst e
                  go_wp2_with (first | (go_at_call 105; refine (s_WidthOk _ _).mono ?_; rintro e w' ⟨rfl, rfl⟩) | (go_at_call 76; refine (s_l1Value _ _ _).mono ?_; rintro e w' ⟨rfl, rfl⟩) | (go_at_call 47; refine (s_l1In _ _ _ _).mono ?_; rintro e w' ⟨rfl, rfl⟩))
                  go_ret
                  exact ⟨by first | rfl | simp, hbw.out⟩
              · skip
                cases hwd : widthOk wd with
                | false =>
                  have hwf : WF = false := by rw [hW.out]; simp [hwd, b21, b23, b24, b25, c26]
                  by_cases hw0 : wd = 0
                  · subst hw0
                    have e : R = false := by rw [hR.out]; simp [hn, hwf]
                    subst e
                    go_wp2_with (first | (go_at_call 105; refine (s_WidthOk _ _).mono ?_; rintro e w' ⟨rfl, rfl⟩) | (go_at_call 76; refine (s_l1Value _ _ _).mono ?_; rintro e w' ⟨rfl, rfl⟩) | (go_at_call 47; refine (s_l1In _ _ _ _).mono ?_; rintro e w' ⟨rfl, rfl⟩))
                    go_ret
                    exact ⟨by first | rfl | simp, hbw.out⟩
                  · have yw := beqF hw0
                    have e : R = false := by rw [hR.out]; simp [hn, hwf]
                    subst e
                    go_wp2_with (first | (go_at_call 105; refine (s_WidthOk _ _).mono ?_; rintro e w' ⟨rfl, rfl⟩) | (go_at_call 76; refine (s_l1Value _ _ _).mono ?_; rintro e w' ⟨rfl, rfl⟩) | (go_at_call 47; refine (s_l1In _ _ _ _).mono ?_; rintro e w' ⟨rfl, rfl⟩))
                    go_ret
                    exact ⟨by first | rfl | simp, hbw.out⟩
                | true =>
                  have yw := widthOk_ne wd hwd
                  have hwf : WF = true := by rw [hW.out]; simp [hwd, b21, b23, b24, b25, c26]
                  have hif : IF = (imm == 0) := by rw [hM.out]; simp [b21, b23, b24, b25, c26]
                  by_cases zc0 : c0 = 0
                  rotate_left
                  · have yc0 := bneT zc0
                    have e : R = false := by rw [hR.out]; simp [hn, hwf, zc0]
                    subst e
                    go_wp2_with (first | (go_at_call 105; refine (s_WidthOk _ _).mono ?_; rintro e w' ⟨rfl, rfl⟩) | (go_at_call 76; refine (s_l1Value _ _ _).mono ?_; rintro e w' ⟨rfl, rfl⟩) | (go_at_call 47; refine (s_l1In _ _ _ _).mono ?_; rintro e w' ⟨rfl, rfl⟩))
                    go_ret
                    exact ⟨by first | rfl | simp, hbw.out⟩
                  subst zc0
                  have e : R = (imm == 0) := by rw [hR.out]; simp [hn, hwf, hif]
                  subst e
                  go_wp2_with (first | (go_at_call 105; refine (s_WidthOk _ _).mono ?_; rintro e w' ⟨rfl, rfl⟩) | (go_at_call 76; refine (s_l1Value _ _ _).mono ?_; rintro e w' ⟨rfl, rfl⟩) | (go_at_call 47; refine (s_l1In _ _ _ _).mono ?_; rintro e w' ⟨rfl, rfl⟩))
                  go_ret
                  exact ⟨by first | rfl | simp, hbw.out⟩
              · skip
                cases hwd : widthOk wd with
                | false =>
                  have hwf : WF = false := by rw [hW.out]; simp [hwd, b21, b23, b24, b25, c26]
                  by_cases hw0 : wd = 0
                  · subst hw0
                    have e : R = false := by rw [hR.out]; simp [hn, hwf]
                    subst e
                    go_wp2_with (first | (go_at_call 105; refine (s_WidthOk _ _).mono ?_; rintro e w' ⟨rfl, rfl⟩) | (go_at_call 76; refine (s_l1Value _ _ _).mono ?_; rintro e w' ⟨rfl, rfl⟩) | (go_at_call 47; refine (s_l1In _ _ _ _).mono ?_; rintro e w' ⟨rfl, rfl⟩))
                    go_ret
                    exact ⟨by first | rfl | simp, hbw.out⟩
                  · have yw := beqF hw0
                    have e : R = false := by rw [hR.out]; simp [hn, hwf]
                    subst e
                    go_wp2_with (first | (go_at_call 105; refine (s_WidthOk _ _).mono ?_; rintro e w' ⟨rfl, rfl⟩) | (go_at_call 76; refine (s_l1Value _ _ _).mono ?_; rintro e w' ⟨rfl, rfl⟩) | (go_at_call 47; refine (s_l1In _ _ _ _).mono ?_; rintro e w' ⟨rfl, rfl⟩))
                    go_ret
                    exact ⟨by first | rfl | simp, hbw.out⟩
                | true =>
                  have yw := widthOk_ne wd hwd
                  have hwf : WF = true := by rw [hW.out]; simp [hwd, b21, b23, b24, b25, c26]
                  have hif : IF = (imm == 0) := by rw [hM.out]; simp [b21, b23, b24, b25, c26]
                  have e : R = (imm == 0) := by rw [hR.out]; simp [hn, hwf, hif]
                  subst e
                  go_wp2_with (first | (go_at_call 105; refine (s_WidthOk _ _).mono ?_; rintro e w' ⟨rfl, rfl⟩) | (go_at_call 76; refine (s_l1Value _ _ _).mono ?_; rintro e w' ⟨rfl, rfl⟩) | (go_at_call 47; refine (s_l1In _ _ _ _).mono ?_; rintro e w' ⟨rfl, rfl⟩))
                  go_ret
                  exact ⟨by first | rfl | simp, hbw.out⟩
      · have hN2 := hN.out
        simp at hN2
        subst hN2
        go_enter Tryz.func145, Tryz.ntmps145
        go_wp2_with fail
        refine (s_l1In _ _ _ _).mono ?_; rintro e w' ⟨rfl, rfl⟩
        go_wp2_with fail
        refine (hops _ _ (hv0.out.mv (hbl _))).mono ?_; rintro e w1 ⟨v', rfl, ho1, hb1⟩
        obtain ⟨A1, c1, rfl, -, -, hr1⟩ := (own_ints (L := lm) ho1 (by simp only [lm]; omega)).2.sm
        have k0 := bat hb1 w.heap.size (by simp)
        simp at k0
        have hbw := Hd.mk ((hbl _).then hb1)
        clear hb1 ho1 hops
        go_wp2
        go_loop [8] (fun s8 => ∃ k : Nat, k ≤ l.length ∧ s8 = .int .i64 k ∧ Hd ((l.take k).all (isIdB ids) = true)) (fun s8 => l.length - (intOf s8).toNat)
        case atStart => exact ⟨0, Nat.zero_le _, rfl, ⟨by simp⟩⟩
        case round =>
          obtain ⟨k, hk, rfl, hall⟩ := hrel
          by_cases hlt : k < l.length
          · obtain ⟨b1, off1, cs1, hA, hbl1, hk1, hat⟩ := hr1.out.in0 (Below.refl _ _) k hlt
            cases hA
            cases hk1
            have g0 := hat 0 _ rfl
            simp at g0
            clear hat
            have hsn := Hd.mk (all_take_snoc (isIdB ids) l k hlt)
            have hfail := fun h => Hd.mk (all_false_of (isIdB ids) l k hlt h)
            have hid : isIdB ids l[k] = inR l[k] 0 (ids - 1) := rfl
            generalize l[k] = y at *
            cases hq : inR y 0 (ids - 1) with
            | false =>
              have hp2 := hp'.out
              rw [(hfail (by rw [hid, hq])).out] at hp2
              simp at hp2
              subst hp2
              go_wp2_with (go_at_call 47; refine (s_l1In _ _ _ _).mono ?_; rintro e w' ⟨rfl, rfl⟩)
              go_ret
              exact ⟨rfl, hbw.out⟩
            | true =>
              go_wp2_with (go_at_call 47; refine (s_l1In _ _ _ _).mono ?_; rintro e w' ⟨rfl, rfl⟩)
              go_round
              case rel => exact ⟨k + 1, by omega, by go_num, ⟨by rw [hsn.out, hall.out, hid, hq]; rfl⟩⟩
              case measure => simp [intOf]; omega
          · have e : k = l.length := by omega
            subst e
            rw [List.take_length] at hall
            have hp2 := hp'.out
            rw [hall.out] at hp2
            have hR := Hd.mk hp2
            clear hp2 hp' hn3 hN hcl
            cases hwd : widthOk wd with
            | false =>
              have hwf : WF = false := by rw [hW.out]; simp [hwd]
              by_cases hw0 : wd = 0
              · subst hw0
                have e : R = false := by rw [hR.out]; simp [hwf]
                subst e
                go_wp2_with (first | (go_at_call 105; refine (s_WidthOk _ _).mono ?_; rintro e w' ⟨rfl, rfl⟩) | (go_at_call 76; refine (s_l1Value _ _ _).mono ?_; rintro e w' ⟨rfl, rfl⟩) | (go_at_call 47; refine (s_l1In _ _ _ _).mono ?_; rintro e w' ⟨rfl, rfl⟩))
                go_ret
                exact ⟨by first | rfl | simp, hbw.out⟩
              · have yw := beqF hw0
                have e : R = false := by rw [hR.out]; simp [hwf]
                subst e
                go_wp2_with (first | (go_at_call 105; refine (s_WidthOk _ _).mono ?_; rintro e w' ⟨rfl, rfl⟩) | (go_at_call 76; refine (s_l1Value _ _ _).mono ?_; rintro e w' ⟨rfl, rfl⟩) | (go_at_call 47; refine (s_l1In _ _ _ _).mono ?_; rintro e w' ⟨rfl, rfl⟩))
                go_ret
                exact ⟨by first | rfl | simp, hbw.out⟩
            | true =>
              have yw := widthOk_ne wd hwd
              have hwf : WF = true := by rw [hW.out]; simp [hwd]
              have hif : IF = inR imm 0 (funcs - 1) := hM.out
              by_cases h4 : 4 < args.length
              · have hPr := hpre'.out
                rw [show decide (args.length ≤ 4) = false by simp; omega] at hPr
                have d4 : decide (4 < (args.length : Int)) = true := by simp; omega
                have e : R = false := by rw [hR.out]; simp [hPr]
                subst e
                go_wp2_with (first | (go_at_call 105; refine (s_WidthOk _ _).mono ?_; rintro e w' ⟨rfl, rfl⟩) | (go_at_call 76; refine (s_l1Value _ _ _).mono ?_; rintro e w' ⟨rfl, rfl⟩) | (go_at_call 47; refine (s_l1In _ _ _ _).mono ?_; rintro e w' ⟨rfl, rfl⟩))
                go_ret
                exact ⟨by first | rfl | simp, hbw.out⟩
              have hPr := hpre'.out
              rw [show decide (args.length ≤ 4) = true by simp; omega] at hPr
              have d4 : decide (4 < (args.length : Int)) = false := by simp; omega
              subst hPr
              by_cases za : a = 0
              rotate_left
              · have ya := bneT za
                have e : R = false := by rw [hR.out]; simp [hwf, za]
                subst e
                go_wp2_with (first | (go_at_call 105; refine (s_WidthOk _ _).mono ?_; rintro e w' ⟨rfl, rfl⟩) | (go_at_call 76; refine (s_l1Value _ _ _).mono ?_; rintro e w' ⟨rfl, rfl⟩) | (go_at_call 47; refine (s_l1In _ _ _ _).mono ?_; rintro e w' ⟨rfl, rfl⟩))
                go_ret
                exact ⟨by first | rfl | simp, hbw.out⟩
              subst za
              by_cases zb : b = 0
              rotate_left
              · have yb := bneT zb
                have e : R = false := by rw [hR.out]; simp [hwf, zb]
                subst e
                go_wp2_with (first | (go_at_call 105; refine (s_WidthOk _ _).mono ?_; rintro e w' ⟨rfl, rfl⟩) | (go_at_call 76; refine (s_l1Value _ _ _).mono ?_; rintro e w' ⟨rfl, rfl⟩) | (go_at_call 47; refine (s_l1In _ _ _ _).mono ?_; rintro e w' ⟨rfl, rfl⟩))
                go_ret
                exact ⟨by first | rfl | simp, hbw.out⟩
              subst zb
              by_cases zc0 : c0 = 0
              rotate_left
              · have yc0 := bneT zc0
                have e : R = false := by rw [hR.out]; simp [hwf, zc0]
                subst e
                go_wp2_with (first | (go_at_call 105; refine (s_WidthOk _ _).mono ?_; rintro e w' ⟨rfl, rfl⟩) | (go_at_call 76; refine (s_l1Value _ _ _).mono ?_; rintro e w' ⟨rfl, rfl⟩) | (go_at_call 47; refine (s_l1In _ _ _ _).mono ?_; rintro e w' ⟨rfl, rfl⟩))
                go_ret
                exact ⟨by first | rfl | simp, hbw.out⟩
              subst zc0
              have e : R = inR imm 0 (funcs - 1) := by rw [hR.out]; simp [hwf, hif]
              subst e
              go_wp2_with (first | (go_at_call 105; refine (s_WidthOk _ _).mono ?_; rintro e w' ⟨rfl, rfl⟩) | (go_at_call 76; refine (s_l1Value _ _ _).mono ?_; rintro e w' ⟨rfl, rfl⟩) | (go_at_call 47; refine (s_l1In _ _ _ _).mono ?_; rintro e w' ⟨rfl, rfl⟩))
              go_ret
              exact ⟨by first | rfl | simp, hbw.out⟩
theorem funcOk_spec (f : XFunc) (funcs : Int) : funcOk f funcs = ((decide (f.params.length ≤ 4) && (widthOk f.ret && (inR f.blocks.length 1 10 && decide (countOf f ≤ 60)))) && (f.params.all widthOk && f.blocks.all (blockOk (countOf f) funcs f.blocks.length))) := by
  simp only [funcOk]
  generalize decide (f.params.length ≤ 4) = a
  generalize widthOk f.ret = b
  generalize inR f.blocks.length 1 10 = c
  generalize f.params.all widthOk = d
  generalize decide (countOf f ≤ 60) = e
  cases a <;> cases b <;> cases c <;> cases d <;> cases e <;> simp
set_option maxHeartbeats 8000000 in
set_option maxRecDepth 100000 in
theorem s_l2Func (f : XFunc) (cs : List Value) (funcs : Int) (w : World) (hf : KFunc lm w f cs) (hf0 : 0 ≤ funcs) (hf1 : funcs ≤ 1048576) :
    Calls Tryz.prog 99 #[.agg cs.toArray, .int .i64 funcs] w (Ret (.bool (funcOk f funcs)) w) := by
  have hR := Hd.mk (funcOk_spec f funcs)
  have hcount := fun W hW => s_CountOf f cs W (KM.mv hf hW)
  have hc0 := countOf_nn f
  obtain ⟨v1, v2, rfl, hp, hb⟩ := hf
  obtain ⟨A1, c1, rfl, -, hl1, hp0⟩ := hp.sm
  obtain ⟨A2, c2, rfl, -, hl2, hb0⟩ := hb.sm
  have hbl := fun o => (Below.refl w.heap.size w).al (Nat.le_refl _) o
  clear hb hp
  generalize funcOk f funcs = R at *
  generalize countOf f = ids at *
  generalize hpp : f.params = pl at *
  generalize f.ret = r at *
  generalize f.blocks = l at *
  clear hpp
  cases hpre : (decide (pl.length ≤ 4) && (widthOk r && (inR l.length 1 10 && decide (ids ≤ 60)))) with
  | false =>
    have hR2 := hR.out
    rw [hpre] at hR2
    simp at hR2
    subst hR2
    by_cases h1 : 4 < pl.length
    · have d1 : decide (4 < (pl.length : Int)) = true := by simp; omega
      clear hpre
      go_enter Tryz.func99, Tryz.ntmps99
      go_wp2_with fail
      refine (hcount _ (hbl _)).mono ?_; rintro e w1 ⟨rfl, hb1⟩
      have k0 := bat hb1 w.heap.size (by simp)
      simp at k0
      go_wp2
      go_ret
      exact ⟨rfl, (hbl _).then hb1⟩
    have d1 : decide (4 < (pl.length : Int)) = false := by simp; omega
    rw [show decide (pl.length ≤ 4) = true by simp; omega] at hpre
    simp only [Bool.true_and] at hpre
    cases hw : widthOk r with
    | false =>
      clear hpre
      go_enter Tryz.func99, Tryz.ntmps99
      go_wp2_with fail
      refine (hcount _ (hbl _)).mono ?_; rintro e w1 ⟨rfl, hb1⟩
      have k0 := bat hb1 w.heap.size (by simp)
      simp at k0
      go_wp2_with (go_at_call 105; refine (s_WidthOk _ _).mono ?_; rintro e w' ⟨rfl, rfl⟩)
      go_ret
      exact ⟨rfl, (hbl _).then hb1⟩
    | true =>
      rw [hw] at hpre
      simp only [Bool.true_and] at hpre
      cases hn : inR l.length 1 10 with
      | false =>
        clear hpre
        go_enter Tryz.func99, Tryz.ntmps99
        go_wp2_with fail
        refine (hcount _ (hbl _)).mono ?_; rintro e w1 ⟨rfl, hb1⟩
        have k0 := bat hb1 w.heap.size (by simp)
        simp at k0
        go_wp2_with (first | (go_at_call 105; refine (s_WidthOk _ _).mono ?_; rintro e w' ⟨rfl, rfl⟩) | (go_at_call 47; refine (s_l1In _ _ _ _).mono ?_; rintro e w' ⟨rfl, rfl⟩))
        go_ret
        exact ⟨rfl, (hbl _).then hb1⟩
      | true =>
        rw [hn] at hpre
        simp only [Bool.true_and] at hpre
        have d2 : decide (60 < ids) = true := by simp at hpre ⊢; omega
        clear hpre
        go_enter Tryz.func99, Tryz.ntmps99
        go_wp2_with fail
        refine (hcount _ (hbl _)).mono ?_; rintro e w1 ⟨rfl, hb1⟩
        have k0 := bat hb1 w.heap.size (by simp)
        simp at k0
        go_wp2_with (first | (go_at_call 105; refine (s_WidthOk _ _).mono ?_; rintro e w' ⟨rfl, rfl⟩) | (go_at_call 47; refine (s_l1In _ _ _ _).mono ?_; rintro e w' ⟨rfl, rfl⟩))
        go_ret
        exact ⟨rfl, (hbl _).then hb1⟩
  | true =>
    rw [hpre] at hR
    simp only [Bool.and_eq_true, decide_eq_true_eq] at hpre
    obtain ⟨h1, hw, hn, hi60⟩ := hpre
    have d1 : decide (4 < (pl.length : Int)) = false := by simp; omega
    have d2 : decide (60 < ids) = false := by simp; omega
    go_enter Tryz.func99, Tryz.ntmps99
    go_wp2_with fail
    refine (hcount _ (hbl _)).mono ?_; rintro e w1 ⟨rfl, hb1⟩
    have k0 := bat hb1 w.heap.size (by simp)
    have hz1 := hb1.size
    simp at k0 hz1
    have hbw1 := Hd.mk ((hbl _).then hb1)
    clear hb1 hcount
    go_wp2_with (first | (go_at_call 105; refine (s_WidthOk _ _).mono ?_; rintro e w' ⟨rfl, rfl⟩) | (go_at_call 47; refine (s_l1In _ _ _ _).mono ?_; rintro e w' ⟨rfl, rfl⟩))
    clear d1 d2 hw hn
    go_loop [7] (fun s7 => ∃ k : Nat, k ≤ pl.length ∧ s7 = .int .i64 k ∧ Hd ((pl.take k).all widthOk = true)) (fun s7 => pl.length - (intOf s7).toNat)
    case atStart => exact ⟨0, Nat.zero_le _, rfl, ⟨by simp⟩⟩
    case round =>
      obtain ⟨k, hk, rfl, hall⟩ := hrel
      by_cases hlt : k < pl.length
      · obtain ⟨b, off, cs, hA, hbl', hk1, hat⟩ := hp0.out.in0 hbw1.out k hlt
        cases hA
        cases hk1
        have g0 := hat 0 _ rfl
        simp at g0
        clear hat
        have hsn := Hd.mk (all_take_snoc widthOk pl k hlt)
        have hfail := fun h => Hd.mk (all_false_of widthOk pl k hlt h)
        generalize pl[k] = y at *
        cases hq : widthOk y with
        | false =>
          have hR2 := hR.out
          rw [(hfail hq).out] at hR2
          simp at hR2
          subst hR2
          go_wp2_with (go_at_call 105; refine (s_WidthOk _ _).mono ?_; rintro e w' ⟨rfl, rfl⟩)
          go_ret
          exact ⟨rfl, hbw1.out⟩
        | true =>
          go_wp2_with (go_at_call 105; refine (s_WidthOk _ _).mono ?_; rintro e w' ⟨rfl, rfl⟩)
          go_round
          case rel => exact ⟨k + 1, by omega, by go_num, ⟨by rw [hsn.out, hall.out, hq]; rfl⟩⟩
          case measure => simp [intOf]; omega
      · have e : k = pl.length := by omega
        subst e
        rw [List.take_length] at hall
        rw [hall.out] at hR
        clear hp0 hall
        have hR' := Hd.mk (show R = l.all (blockOk ids funcs l.length) by rw [hR.out]; rfl)
        clear hR
        have hz1' : w.heap.size < w1.heap.size := by omega
        go_wp2
        go_loopw [8] (fun s8 wr => ∃ k : Nat, k ≤ l.length ∧ s8 = .int .i64 k ∧ Hd (Below w1.heap.size w1 wr) ∧ Hd ((l.take k).all (blockOk ids funcs l.length) = true)) (fun s8 _ => l.length - (intOf s8).toNat)
        case atStart => exact ⟨0, Nat.zero_le _, rfl, ⟨Below.refl _ _⟩, ⟨by simp⟩⟩
        case round =>
          obtain ⟨k, hk, rfl, hbr, hall⟩ := hrel
          obtain ⟨wo, rfl⟩ : ∃ wo : World, wo = wr := ⟨_, rfl⟩
          have hzr := hbr.out.size
          have hbw := Hd.mk (hbw1.out.then hbr.out)
          replace k0 := fun o => (bat hbr.out w.heap.size hz1' o).trans (k0 o)
          by_cases hlt : k < l.length
          · obtain ⟨b, off, cs, hA, hbl', ⟨v1, v2, rfl, hr, hr2⟩, hat⟩ := hb0.out.in0 hbw.out k hlt
            cases hA
            have g0 := hat 0 _ rfl
            have g1 := hat 1 _ rfl
            have g2 := hat 2 _ rfl
            have g3 := hat 3 _ rfl
            have g4 := hat 4 _ rfl
            have g5 := hat 5 _ rfl
            clear hat
            simp at g0 g1 g2 g3 g4 g5
            have hsn := Hd.mk (all_take_snoc (blockOk ids funcs l.length) l k hlt)
            have hbk : blockOk ids funcs l.length l[k] = (l[k].phis.all (phiOk ids) && (l[k].insts.all (instOk ids funcs) && termOk ids l.length l[k].term)) := by simp only [blockOk, Bool.and_assoc]
            have hfail := Hd.mk (fun h => all_false_of (blockOk ids funcs l.length) l k hlt h)
            have hbk' := Hd.mk hbk
            clear hbk
            generalize l[k] = x at *
            obtain ⟨A3, c3, rfl, -, hl3, hr0⟩ := hr.sm
            obtain ⟨A4, c4, rfl, -, hl4, hr20⟩ := hr2.sm
            clear hr hr2
            have hT := fun W => s_l2Term x.term ids l.length W hc0 (by omega) (by omega) (by omega)
            simp only [termV] at hT
            generalize x.term = t at *
            generalize x.phis = ps at *
            generalize x.insts = is at *
            have z0 : w.heap.size < wo.heap.size := by omega
            have hno : ∀ q1 q2 q3 : Bool, ps.all (phiOk ids) = q1 → is.all (instOk ids funcs) = q2 → termOk ids l.length t = q3 → (q1 && (q2 && q3)) = false → R = false := fun q1 q2 q3 e1 e2 e3 h => by rw [hR'.out]; exact hfail.out (by rw [hbk'.out, e1, e2, e3, h])
            have hno' := Hd.mk hno
            clear hno hfail
            go_wp2
            generalize hwx : wo.alloc (.cells #[.slice A3 ps.length c3, .slice A4 is.length c4, .int .i64 t.kind, .int .i64 t.a, .int .i64 t.x, .int .i64 t.y] 32) = wx
            have hbx : Below wo.heap.size wo wx := by subst hwx; exact (Below.refl _ _).al (Nat.le_refl _) _
            have kx : ∀ o, wx.cell? ⟨wo.heap.size, o, none⟩ = (#[.slice A3 ps.length c3, .slice A4 is.length c4, .int .i64 t.kind, .int .i64 t.a, .int .i64 t.x, .int .i64 t.y] : Array Value)[o]? := by subst hwx; intro o; simp
            have kf := fun o => (bat hbx w.heap.size z0 o).trans (k0 o)
            have hzx := hbx.size
            have hzx1 : wo.heap.size < wx.heap.size := by subst hwx; simp
            have hbwx := Hd.mk (hbw.out.then hbx)
            have hbrx := Hd.mk (hbr.out.then hbx)
            clear hwx hbx k0 g0 g1 g2 g3 g4 g5
            go_loop [10] (fun s10 => ∃ i : Nat, i ≤ ps.length ∧ s10 = .int .i64 i ∧ Hd ((ps.take i).all (phiOk ids) = true)) (fun s10 => ps.length - (intOf s10).toNat)
            case atStart => exact ⟨0, Nat.zero_le _, rfl, ⟨by simp⟩⟩
            case round =>
              obtain ⟨i, hi, rfl, hallP⟩ := hrel
              by_cases hlti : i < ps.length
              · obtain ⟨b5, off5, cs5, hA5, hbl5, ⟨v5, rfl, hr5⟩, hat5⟩ := hr0.out.in0 hbwx.out i hlti
                cases hA5
                have i0 := hat5 0 _ rfl
                have i1 := hat5 1 _ rfl
                clear hat5
                simp at i0 i1
                have hsnP := Hd.mk (all_take_snoc (phiOk ids) ps i hlti)
                have hfailP := Hd.mk (fun h => all_false_of (phiOk ids) ps i hlti h)
                have hpk := Hd.mk (show phiOk ids ps[i] = (widthOk ps[i].w && decide (ps[i].ins.length ≤ 10) && ps[i].ins.all (isIdB ids)) from rfl)
                generalize ps[i] = p at *
                obtain ⟨A6, c6, rfl, -, hl6, hr60⟩ := hr5.sm
                clear hr5
                cases hpw : widthOk p.w with
                | false =>
                  have e := hno'.out false _ _ (hfailP.out (by rw [hpk.out, hpw]; rfl)) rfl rfl rfl
                  subst e
                  go_wp2_with (go_at_call 105; refine (s_WidthOk _ _).mono ?_; rintro e w' ⟨rfl, rfl⟩)
                  go_ret
                  exact ⟨rfl, hbwx.out⟩
                | true =>
                  by_cases h10 : 10 < p.ins.length
                  · have d10 : decide (10 < (p.ins.length : Int)) = true := by simp; omega
                    have e := hno'.out false _ _ (hfailP.out (by rw [hpk.out, hpw, show decide (p.ins.length ≤ 10) = false by simp; omega]; rfl)) rfl rfl rfl
                    subst e
                    go_wp2_with (go_at_call 105; refine (s_WidthOk _ _).mono ?_; rintro e w' ⟨rfl, rfl⟩)
                    go_ret
                    exact ⟨rfl, hbwx.out⟩
                  · have d10 : decide (10 < (p.ins.length : Int)) = false := by simp; omega
                    rw [hpw, show decide (p.ins.length ≤ 10) = true by simp; omega] at hpk
                    generalize p.ins = ns at *
                    generalize p.w = pw at *
                    go_wp2_with (go_at_call 105; refine (s_WidthOk _ _).mono ?_; rintro e w' ⟨rfl, rfl⟩)
                    clear hpw d10
                    go_loop [11] (fun s11 => ∃ j : Nat, j ≤ ns.length ∧ s11 = .int .i64 j ∧ Hd ((ns.take j).all (isIdB ids) = true)) (fun s11 => ns.length - (intOf s11).toNat)
                    case atStart => exact ⟨0, Nat.zero_le _, rfl, ⟨by simp⟩⟩
                    case round =>
                      obtain ⟨j, hj, rfl, hallN⟩ := hrel
                      by_cases hltj : j < ns.length
                      · obtain ⟨b7, off7, cs7, hA7, hbl7, hk7, hat7⟩ := hr60.out.in0 hbwx.out j hltj
                        cases hA7
                        cases hk7
                        have n0 := hat7 0 _ rfl
                        simp at n0
                        clear hat7
                        have hsnN := Hd.mk (all_take_snoc (isIdB ids) ns j hltj)
                        have hfailN := Hd.mk (fun h => all_false_of (isIdB ids) ns j hltj h)
                        have hid : isIdB ids ns[j] = inR ns[j] 0 (ids - 1) := rfl
                        generalize ns[j] = y at *
                        cases hq : inR y 0 (ids - 1) with
                        | false =>
                          have e := hno'.out false _ _ (hfailP.out (by rw [hpk.out, hfailN.out (by rw [hid, hq])]; rfl)) rfl rfl rfl
                          subst e
                          go_wp2_with (go_at_call 47; refine (s_l1In _ _ _ _).mono ?_; rintro e w' ⟨rfl, rfl⟩)
                          go_ret
                          exact ⟨rfl, hbwx.out⟩
                        | true =>
                          go_wp2_with (go_at_call 47; refine (s_l1In _ _ _ _).mono ?_; rintro e w' ⟨rfl, rfl⟩)
                          go_round
                          case rel => exact ⟨j + 1, by omega, by go_num, ⟨by rw [hsnN.out, hallN.out, hid, hq]; rfl⟩⟩
                          case measure => simp [intOf]; omega
                      · have e : j = ns.length := by omega
                        subst e
                        rw [List.take_length] at hallN
                        rw [hallN.out] at hpk
                        go_wp2
                        go_round
                        case rel => exact ⟨i + 1, by omega, by go_num, ⟨by rw [hsnP.out, hallP.out, hpk.out]; rfl⟩⟩
                        case measure => simp [intOf]; omega
              · have e : i = ps.length := by omega
                subst e
                rw [List.take_length] at hallP
                have hall1 := hallP.out
                rw [hall1] at hbk'
                clear hallP
                go_wp2
                go_loopw [12] (fun s12 wr => ∃ i : Nat, i ≤ is.length ∧ s12 = .int .i64 i ∧ Hd (Below wx.heap.size wx wr) ∧ Hd ((is.take i).all (instOk ids funcs) = true)) (fun s12 _ => is.length - (intOf s12).toNat)
                case atStart => exact ⟨0, Nat.zero_le _, rfl, ⟨Below.refl _ _⟩, ⟨by simp⟩⟩
                case round =>
                  obtain ⟨i, hi, rfl, hbq, hallI⟩ := hrel
                  have hzq := hbq.out.size
                  have hbwq := Hd.mk (hbwx.out.then hbq.out)
                  replace kx := fun o => (bat hbq.out wo.heap.size hzx1 o).trans (kx o)
                  replace kf := fun o => (bat hbq.out w.heap.size (by omega) o).trans (kf o)
                  by_cases hlti : i < is.length
                  · obtain ⟨b5, off5, cs5, hA5, hbl5, ⟨v5, rfl, hr5⟩, hat5⟩ := hr20.out.in0 hbwq.out i hlti
                    cases hA5
                    have i0 := hat5 0 _ rfl
                    have i1 := hat5 1 _ rfl
                    have i2 := hat5 2 _ rfl
                    have i3 := hat5 3 _ rfl
                    have i4 := hat5 4 _ rfl
                    have i5 := hat5 5 _ rfl
                    have i6 := hat5 6 _ rfl
                    clear hat5
                    simp at i0 i1 i2 i3 i4 i5 i6
                    have hsnI := Hd.mk (all_take_snoc (instOk ids funcs) is i hlti)
                    have hfailI := Hd.mk (fun h => all_false_of (instOk ids funcs) is i hlti h)
                    have hI := s_l2Inst is[i] v5 ids funcs wr (hr5.mv hbwq.out) hc0 (by omega) hf0 hf1
                    simp only [instV] at hI
                    obtain ⟨A6, c6, rfl, -, -, -⟩ := hr5.sm
                    clear hr5
                    generalize hq : instOk ids funcs is[i] = q at *
                    generalize is[i] = x at *
                    clear hq
                    cases q with
                    | false =>
                      have e := hno'.out true false _ hall1 (hfailI.out rfl) rfl rfl
                      subst e
                      go_wp2_with fail
                      refine hI.mono ?_; rintro e wz ⟨rfl, hbz⟩
                      go_wp2
                      go_ret
                      exact ⟨rfl, hbwq.out.then hbz⟩
                    | true =>
                      go_wp2_with fail
                      refine hI.mono ?_; rintro e wz ⟨rfl, hbz⟩
                      have hbz' := Hd.mk (hbq.out.then hbz)
                      clear hbz hI
                      go_wp2
                      go_roundw
                      case rel => exact ⟨i + 1, by omega, by go_num, hbz', ⟨by rw [hsnI.out, hallI.out]; rfl⟩⟩
                      case measure => simp [intOf]; omega
                  · have e : i = is.length := by omega
                    subst e
                    rw [List.take_length] at hallI
                    have hall2 := hallI.out
                    rw [hall2] at hbk'
                    clear hallI
                    have hbrq := Hd.mk (hbrx.out.then hbq.out)
                    cases hq : termOk ids l.length t with
                    | false =>
                      rw [hq] at hT
                      have e := hno'.out true true false hall1 hall2 hq rfl
                      subst e
                      clear hq
                      go_wp2_with fail
                      refine (hT _).mono ?_; rintro e wz ⟨rfl, hbz⟩
                      go_wp2
                      go_ret
                      exact ⟨rfl, hbwq.out.then hbz⟩
                    | true =>
                      rw [hq] at hT hbk'
                      clear hq
                      go_wp2_with fail
                      refine (hT _).mono ?_; rintro e wz ⟨rfl, hbz⟩
                      have hbz' := Hd.mk (hbrq.out.then hbz)
                      clear hbz hT
                      go_wp2
                      go_roundw
                      case rel => exact ⟨k + 1, by omega, by go_num, hbz', ⟨by rw [hsn.out, hall.out, hbk'.out]; rfl⟩⟩
                      case measure => simp [intOf]; omega
          · have e : k = l.length := by omega
            subst e
            rw [List.take_length] at hall
            have hR2 := hR'.out
            rw [hall.out] at hR2
            subst hR2
            go_wp2
            go_ret
            exact ⟨rfl, hbw.out⟩
set_option maxRecDepth 20000 in
set_option maxHeartbeats 8000000 in
theorem s_l4Func (m : XMod) (cm : List Value) (f : XFunc) (cf : List Value) (n : Int) (w : World) (hm : KMod lm w m cm) (hf : KFunc lm w f cf) (hok : funcOk f n = true) (hqc : ∀ b ∈ f.blocks, ∀ i ∈ b.insts, QCall m i) :
    Calls Tryz.prog 75 #[.agg cm.toArray, .agg cf.toArray] w (Ret (.int .i64 (checkF m f)) w) := by
  have hm' := Hd.mk hm
  have hf' := Hd.mk hf
  obtain ⟨vm, rfl, hrm⟩ := hm
  obtain ⟨Am, cm, rfl, -, -, -⟩ := hrm.sm
  obtain ⟨v1, v2, rfl, hp, hb⟩ := hf
  obtain ⟨A1, c1, rfl, -, -, -⟩ := hp.sm
  obtain ⟨A2, c2, rfl, hcap, hl2, hb0⟩ := hb.sm
  clear hp hb hrm
  have hfo := func_fo hok
  have hn1 := hfo.1.2.1
  have hn10 := hfo.1.2.2
  have hbl := fun o o' => ((Below.refl w.heap.size w).al (Nat.le_refl _) o).al (by simp) o'
  obtain ⟨W0, hW0⟩ : ∃ W0 : World, W0 = (w.alloc (.cells #[.slice Am m.funcs.length cm] 38)).alloc (.cells #[.slice A1 f.params.length c1, .int .i64 f.ret, .slice A2 f.blocks.length c2] 35) := ⟨_, rfl⟩
  have hB0 : Below w.heap.size w W0 := by rw [hW0]; exact hbl _ _
  have hz0 : W0.heap.size = w.heap.size + 2 := by rw [hW0]; simp
  have hzm : Hd (W0.cell? ⟨w.heap.size, 0, none⟩ = some (.slice Am m.funcs.length cm)) := ⟨by rw [hW0]; simp⟩
  have hzf : Hd (∀ o u, [Value.slice A1 f.params.length c1, .int .i64 f.ret, .slice A2 f.blocks.length c2][o]? = some u → W0.cell? ⟨w.heap.size + 1, o, none⟩ = some u) := ⟨fun o u hu => by rw [hW0]; exact new_cell _ _ _ (by simp) o u (by simpa using hu)⟩
  have hW0' := Hd.mk hW0
  have hB0' := Hd.mk hB0
  have hpr := fun W (hW : Below w.heap.size w W) => s_l3Preds f _ 0 W (KM.mv hf'.out hW)
  have hph := fun W (hW : Below w.heap.size w W) => s_l4Phis f _ W (KM.mv hf'.out hW) hn10
  have hty := fun W (hW : Below w.heap.size w W) => s_l4Types f _ n W (KM.mv hf'.out hW) hok
  have hca := fun W (hW : Below w.heap.size w W) => s_l4Calls m _ f _ n W (KM.mv hm'.out hW) (KM.mv hf'.out hW) hok hqc
  have hdo := fun h W (hW : Below w.heap.size w W) => s_l4Doms f _ n W (KM.mv hf'.out hW) hok h
  have hb00 : blkAt f 0 = f.blocks[0]'(by omega) := blkAt_nat f 0 (by omega)
  have hent : Hd (entryOk f = ((f.blocks[0]'(by omega)).phis.isEmpty && (predsOf f 0).isEmpty)) := ⟨by unfold entryOk; rw [hb00]⟩
  have hpl := preds_len f 0
  clear hW0 hB0 hok hqc hfo hb00
  generalize hR : checkF m f = R
  have hR' := Hd.mk hR
  clear hR
  go_enter Tryz.func75, Tryz.ntmps75
  go_wp2_with fail
  rw [← hW0'.out]
  have x3 := hzm.out
  have x0 := hzf.out 0 _ rfl
  have x1 := hzf.out 1 _ rfl
  have x2 := hzf.out 2 _ rfl
  go_wp2_with fail
  refine (hpr _ hB0'.out).mono ?_; rintro e w1 ⟨u1, rfl, ho1, hb1⟩
  obtain ⟨Aq, cq, rfl, -, -, -, -⟩ := own_shape ho1
  replace x3 := (bat hb1 (w.heap.size) (by omega) 0).trans x3
  replace x0 := (bat hb1 (w.heap.size + 1) (by omega) 0).trans x0
  replace x1 := (bat hb1 (w.heap.size + 1) (by omega) 1).trans x1
  replace x2 := (bat hb1 (w.heap.size + 1) (by omega) 2).trans x2
  have hc1 := Hd.mk hb1
  have hB1 := Hd.mk (hB0'.out.then hb1)
  have hz1 := hb1.size
  clear hb1 ho1 hpr
  obtain ⟨eb, eo, ecs, hA_, heb, ⟨bv1, bv2, rfl, hr_, hr2_⟩, hat_⟩ := (hb0.out).in0 (hB1.out) (0) (by omega)
  cases hA_
  have hew := Nat.lt_of_lt_of_le heb (hB1.out).size
  have g0 := hat_ 0 _ rfl
  have g1 := hat_ 1 _ rfl
  have g2 := hat_ 2 _ rfl
  have g3 := hat_ 3 _ rfl
  have g4 := hat_ 4 _ rfl
  have g5 := hat_ 5 _ rfl
  clear hat_
  simp at g0 g1 g2 g3 g4 g5
  obtain ⟨Ap, cp, rfl, hcp, hlp, hrp⟩ := hr_.sm
  obtain ⟨Ai, ci, rfl, hci, hli, hri⟩ := hr2_.sm
  clear hr_ hr2_
  generalize f.blocks[0] = x at *
  by_cases e1 : (predsOf f 0).length = 0
  rotate_left
  · have hv := hR'.out.symm.trans (checkF_2 (by rw [hent.out]; cases hq : predsOf f 0 with
      | nil => rw [hq] at e1; exact absurd rfl e1
      | cons a r => simp))
    subst hv
    have el : (0 : Int) < ((predsOf f 0).length : Int) := by omega
    go_wp2
    go_ret
    exact ⟨rfl, hB1.out⟩
  by_cases e2 : x.phis.length = 0
  rotate_left
  · have hv := hR'.out.symm.trans (checkF_2 (by rw [hent.out]; cases hq : x.phis with
      | nil => rw [hq] at e2; exact absurd rfl e2
      | cons a r => simp))
    subst hv
    have el : (0 : Int) < (x.phis.length : Int) := by omega
    rw [e1]
    go_wp2
    go_ret
    exact ⟨rfl, hB1.out⟩
  have hE : entryOk f = true := by
    rw [hent.out, List.length_eq_zero_iff.1 e1, List.length_eq_zero_iff.1 e2]; rfl
  rw [e1]
  rw [e2] at g0
  clear hent e1 e2 hpl
  go_wp2_with fail
  refine (hph _ hB1.out).mono ?_; rintro e w2 ⟨rfl, hb2⟩
  replace x3 := (bat hb2 (w.heap.size) (by omega) 0).trans x3
  replace x0 := (bat hb2 (w.heap.size + 1) (by omega) 0).trans x0
  replace x1 := (bat hb2 (w.heap.size + 1) (by omega) 1).trans x1
  replace x2 := (bat hb2 (w.heap.size + 1) (by omega) 2).trans x2
  have hB2 := Hd.mk (hB1.out.then hb2)
  have hz2 := hb2.size
  clear hb2
  cases h2 : phisOk f with
  | false =>
    have hv := hR'.out.symm.trans (checkF_3 hE h2)
    subst hv
    clear hE h2
    go_wp2
    go_ret
    exact ⟨rfl, hB2.out⟩
  | true =>
    go_wp2_with fail
    refine (hty _ hB2.out).mono ?_; rintro e w3 ⟨rfl, hb3⟩
    replace x3 := (bat hb3 (w.heap.size) (by omega) 0).trans x3
    replace x0 := (bat hb3 (w.heap.size + 1) (by omega) 0).trans x0
    replace x1 := (bat hb3 (w.heap.size + 1) (by omega) 1).trans x1
    replace x2 := (bat hb3 (w.heap.size + 1) (by omega) 2).trans x2
    have hB3 := Hd.mk (hB2.out.then hb3)
    have hz3 := hb3.size
    clear hb3
    cases h3 : typesOk f with
    | false =>
      have hv := hR'.out.symm.trans (checkF_4 hE h2 h3)
      subst hv
      clear hE h2 h3
      go_wp2
      go_ret
      exact ⟨rfl, hB3.out⟩
    | true =>
      go_wp2_with fail
      refine (hca _ hB3.out).mono ?_; rintro e w4 ⟨rfl, hb4⟩
      replace x3 := (bat hb4 (w.heap.size) (by omega) 0).trans x3
      replace x0 := (bat hb4 (w.heap.size + 1) (by omega) 0).trans x0
      replace x1 := (bat hb4 (w.heap.size + 1) (by omega) 1).trans x1
      replace x2 := (bat hb4 (w.heap.size + 1) (by omega) 2).trans x2
      have hB4 := Hd.mk (hB3.out.then hb4)
      have hz4 := hb4.size
      clear hb4
      cases h4 : callsOk m f with
      | false =>
        have hv := hR'.out.symm.trans (checkF_5 hE h2 h3 h4)
        subst hv
        clear hE h2 h3 h4
        go_wp2
        go_ret
        exact ⟨rfl, hB4.out⟩
      | true =>
        go_wp2_with fail
        refine (hdo h2 _ hB4.out).mono ?_; rintro e w5 ⟨rfl, hb5⟩
        replace x3 := (bat hb5 (w.heap.size) (by omega) 0).trans x3
        replace x0 := (bat hb5 (w.heap.size + 1) (by omega) 0).trans x0
        replace x1 := (bat hb5 (w.heap.size + 1) (by omega) 1).trans x1
        replace x2 := (bat hb5 (w.heap.size + 1) (by omega) 2).trans x2
        have hB5 := Hd.mk (hB4.out.then hb5)
        have hz5 := hb5.size
        clear hb5
        cases h5 : domsOk f with
        | false =>
          have hv := hR'.out.symm.trans (checkF_6 hE h2 h3 h4 h5)
          subst hv
          clear hE h2 h3 h4 h5
          go_wp2
          go_ret
          exact ⟨rfl, hB5.out⟩
        | true =>
          have hv := hR'.out.symm.trans (checkF_0 hE h2 h3 h4 h5)
          subst hv
          clear hE h2 h3 h4 h5
          go_wp2
          go_ret
          exact ⟨rfl, hB5.out⟩
set_option maxRecDepth 20000 in
set_option maxHeartbeats 4000000 in
theorem s_ShapeOk (m : XMod) (cm : List Value) (w : World) (hm : KMod lm w m cm) : Calls Tryz.prog 74 #[.agg cm.toArray] w (Ret (.bool (shapeOk m)) w) := by
  have hm' := Hd.mk hm
  obtain ⟨vm, rfl, hrm⟩ := hm
  obtain ⟨Am, cm, rfl, hcap, hlm, hm0⟩ := hrm.sm
  clear hrm
  have hbl := fun o => (Below.refl w.heap.size w).al (Nat.le_refl _) o
  obtain ⟨W0, hW0⟩ : ∃ W0 : World, W0 = (w.alloc (.cells #[.slice Am m.funcs.length cm] 38)) := ⟨_, rfl⟩
  have hB0 : Below w.heap.size w W0 := by rw [hW0]; exact hbl _
  have hz0 : W0.heap.size = w.heap.size + 1 := by rw [hW0]; simp
  have hmc : Hd (W0.cell? ⟨w.heap.size, 0, none⟩ = some (.slice Am m.funcs.length cm)) := ⟨by rw [hW0]; simp⟩
  have hW0' := Hd.mk hW0
  have hB0' := Hd.mk hB0
  have hin := fun W => s_l1In m.funcs.length 1 3 W
  clear hW0 hB0
  generalize hR : shapeOk m = R
  have hR' := Hd.mk hR
  clear hR
  unfold shapeOk at hR'
  go_enter Tryz.func74, Tryz.ntmps74
  go_wp2_with fail
  rw [← hW0'.out]
  have x0 := hmc.out
  go_wp2_with fail
  refine (hin _).mono ?_; rintro e w1 ⟨rfl, rfl⟩
  clear hin
  cases h1 : inR m.funcs.length 1 3 with
  | false =>
    rw [h1] at hR'
    have hv : false = R := hR'.out
    subst hv
    clear h1
    go_wp2
    go_ret
    exact ⟨rfl, hB0'.out⟩
  | true =>
    rw [h1, Bool.true_and] at hR'
    clear h1
    go_wp2
    go_loopw [3] (fun s3 wr => ∃ k : Nat, k ≤ m.funcs.length ∧ s3 = .int .i64 k ∧ Hd ((m.funcs.take k).all (fun f => funcOk f m.funcs.length) = true) ∧ Hd (Below W0.heap.size W0 wr)) (fun s3 _ => m.funcs.length - (intOf s3).toNat)
    case atStart => exact ⟨0, Nat.zero_le _, rfl, ⟨rfl⟩, ⟨Below.refl _ _⟩⟩
    case round =>
      obtain ⟨k, hk, rfl, hall, hbr⟩ := hrel
      obtain ⟨wo, rfl⟩ : ∃ wo : World, wo = wr := ⟨_, rfl⟩
      have hBw := Hd.mk (hB0'.out.then hbr.out)
      have hzo := hbr.out.size
      have y0 := (bat hbr.out w.heap.size (by omega) 0).trans hmc.out
      have y1 : w.heap.size < wo.heap.size := by omega
      clear x0
      by_cases hlt : k < m.funcs.length
      · obtain ⟨eb, eo, ecs, hA_, heb, ⟨fv1, fv2, rfl, hr_, hr2_⟩, hat_⟩ := (hm0.out).in0 (hBw.out) (k) (hlt)
        cases hA_
        have hew := Nat.lt_of_lt_of_le heb (hBw.out).size
        have g0 := hat_ 0 _ rfl
        have g1 := hat_ 1 _ rfl
        have g2 := hat_ 2 _ rfl
        clear hat_
        simp at g0 g1 g2
        obtain ⟨Af, cf, rfl, hcf, hlf, hrf⟩ := hr_.sm
        obtain ⟨Ab, cb, rfl, hcb, hlb, hrb⟩ := hr2_.sm
        clear hr_ hr2_
        have hsn := Hd.mk (all_take_snoc (fun f => funcOk f m.funcs.length) m.funcs k hlt)
        have hfl := fun h => Hd.mk (all_false_of (fun f => funcOk f m.funcs.length) m.funcs k hlt h)
        generalize m.funcs[k] = f at *
        have hck := fun W (hW : Below wo.heap.size wo W) => s_l2Func f [.slice Af f.params.length cf, .int .i64 f.ret, .slice Ab f.blocks.length cb] m.funcs.length W ⟨_, _, rfl, hrf.out.mv (hBw.out.then hW), hrb.out.mv (hBw.out.then hW)⟩ (by omega) (by omega)
        have eh0 : (0 : Int) ≤ (k : Int) := by omega
        have eh1 : (k : Int) < (m.funcs.length : Int) := by omega
        cases h4 : funcOk f m.funcs.length with
        | true =>
          have hall2 := Hd.mk (show (m.funcs.take (k + 1)).all (fun f => funcOk f m.funcs.length) = true by rw [hsn.out, hall.out, h4]; rfl)
          rw [h4] at hck
          clear hfl hsn h4
          go_wp2
          refine wp_region_bel (by kernel_rfl) (by kernel_rfl) ?_
          simp only [List.toList_toArray]
          repeat' first
            | (refine seq_val (by rfl) (by intro W hS; have s0 := (bat hS w.heap.size y1 0).trans y0; have s1 := (bat hS eb hew _).trans g0; have s2 := (bat hS eb hew _).trans g1; have s3 := (bat hS eb hew _).trans g2; go_simp; first | done | rfl) ?_; simp only [Act.put, List.setIfInBounds_toArray, List.set_cons_zero, List.set_cons_succ])
            | (refine seq_skip (by rfl) ?_; simp only [Act.put, List.setIfInBounds_toArray, List.set_cons_zero, List.set_cons_succ])
            | (refine seq_ret 99 _ (by rfl) (by intro W hS; have s0 := (bat hS w.heap.size y1 0).trans y0; have s1 := (bat hS eb hew _).trans g0; have s2 := (bat hS eb hew _).trans g1; have s3 := (bat hS eb hew _).trans g2; go_simp; first | done | rfl) (fun W hS => hck W hS) ?_; simp only [Act.put, List.setIfInBounds_toArray, List.set_cons_zero, List.set_cons_succ])
            | fail
          refine seq_nil (fun W hS => ?_)
          have s0 := (bat hS w.heap.size y1 0).trans y0
          have s1 := (bat hS eb hew _).trans g0
          have s2 := (bat hS eb hew _).trans g1
          have s3 := (bat hS eb hew _).trans g2
          go_wp2
          go_roundw
          case rel => exact ⟨k + 1, by omega, by go_num, hall2, ⟨hbr.out.then hS⟩⟩
          case measure => simp [intOf]; omega
        | false =>
          have hv := (hfl h4).out.symm.trans hR'.out
          subst hv
          rw [h4] at hck
          clear hfl hsn h4
          go_wp2
          refine wp_region_bel (by kernel_rfl) (by kernel_rfl) ?_
          simp only [List.toList_toArray]
          repeat' first
            | (refine seq_val (by rfl) (by intro W hS; have s0 := (bat hS w.heap.size y1 0).trans y0; have s1 := (bat hS eb hew _).trans g0; have s2 := (bat hS eb hew _).trans g1; have s3 := (bat hS eb hew _).trans g2; go_simp; first | done | rfl) ?_; simp only [Act.put, List.setIfInBounds_toArray, List.set_cons_zero, List.set_cons_succ])
            | (refine seq_skip (by rfl) ?_; simp only [Act.put, List.setIfInBounds_toArray, List.set_cons_zero, List.set_cons_succ])
            | (refine seq_ret 99 _ (by rfl) (by intro W hS; have s0 := (bat hS w.heap.size y1 0).trans y0; have s1 := (bat hS eb hew _).trans g0; have s2 := (bat hS eb hew _).trans g1; have s3 := (bat hS eb hew _).trans g2; go_simp; first | done | rfl) (fun W hS => hck W hS) ?_; simp only [Act.put, List.setIfInBounds_toArray, List.set_cons_zero, List.set_cons_succ])
            | fail
          refine seq_nil (fun W hS => ?_)
          have s0 := (bat hS w.heap.size y1 0).trans y0
          have s1 := (bat hS eb hew _).trans g0
          have s2 := (bat hS eb hew _).trans g1
          have s3 := (bat hS eb hew _).trans g2
          go_wp2
          go_ret
          exact ⟨rfl, hBw.out.then hS⟩
      · have e : k = m.funcs.length := by omega
        subst e
        rw [List.take_length] at hall
        have hv := hall.out.symm.trans hR'.out
        subst hv
        go_wp2
        go_ret
        exact ⟨rfl, hBw.out⟩
set_option maxRecDepth 20000 in
set_option maxHeartbeats 4000000 in
theorem s_Checked (m : XMod) (cm : List Value) (w : World) (hm : KMod lm w m cm) : Calls Tryz.prog 46 #[.agg cm.toArray] w (Ret (.int .i64 (checkM m)) w) := by
  have hm' := Hd.mk hm
  obtain ⟨vm, rfl, hrm⟩ := hm
  obtain ⟨Am, cm, rfl, hcap, hlm, hm0⟩ := hrm.sm
  clear hrm
  have hbl := fun o => (Below.refl w.heap.size w).al (Nat.le_refl _) o
  obtain ⟨W0, hW0⟩ : ∃ W0 : World, W0 = (w.alloc (.cells #[.slice Am m.funcs.length cm] 38)) := ⟨_, rfl⟩
  have hB0 : Below w.heap.size w W0 := by rw [hW0]; exact hbl _
  have hz0 : W0.heap.size = w.heap.size + 1 := by rw [hW0]; simp
  have hmc : Hd (W0.cell? ⟨w.heap.size, 0, none⟩ = some (.slice Am m.funcs.length cm)) := ⟨by rw [hW0]; simp⟩
  have hW0' := Hd.mk hW0
  have hB0' := Hd.mk hB0
  have hsh := fun W (hW : Below w.heap.size w W) => s_ShapeOk m _ W (KM.mv hm'.out hW)
  clear hW0 hB0
  generalize hR : checkM m = R
  have hR' := Hd.mk hR
  clear hR
  unfold checkM at hR'
  go_enter Tryz.func46, Tryz.ntmps46
  go_wp2_with fail
  rw [← hW0'.out]
  have x0 := hmc.out
  go_wp2_with fail
  refine (hsh _ hB0'.out).mono ?_; rintro e w1 ⟨rfl, hb1⟩
  replace x0 := (bat hb1 w.heap.size (by omega) 0).trans x0
  have hc1 := Hd.mk hb1
  have hz1 := hb1.size
  clear hb1 hsh
  cases h1 : shapeOk m with
  | false =>
    rw [h1] at hR'
    have hv : 1 = R := hR'.out
    subst hv
    clear h1
    go_wp2
    go_ret
    exact ⟨rfl, hB0'.out.then hc1.out⟩
  | true =>
    rw [h1] at hR'
    have hR2 : Hd (firstBad m m.funcs = R) := ⟨hR'.out⟩
    have hfo := Hd.mk (shape_parts h1).2
    have hqc := Hd.mk (shape_calls h1)
    clear h1 hR'
    go_wp2
    go_loopw [3] (fun s3 wr => ∃ k : Nat, k ≤ m.funcs.length ∧ s3 = .int .i64 k ∧ Hd (∀ j (h : j < m.funcs.length), j < k → checkF m m.funcs[j] = 0) ∧ Hd (Below W0.heap.size W0 wr)) (fun s3 _ => m.funcs.length - (intOf s3).toNat)
    case atStart => exact ⟨0, Nat.zero_le _, rfl, ⟨fun j _ h => absurd h (Nat.not_lt_zero _)⟩, hc1⟩
    case round =>
      obtain ⟨k, hk, rfl, hall, hbr⟩ := hrel
      obtain ⟨wo, rfl⟩ : ∃ wo : World, wo = wr := ⟨_, rfl⟩
      have hBw := Hd.mk (hB0'.out.then hbr.out)
      have hzo := hbr.out.size
      have y0 := (bat hbr.out w.heap.size (by omega) 0).trans hmc.out
      have y1 : w.heap.size < wo.heap.size := by omega
      clear x0
      by_cases hlt : k < m.funcs.length
      · obtain ⟨eb, eo, ecs, hA_, heb, ⟨fv1, fv2, rfl, hr_, hr2_⟩, hat_⟩ := (hm0.out).in0 (hBw.out) (k) (hlt)
        cases hA_
        have hew := Nat.lt_of_lt_of_le heb (hBw.out).size
        have g0 := hat_ 0 _ rfl
        have g1 := hat_ 1 _ rfl
        have g2 := hat_ 2 _ rfl
        clear hat_
        simp at g0 g1 g2
        obtain ⟨Af, cf, rfl, hcf, hlf, hrf⟩ := hr_.sm
        obtain ⟨Ab, cb, rfl, hcb, hlb, hrb⟩ := hr2_.sm
        clear hr_ hr2_
        have hhit := fun h => Hd.mk (firstBad_hit m m.funcs k hlt hall.out h)
        have hnxt := fun (h : checkF m m.funcs[k] = 0) => Hd.mk (show ∀ j (hj : j < m.funcs.length), j < k + 1 → checkF m m.funcs[j] = 0 from fun j hj hjk => by
          by_cases e : j = k
          · subst e; exact h
          · exact hall.out j hj (by omega))
        have hfo1 := Hd.mk (hfo.out m.funcs[k] (List.getElem_mem hlt))
        have hqc1 := Hd.mk (hqc.out m.funcs[k] (List.getElem_mem hlt))
        have hal : Hd (∀ o, Below wo.heap.size wo (wo.alloc o)) := ⟨fun o => (Below.refl wo.heap.size wo).al (Nat.le_refl _) o⟩
        generalize m.funcs[k] = f at *
        have hck := fun W (hW : Below wo.heap.size wo W) => s_l4Func m _ f [.slice Af f.params.length cf, .int .i64 f.ret, .slice Ab f.blocks.length cb] m.funcs.length W (KM.mv hm'.out (hBw.out.then hW)) ⟨_, _, rfl, hrf.out.mv (hBw.out.then hW), hrb.out.mv (hBw.out.then hW)⟩ hfo1.out hqc1.out
        have eh0 : (0 : Int) ≤ (k : Int) := by omega
        have eh1 : (k : Int) < (m.funcs.length : Int) := by omega
        by_cases h4 : checkF m f = 0
        · have hall2 := hnxt h4
          rw [h4] at hck
          clear hhit hnxt h4
          go_wp2
          refine wp_region_bel (by kernel_rfl) (by kernel_rfl) ?_
          simp only [List.toList_toArray]
          repeat' first
            | (refine seq_val (by rfl) (by intro W hS; have s0 := (bat hS w.heap.size y1 0).trans y0; have s1 := (bat hS eb hew _).trans g0; have s2 := (bat hS eb hew _).trans g1; have s3 := (bat hS eb hew _).trans g2; go_simp; first | done | rfl) ?_; simp only [Act.put, List.setIfInBounds_toArray, List.set_cons_zero, List.set_cons_succ])
            | (refine seq_skip (by rfl) ?_; simp only [Act.put, List.setIfInBounds_toArray, List.set_cons_zero, List.set_cons_succ])
            | (refine seq_ret 75 _ (by rfl) (by intro W hS; have s0 := (bat hS w.heap.size y1 0).trans y0; have s1 := (bat hS eb hew _).trans g0; have s2 := (bat hS eb hew _).trans g1; have s3 := (bat hS eb hew _).trans g2; go_simp; first | done | rfl) (fun W hS => hck W hS) ?_; simp only [Act.put, List.setIfInBounds_toArray, List.set_cons_zero, List.set_cons_succ])
            | fail
          refine seq_nil (fun W hS => ?_)
          have s0 := (bat hS w.heap.size y1 0).trans y0
          have s1 := (bat hS eb hew _).trans g0
          have s2 := (bat hS eb hew _).trans g1
          have s3 := (bat hS eb hew _).trans g2
          go_wp2
          go_roundw
          case rel => exact ⟨k + 1, by omega, by go_num, hall2, ⟨hbr.out.then hS⟩⟩
          case measure => simp [intOf]; omega
        · have hv := (hhit h4).out.symm.trans hR2.out
          clear hhit hnxt
          have d4 := beqF h4
          have d5 : (checkF m f != 0) = true := by simpa using h4
          generalize checkF m f = q at *
          subst hv
          clear h4
          go_wp2
          refine wp_region_bel (by kernel_rfl) (by kernel_rfl) ?_
          simp only [List.toList_toArray]
          repeat' first
            | (refine seq_val (by rfl) (by intro W hS; have s0 := (bat hS w.heap.size y1 0).trans y0; have s1 := (bat hS eb hew _).trans g0; have s2 := (bat hS eb hew _).trans g1; have s3 := (bat hS eb hew _).trans g2; go_simp; first | done | rfl) ?_; simp only [Act.put, List.setIfInBounds_toArray, List.set_cons_zero, List.set_cons_succ])
            | (refine seq_skip (by rfl) ?_; simp only [Act.put, List.setIfInBounds_toArray, List.set_cons_zero, List.set_cons_succ])
            | (refine seq_ret 75 _ (by rfl) (by intro W hS; have s0 := (bat hS w.heap.size y1 0).trans y0; have s1 := (bat hS eb hew _).trans g0; have s2 := (bat hS eb hew _).trans g1; have s3 := (bat hS eb hew _).trans g2; go_simp; first | done | rfl) (fun W hS => hck W hS) ?_; simp only [Act.put, List.setIfInBounds_toArray, List.set_cons_zero, List.set_cons_succ])
            | fail
          refine seq_nil (fun W hS => ?_)
          have s0 := (bat hS w.heap.size y1 0).trans y0
          have s1 := (bat hS eb hew _).trans g0
          have s2 := (bat hS eb hew _).trans g1
          have s3 := (bat hS eb hew _).trans g2
          go_wp2
          go_ret
          exact ⟨rfl, hBw.out.then hS⟩
      · have e : k = m.funcs.length := by omega
        subst e
        have hv := (firstBad_none m m.funcs fun j hj => hall.out j hj hj).symm.trans hR2.out
        subst hv
        go_wp2
        go_ret
        exact ⟨rfl, hBw.out⟩
structure Chg (lo hi : Nat) (w w' : World) : Prop where
  below : Below lo w w'
  out : ∀ (b : Nat), b < w.heap.size → b < lo ∨ hi ≤ b → w'.heap[b]? = w.heap[b]?
  cell : ∀ (b : Nat) (arr : Array Value) (e : TypeId), w.heap[b]? = some (Obj.cells arr e (0, 0)) → ∃ arr' : Array Value, w'.heap[b]? = some (.cells arr' e (0, 0)) ∧ ∀ (o : Nat) (u : Value), arr[o]? = some u → arr'[o]? = some u ∨ ((∃ i, u = .int .i64 i) ∧ ∃ i, arr'[o]? = some (.int .i64 i))
theorem Chg.size {lo hi : Nat} {w w' : World} (h : Chg lo hi w w') : w.heap.size ≤ w'.heap.size := h.below.size
theorem Chg.refl (lo hi : Nat) (w : World) : Chg lo hi w w := ⟨Below.refl _ _, fun _ _ _ => rfl, fun _ arr _ h => ⟨arr, h, fun _ _ h => .inl h⟩⟩
theorem Chg.trans {lo hi : Nat} {a b c : World} (h : Chg lo hi a b) (k : Chg lo hi b c) : Chg lo hi a c := by
  refine ⟨h.below.trans k.below, fun i h1 h2 => (k.out i (Nat.lt_of_lt_of_le h1 h.size) h2).trans (h.out i h1 h2), fun i arr e h1 => ?_⟩
  obtain ⟨arr1, h2, h3⟩ := h.cell i arr e h1
  obtain ⟨arr2, h4, h5⟩ := k.cell i arr1 e h2
  refine ⟨arr2, h4, fun o u hu => ?_⟩
  rcases h3 o u hu with h6 | ⟨h6, i', h7⟩
  · exact h5 o u h6
  · rcases h5 o _ h7 with h8 | ⟨-, h8⟩
    · exact .inr ⟨h6, i', h8⟩
    · exact .inr ⟨h6, h8⟩
theorem Chg.of_below {lo hi : Nat} {w w' : World} (hlo : lo ≤ w.heap.size) (h : Below w.heap.size w w') : Chg lo hi w w' :=
  ⟨h.mono hlo, fun b h1 _ => h.block b h1, fun b arr e h1 => ⟨arr, (h.block b (Array.getElem?_eq_some_iff.1 h1).1).trans h1, fun _ _ h => .inl h⟩⟩
theorem Chg.alloc {lo hi : Nat} {a w : World} (h : Chg lo hi a w) (hlo : lo ≤ w.heap.size) (o : Obj) : Chg lo hi a (w.alloc o) := h.trans (.of_below hlo ((Below.refl _ _).al (Nat.le_refl _) o))
theorem Chg.drew {lo hi : Nat} {a w : World} (h : Chg lo hi a w) : Chg lo hi a w.drew := ⟨h.below.drew, h.out, h.cell⟩
theorem Chg.setCell {lo hi : Nat} {w : World} {b e o : Nat} {arr : Array Value} {i i' : Int} (h : w.heap[b]? = some (.cells arr e (0, 0))) (hb : lo ≤ b ∧ b < hi) (ho : arr[o]? = some (.int .i64 i)) : Chg lo hi w (w.setCell ⟨b, o, none⟩ (.int .i64 i')) := by
  refine ⟨(Below.refl _ _).setCell (p := ⟨b, o, none⟩) hb.1 _, fun g _ hg => Below.heap_setCell w ⟨b, o, none⟩ _ g (by simp; omega), fun g arr1 e1 h1 => ?_⟩
  by_cases hg : g = b
  · subst hg
    obtain ⟨rfl, rfl⟩ : arr1 = arr ∧ e1 = e := by rw [h] at h1; cases h1; exact ⟨rfl, rfl⟩
    refine ⟨_, heap_set h, fun j u hu => ?_⟩
    by_cases hj : j = o
    · subst hj
      rw [ho] at hu
      cases hu
      exact .inr ⟨⟨_, rfl⟩, _, by rw [Array.getElem?_setIfInBounds]; simp [(Array.getElem?_eq_some_iff.1 ho).1]; rfl⟩
    · exact .inl (by rw [Array.getElem?_setIfInBounds, if_neg (fun h => hj h.symm)]; exact hu)
  · exact ⟨arr1, heap_off h1 hg, fun _ _ h => .inl h⟩
def Sl {α : Type} (lo hi sz : Nat) (K : World → α → List Value → Prop) (w : World) (v : Value) (xs : List α) : Prop :=
  ∃ A c, v = .slice A xs.length c ∧ xs.length ≤ c ∧ xs.length ≤ lm ∧ (0 < xs.length → ∃ (b : Nat) (arr : Array Value) (e : TypeId), A = some ⟨b, 0, none⟩ ∧ lo ≤ b ∧ b < hi ∧ w.heap[b]? = some (.cells arr e (0, 0)) ∧ ∀ i (h : i < xs.length), ∃ cs, K w xs[i] cs ∧ cs.length = sz ∧ ∀ j u, cs[j]? = some u → arr[i * sz + j]? = some u)
class KC {α : Type} (K : World → α → List Value → Prop) : Prop where
  mv : ∀ {w w' : World} {lo hi : Nat} {x : α} {cs cs' : List Value}, K w x cs → Chg lo hi w w' → cs'.length = cs.length → (∀ (j : Nat) (u : Value), cs[j]? = some u → cs'[j]? = some u ∨ ((∃ i, u = .int .i64 i) ∧ ∃ i, cs'[j]? = some (.int .i64 i))) → K w' x cs'
theorem Sl.mv {α : Type} {lo hi sz l' h' : Nat} {K : World → α → List Value → Prop} [KC K] {w w' : World} {v : Value} {xs : List α} (h : Sl lo hi sz K w v xs) (hc : Chg l' h' w w') : Sl lo hi sz K w' v xs := by
  obtain ⟨A, c, rfl, hcc, hl, h1⟩ := h
  refine ⟨A, c, rfl, hcc, hl, fun h0 => ?_⟩
  obtain ⟨b, arr, e, rfl, hb1, hb2, hh, hat⟩ := h1 h0
  obtain ⟨arr', hh', har⟩ := hc.cell b arr e hh
  refine ⟨b, arr', e, rfl, hb1, hb2, hh', fun i hi => ?_⟩
  obtain ⟨cs, hk, hcl, hcs⟩ := hat i hi
  have hget : ∀ j, j < sz → ∃ u, arr'[i * sz + j]? = some u ∧ ∀ q, cs[j]? = some q → u = q ∨ ((∃ i, q = .int .i64 i) ∧ ∃ i, u = .int .i64 i) := fun j hj => by
    have hq : cs[j]? = some cs[j] := List.getElem?_eq_getElem (by omega)
    rcases har _ _ (hcs j _ hq) with h2 | ⟨h2, i', h3⟩
    · exact ⟨_, h2, fun q hq' => by rw [hq] at hq'; cases hq'; exact .inl rfl⟩
    · exact ⟨_, h3, fun q hq' => by rw [hq] at hq'; cases hq'; exact .inr ⟨h2, _, rfl⟩⟩
  refine ⟨(List.range sz).map fun j => (arr'[i * sz + j]?).getD (.bool false), KC.mv hk hc (by simp [hcl]) (fun j u hu => ?_), by simp, fun j u hu => ?_⟩
  · have hj : j < sz := by have := (List.getElem?_eq_some_iff.1 hu).1; omega
    obtain ⟨u', h2, h3⟩ := hget j hj
    have e : ((List.range sz).map fun j => (arr'[i * sz + j]?).getD (.bool false))[j]? = some u' := by simp [hj, h2]
    rw [e]
    rcases h3 u hu with rfl | ⟨h4, i', rfl⟩
    · exact .inl rfl
    · exact .inr ⟨h4, _, rfl⟩
  · have hj : j < sz := by have := (List.getElem?_eq_some_iff.1 hu).1; simpa using this
    obtain ⟨u', h2, h3⟩ := hget j hj
    simp [hj, h2] at hu
    rw [h2, hu]
theorem Sl.sh {α : Type} {lo hi sz : Nat} {K : World → α → List Value → Prop} {w : World} {v : Value} {xs : List α} (h : Sl lo hi sz K w v xs) : ∃ A c, v = .slice A xs.length c ∧ xs.length ≤ c ∧ xs.length ≤ 1048576 ∧ Hd (Sl lo hi sz K w v xs) := by
  have h' := h
  obtain ⟨A, c, rfl, h1, h2, _⟩ := h
  exact ⟨A, c, rfl, h1, h2, ⟨h'⟩⟩
theorem Sl.at_ {α : Type} {lo hi sz : Nat} {K : World → α → List Value → Prop} {w : World} {A : Option Addr} {n c : Nat} {xs : List α} (h : Sl lo hi sz K w (.slice A n c) xs) (k : Nat) (hk : k < xs.length) :
    ∃ (b : Nat) (arr : Array Value) (e : TypeId) (cs : List Value), A = some ⟨b, 0, none⟩ ∧ lo ≤ b ∧ b < hi ∧ w.heap[b]? = some (.cells arr e (0, 0)) ∧ K w xs[k] cs ∧ cs.length = sz ∧ ∀ j u, cs[j]? = some u → arr[k * sz + j]? = some u := by
  obtain ⟨A', c', hv, hcc, hl, h1⟩ := h
  cases hv
  obtain ⟨b, arr, e, rfl, hb1, hb2, hh, hat⟩ := h1 (by omega)
  obtain ⟨cs, h2, h3, h4⟩ := hat k hk
  exact ⟨b, arr, e, cs, rfl, hb1, hb2, hh, h2, h3, h4⟩
def SInt (_ : World) (_ : Int) (cs : List Value) : Prop := ∃ i, cs = [.int .i64 i]
theorem int1 {cs' : List Value} {u : Value} {j : Nat} (h : cs'[j]? = some u ∨ ((∃ i, u = .int .i64 i) ∧ ∃ i, cs'[j]? = some (.int .i64 i))) (hu : ∃ i, u = .int .i64 i) : ∃ i, cs'[j]? = some (.int .i64 i) := by
  rcases h with h | h
  · obtain ⟨i, rfl⟩ := hu; exact ⟨i, h⟩
  · exact h.2
theorem fix1 {cs' : List Value} {u : Value} {j : Nat} (h : cs'[j]? = some u ∨ ((∃ i, u = .int .i64 i) ∧ ∃ i, cs'[j]? = some (.int .i64 i))) (hu : ∀ i, u ≠ .int .i64 i) : cs'[j]? = some u := by
  rcases h with h | ⟨⟨i, h⟩, _⟩
  · exact h
  · exact absurd h (hu i)
theorem cs1 {cs : List Value} {a : Value} (h : cs.length = 1) (h0 : cs[0]? = some a) : cs = [a] := by
  match cs, h with
  | [x], _ => simp at h0; rw [h0]
instance : KC SInt := ⟨fun ⟨i, h⟩ _ hl hc => by
  subst h
  obtain ⟨i', h'⟩ := int1 (hc 0 _ rfl) ⟨_, rfl⟩
  exact ⟨i', cs1 hl h'⟩⟩
abbrev SlI (lo hi : Nat) := Sl lo hi 1 SInt
def SPhi (lo hi : Nat) (w : World) (x : XPhi) (cs : List Value) : Prop := ∃ i v, cs = [.int .i64 i, v] ∧ SlI lo hi w v x.ins
theorem Sl.ne {α : Type} {lo hi sz : Nat} {K : World → α → List Value → Prop} {w : World} {v : Value} {xs : List α} (h : Sl lo hi sz K w v xs) (i : Int) : v ≠ .int .i64 i := by
  obtain ⟨A, c, rfl, _⟩ := h; simp
theorem cs2 {cs : List Value} {a b : Value} (h : cs.length = 2) (h0 : cs[0]? = some a) (h1 : cs[1]? = some b) : cs = [a, b] := by
  match cs, h with
  | [x, y], _ => simp at h0 h1; rw [h0, h1]
theorem cs6 {cs : List Value} {a b c d e f : Value} (h : cs.length = 6) (h0 : cs[0]? = some a) (h1 : cs[1]? = some b) (h2 : cs[2]? = some c) (h3 : cs[3]? = some d) (h4 : cs[4]? = some e) (h5 : cs[5]? = some f) : cs = [a, b, c, d, e, f] := by
  match cs, h with
  | [x1, x2, x3, x4, x5, x6], _ => simp at h0 h1 h2 h3 h4 h5; rw [h0, h1, h2, h3, h4, h5]
theorem cs7 {cs : List Value} {a b c d e f g : Value} (h : cs.length = 7) (h0 : cs[0]? = some a) (h1 : cs[1]? = some b) (h2 : cs[2]? = some c) (h3 : cs[3]? = some d) (h4 : cs[4]? = some e) (h5 : cs[5]? = some f) (h6 : cs[6]? = some g) : cs = [a, b, c, d, e, f, g] := by
  match cs, h with
  | [x1, x2, x3, x4, x5, x6, x7], _ => simp at h0 h1 h2 h3 h4 h5 h6; rw [h0, h1, h2, h3, h4, h5, h6]
instance {lo hi : Nat} : KC (SPhi lo hi) := ⟨fun ⟨i, v, h, r⟩ hch hl hc => by
  subst h
  obtain ⟨i', h0⟩ := int1 (hc 0 _ rfl) ⟨_, rfl⟩
  exact ⟨i', v, cs2 hl h0 (fix1 (hc 1 _ rfl) r.ne), r.mv hch⟩⟩
abbrev SlPhi (lo hi : Nat) := Sl lo hi 2 (SPhi lo hi)
def SInst (lo hi : Nat) (w : World) (x : XInst) (cs : List Value) : Prop := ∃ a b c d e f v, cs = [.int .i64 a, .int .i64 b, .int .i64 c, .int .i64 d, .int .i64 e, .int .i64 f, v] ∧ SlI lo hi w v x.args
instance {lo hi : Nat} : KC (SInst lo hi) := ⟨fun ⟨a, b, c, d, e, f, v, h, r⟩ hch hl hc => by
  subst h
  obtain ⟨i0, h0⟩ := int1 (hc 0 _ rfl) ⟨_, rfl⟩
  obtain ⟨i1, h1⟩ := int1 (hc 1 _ rfl) ⟨_, rfl⟩
  obtain ⟨i2, h2⟩ := int1 (hc 2 _ rfl) ⟨_, rfl⟩
  obtain ⟨i3, h3⟩ := int1 (hc 3 _ rfl) ⟨_, rfl⟩
  obtain ⟨i4, h4⟩ := int1 (hc 4 _ rfl) ⟨_, rfl⟩
  obtain ⟨i5, h5⟩ := int1 (hc 5 _ rfl) ⟨_, rfl⟩
  exact ⟨i0, i1, i2, i3, i4, i5, v, cs7 hl h0 h1 h2 h3 h4 h5 (fix1 (hc 6 _ rfl) r.ne), r.mv hch⟩⟩
abbrev SlInst (lo hi : Nat) := Sl lo hi 7 (SInst lo hi)
def SBlock (lo hi : Nat) (w : World) (x : XBlock) (cs : List Value) : Prop := ∃ v v' a b c d, cs = [v, v', .int .i64 a, .int .i64 b, .int .i64 c, .int .i64 d] ∧ SlPhi lo hi w v x.phis ∧ SlInst lo hi w v' x.insts
instance {lo hi : Nat} : KC (SBlock lo hi) := ⟨fun ⟨v, v', a, b, c, d, h, r, s⟩ hch hl hc => by
  subst h
  obtain ⟨i2, h2⟩ := int1 (hc 2 _ rfl) ⟨_, rfl⟩
  obtain ⟨i3, h3⟩ := int1 (hc 3 _ rfl) ⟨_, rfl⟩
  obtain ⟨i4, h4⟩ := int1 (hc 4 _ rfl) ⟨_, rfl⟩
  obtain ⟨i5, h5⟩ := int1 (hc 5 _ rfl) ⟨_, rfl⟩
  exact ⟨v, v', i2, i3, i4, i5, cs6 hl (fix1 (hc 0 _ rfl) r.ne) (fix1 (hc 1 _ rfl) s.ne) h2 h3 h4 h5, r.mv hch, s.mv hch⟩⟩
abbrev SlBlock (lo hi : Nat) := Sl lo hi 6 (SBlock lo hi)
def SFunc (lo hi : Nat) (w : World) (x : XFunc) (cs : List Value) : Prop := ∃ v i v', cs = [v, .int .i64 i, v'] ∧ SlI lo hi w v x.params ∧ SlBlock lo hi w v' x.blocks
end Go.Proofs.YtkcgejbnhpccdaaGreat
