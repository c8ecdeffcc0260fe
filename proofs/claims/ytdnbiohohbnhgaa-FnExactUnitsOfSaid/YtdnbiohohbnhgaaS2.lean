/- The contract of the reference's l2Inst. No conditions. -/
import Derived.Test.YtdnbiohohbnhgaaS1
set_option linter.unusedSimpArgs false
set_option linter.unusedVariables false
namespace Go.Proofs.Ytdnbiohohbnhgaa
open Go.RowKit
theorem ops_cases (i : XInst) : inR i.op 1 27 = true → i.op ≠ 26 → (i.op = 21 ∧ (opsOf i).length = 0) ∨ (i.op = 24 ∧ (opsOf i).length = 2) ∨ (i.op = 25 ∧ (opsOf i).length = 1) ∨ (i.op = 23 ∧ (opsOf i).length = 1) ∨
    (i.op ≠ 21 ∧ i.op ≠ 23 ∧ i.op ≠ 24 ∧ i.op ≠ 25 ∧ ((opsOf i).length = 1 ∨ (opsOf i).length = 2 ∨ (opsOf i).length = 3)) := by
  intro h h26
  simp only [inR, Bool.and_eq_true, decide_eq_true_eq] at h
  by_cases h1 : i.op = 21
  · simp [opsOf, bin, cst, inR, h1]
  by_cases h2 : i.op = 23
  · simp [opsOf, bin, cst, inR, h2]
  by_cases h3 : i.op = 24
  · simp [opsOf, bin, cst, inR, h3]
  by_cases h4 : i.op = 25
  · simp [opsOf, bin, cst, inR, h4]
  · right; right; right; right
    refine ⟨h1, h2, h3, h4, ?_⟩
    unfold opsOf
    repeat' split
    all_goals first | (simp; done) | (simp_all [bin, cst, inR]; done) | (simp_all [bin, cst, inR]; omega)
theorem widthOk_ne (w : Int) (h : widthOk w = true) : (w == 0) = false := by
  simp only [widthOk, Bool.or_eq_true, beq_iff_eq] at h
  simp; omega
set_option maxHeartbeats 8000000 in
set_option maxRecDepth 100000 in
theorem s_l2Inst (i : XInst) (v : Value) (ids funcs : Int) (w : World) (hv : RI lm w v i.args) (hi : 0 ≤ ids) (hi2 : ids ≤ 1048576) (hf : 0 ≤ funcs) (hf2 : funcs ≤ 1048576) :
    Calls Try.prog 49 #[instV i v, .int .i64 ids, .int .i64 funcs] w (Ret (.bool (instOk ids funcs i)) w) := by
  have hops := s_l2Operands i
  obtain ⟨A, c, rfl, _, hl, hv0⟩ := hv.sm
  have hp := instOk_pre ids funcs i
  have hpre : instPre i = (inR i.op 1 27 && decide (i.args.length ≤ 4) && (i.args.isEmpty || i.op == 26)) := rfl
  have hbl := fun o => (Below.refl w.heap.size w).al (Nat.le_refl _) o
  have hlen := opsOf_len i hl
  have hcl := Hd.mk (ops_cases i)
  have hN := Hd.mk (show ownN i = if i.op == 26 then 0 else (opsOf i).length from rfl)
  have hn3 := Hd.mk (show i.op ≠ 26 → (opsOf i).length ≤ 3 from fun ho => by rcases opsOf_le i with h | ⟨_, h⟩; exact h; exact absurd h ho)
  have hW := Hd.mk (show wFits i = if i.op == 24 || i.op == 25 then i.w == 0 else if i.op == 23 then i.w == 8 else widthOk i.w from rfl)
  have hM := Hd.mk (show immFits i funcs = if i.op == 21 then isVal i.w i.imm else if i.op == 26 then inR i.imm 0 (funcs - 1) else i.imm == 0 from rfl)
  obtain ⟨op, wd, a, b, c0, imm, args⟩ := i
  simp only [instV] at *
  generalize instOk ids funcs _ = R at *
  generalize hP : instPre _ = Pr at *
  generalize ownN _ = N at *
  generalize wFits _ = WF at *
  generalize immFits _ _ = IF at *
  generalize opsOf _ = l at *
  clear hP
  cases h0 : inR op 1 27 with
  | false =>
    rw [h0] at hpre
    simp at hpre
    subst hpre
    simp at hp
    subst hp
    go_enter Try.func49, Try.ntmps49
    go_wp2_with (go_at_call 36; refine (s_l1In _ _ _ _).mono ?_; rintro e w' ⟨rfl, rfl⟩)
    go_ret
    exact ⟨rfl, hbl _⟩
  | true =>
    rw [h0] at hpre
    by_cases h2 : op ≠ 26 ∧ 0 < args.length
    · obtain ⟨h4, h3⟩ := h2
      have h5 : args.isEmpty = false := by cases args <;> simp_all
      simp [beqF h4, h5] at hpre
      subst hpre
      simp at hp
      subst hp
      have b4 := bneT h4
      clear h5
      go_enter Try.func49, Try.ntmps49
      go_wp2_with (go_at_call 36; refine (s_l1In _ _ _ _).mono ?_; rintro e w' ⟨rfl, rfl⟩)
      go_ret
      exact ⟨rfl, hbl _⟩
    · have hpre2 : Pr = decide (args.length ≤ 4) := by
        rw [hpre]
        have : args.isEmpty = true ∨ op = 26 := by
          rcases Nat.eq_zero_or_pos args.length with h | h
          · left; simpa using h
          · right; exact Decidable.byContradiction fun h' => h2 ⟨h', h⟩
        rcases this with h | h <;> simp [h]
      have hargs : op ≠ 26 → args.length = 0 := fun h => by omega
      clear hpre h2
      have hp' := Hd.mk hp
      have hpre' := Hd.mk hpre2
      have hargs' := Hd.mk hargs
      clear hp hpre2 hargs
      have h26 : op ≠ 26 ∧ args = [] ∨ op = 26 := by
        by_cases h : op = 26
        · exact .inr h
        · exact .inl ⟨h, List.eq_nil_of_length_eq_zero (hargs'.out h)⟩
      clear hargs'
      rcases h26 with ⟨h26, rfl⟩ | rfl
      · have b26 := bneT h26
        have c26 := beqF h26
        have hl3 := hn3.out h26
        have hN2 := hN.out
        rw [c26] at hN2
        simp at hN2
        subst hN2
        have hPr := hpre'.out
        simp at hPr
        subst hPr
        go_enter Try.func49, Try.ntmps49
        go_wp2_with fail
        refine (s_l1In _ _ _ _).mono ?_; rintro e w' ⟨rfl, rfl⟩
        go_wp2_with fail
        refine (hops _ _ (hv0.out.mv (hbl _))).mono ?_; rintro e w1 ⟨v', rfl, ho1, hb1⟩
        obtain ⟨A1, c1, rfl, -, -, hr1⟩ := (own_ints (L := lm) ho1 (by simp only [lm]; omega)).2.sm
        have k0 := bat hb1 w.heap.size (by simp)
        simp at k0
        have hbw := Hd.mk ((hbl _).then hb1)
        clear hb1 ho1 hops
        go_wp2
        go_loop [8] (fun s8 => ∃ k : Nat, k ≤ l.length ∧ s8 = .int .i64 k ∧ Hd ((l.take k).all (isIdB ids) = true)) (fun s8 => l.length - (intOf s8).toNat)
        case atStart => exact ⟨0, Nat.zero_le _, rfl, ⟨by simp⟩⟩
        case round =>
          obtain ⟨k, hk, rfl, hall⟩ := hrel
          by_cases hlt : k < l.length
          · obtain ⟨b1, off1, cs1, hA, hbl1, hk1, hat⟩ := hr1.out.in0 (Below.refl _ _) k hlt
            cases hA
            cases hk1
            have g0 := hat 0 _ rfl
            simp at g0
            clear hat
            have hsn := Hd.mk (all_take_snoc (isIdB ids) l k hlt)
            have hfail := fun h => Hd.mk (all_false_of (isIdB ids) l k hlt h)
            have hid : isIdB ids l[k] = inR l[k] 0 (ids - 1) := rfl
            generalize l[k] = y at *
            cases hq : inR y 0 (ids - 1) with
            | false =>
              have hp2 := hp'.out
              rw [(hfail (by rw [hid, hq])).out] at hp2
              simp at hp2
              subst hp2
              go_wp2_with (go_at_call 36; refine (s_l1In _ _ _ _).mono ?_; rintro e w' ⟨rfl, rfl⟩)
              go_ret
              exact ⟨rfl, hbw.out⟩
            | true =>
              go_wp2_with (go_at_call 36; refine (s_l1In _ _ _ _).mono ?_; rintro e w' ⟨rfl, rfl⟩)
              go_round
              case rel => exact ⟨k + 1, by omega, by go_num, ⟨by rw [hsn.out, hall.out, hid, hq]; rfl⟩⟩
              case measure => simp [intOf]; omega
          · have e : k = l.length := by omega
            subst e
            rw [List.take_length] at hall
            have hp2 := hp'.out
            rw [hall.out] at hp2
            have hR := Hd.mk hp2
            have hcls := hcl.out h0 h26
            clear hp2 hp' hn3 hN hcl
            rcases hcls with ⟨rfl, hn⟩ | ⟨rfl, hn⟩ | ⟨rfl, hn⟩ | ⟨rfl, hn⟩ | ⟨o21, o23, o24, o25, hn⟩
            · skip
              cases hwd : widthOk wd with
              | false =>
                have hwf : WF = false := by rw [hW.out]; simp [hwd]
                by_cases hw0 : wd = 0
                · subst hw0
                  have e : R = false := by rw [hR.out]; simp [hn, hwf]
                  subst e
                  go_wp2_with (first | (go_at_call 48; refine (s_WidthOk _ _).mono ?_; rintro e w' ⟨rfl, rfl⟩) | (go_at_call 60; refine (s_l1Value _ _ _).mono ?_; rintro e w' ⟨rfl, rfl⟩) | (go_at_call 36; refine (s_l1In _ _ _ _).mono ?_; rintro e w' ⟨rfl, rfl⟩))
                  go_ret
                  exact ⟨by first | rfl | simp, hbw.out⟩
                · have yw := beqF hw0
                  have e : R = false := by rw [hR.out]; simp [hn, hwf]
                  subst e
                  go_wp2_with (first | (go_at_call 48; refine (s_WidthOk _ _).mono ?_; rintro e w' ⟨rfl, rfl⟩) | (go_at_call 60; refine (s_l1Value _ _ _).mono ?_; rintro e w' ⟨rfl, rfl⟩) | (go_at_call 36; refine (s_l1In _ _ _ _).mono ?_; rintro e w' ⟨rfl, rfl⟩))
                  go_ret
                  exact ⟨by first | rfl | simp, hbw.out⟩
              | true =>
                have yw := widthOk_ne wd hwd
                have hwf : WF = true := by rw [hW.out]; simp [hwd]
                have hif : IF = isVal wd imm := hM.out
                by_cases za : a = 0
                rotate_left
                · have ya := bneT za
                  have e : R = false := by rw [hR.out]; simp [hn, hwf, za]
                  subst e
                  go_wp2_with (first | (go_at_call 48; refine (s_WidthOk _ _).mono ?_; rintro e w' ⟨rfl, rfl⟩) | (go_at_call 60; refine (s_l1Value _ _ _).mono ?_; rintro e w' ⟨rfl, rfl⟩) | (go_at_call 36; refine (s_l1In _ _ _ _).mono ?_; rintro e w' ⟨rfl, rfl⟩))
                  go_ret
                  exact ⟨by first | rfl | simp, hbw.out⟩
                subst za
                by_cases zb : b = 0
                rotate_left
                · have yb := bneT zb
                  have e : R = false := by rw [hR.out]; simp [hn, hwf, zb]
                  subst e
                  go_wp2_with (first | (go_at_call 48; refine (s_WidthOk _ _).mono ?_; rintro e w' ⟨rfl, rfl⟩) | (go_at_call 60; refine (s_l1Value _ _ _).mono ?_; rintro e w' ⟨rfl, rfl⟩) | (go_at_call 36; refine (s_l1In _ _ _ _).mono ?_; rintro e w' ⟨rfl, rfl⟩))
                  go_ret
                  exact ⟨by first | rfl | simp, hbw.out⟩
                subst zb
                by_cases zc0 : c0 = 0
                rotate_left
                · have yc0 := bneT zc0
                  have e : R = false := by rw [hR.out]; simp [hn, hwf, zc0]
                  subst e
                  go_wp2_with (first | (go_at_call 48; refine (s_WidthOk _ _).mono ?_; rintro e w' ⟨rfl, rfl⟩) | (go_at_call 60; refine (s_l1Value _ _ _).mono ?_; rintro e w' ⟨rfl, rfl⟩) | (go_at_call 36; refine (s_l1In _ _ _ _).mono ?_; rintro e w' ⟨rfl, rfl⟩))
                  go_ret
                  exact ⟨by first | rfl | simp, hbw.out⟩
                subst zc0
                have e : R = isVal wd imm := by rw [hR.out]; simp [hn, hwf, hif]
                subst e
                go_wp2_with (first | (go_at_call 48; refine (s_WidthOk _ _).mono ?_; rintro e w' ⟨rfl, rfl⟩) | (go_at_call 60; refine (s_l1Value _ _ _).mono ?_; rintro e w' ⟨rfl, rfl⟩) | (go_at_call 36; refine (s_l1In _ _ _ _).mono ?_; rintro e w' ⟨rfl, rfl⟩))
                go_ret
                exact ⟨by first | rfl | simp, hbw.out⟩
            · skip
              by_cases hw0 : wd = 0
              rotate_left
              · have hwf : WF = false := by rw [hW.out]; simp [hw0]
                have yw := beqF hw0
                have e : R = false := by rw [hR.out]; simp [hn, hwf]
                subst e
                go_wp2_with (first | (go_at_call 48; refine (s_WidthOk _ _).mono ?_; rintro e w' ⟨rfl, rfl⟩) | (go_at_call 60; refine (s_l1Value _ _ _).mono ?_; rintro e w' ⟨rfl, rfl⟩) | (go_at_call 36; refine (s_l1In _ _ _ _).mono ?_; rintro e w' ⟨rfl, rfl⟩))
                go_ret
                exact ⟨by first | rfl | simp, hbw.out⟩
              have hwf : WF = true := by rw [hW.out]; simp [hw0]
              have hif : IF = (imm == 0) := hM.out
              subst hw0
              by_cases zc0 : c0 = 0
              rotate_left
              · have yc0 := bneT zc0
                have e : R = false := by rw [hR.out]; simp [hn, hwf, zc0]
                subst e
                go_wp2_with (first | (go_at_call 48; refine (s_WidthOk _ _).mono ?_; rintro e w' ⟨rfl, rfl⟩) | (go_at_call 60; refine (s_l1Value _ _ _).mono ?_; rintro e w' ⟨rfl, rfl⟩) | (go_at_call 36; refine (s_l1In _ _ _ _).mono ?_; rintro e w' ⟨rfl, rfl⟩))
                go_ret
                exact ⟨by first | rfl | simp, hbw.out⟩
              subst zc0
              have e : R = (imm == 0) := by rw [hR.out]; simp [hn, hwf, hif]
              subst e
              go_wp2_with (first | (go_at_call 48; refine (s_WidthOk _ _).mono ?_; rintro e w' ⟨rfl, rfl⟩) | (go_at_call 60; refine (s_l1Value _ _ _).mono ?_; rintro e w' ⟨rfl, rfl⟩) | (go_at_call 36; refine (s_l1In _ _ _ _).mono ?_; rintro e w' ⟨rfl, rfl⟩))
              go_ret
              exact ⟨by first | rfl | simp, hbw.out⟩
            · skip
              by_cases hw0 : wd = 0
              rotate_left
              · have hwf : WF = false := by rw [hW.out]; simp [hw0]
                have yw := beqF hw0
                have e : R = false := by rw [hR.out]; simp [hn, hwf]
                subst e
                go_wp2_with (first | (go_at_call 48; refine (s_WidthOk _ _).mono ?_; rintro e w' ⟨rfl, rfl⟩) | (go_at_call 60; refine (s_l1Value _ _ _).mono ?_; rintro e w' ⟨rfl, rfl⟩) | (go_at_call 36; refine (s_l1In _ _ _ _).mono ?_; rintro e w' ⟨rfl, rfl⟩))
                go_ret
                exact ⟨by first | rfl | simp, hbw.out⟩
              have hwf : WF = true := by rw [hW.out]; simp [hw0]
              have hif : IF = (imm == 0) := hM.out
              subst hw0
              by_cases zb : b = 0
              rotate_left
              · have yb := bneT zb
                have e : R = false := by rw [hR.out]; simp [hn, hwf, zb]
                subst e
                go_wp2_with (first | (go_at_call 48; refine (s_WidthOk _ _).mono ?_; rintro e w' ⟨rfl, rfl⟩) | (go_at_call 60; refine (s_l1Value _ _ _).mono ?_; rintro e w' ⟨rfl, rfl⟩) | (go_at_call 36; refine (s_l1In _ _ _ _).mono ?_; rintro e w' ⟨rfl, rfl⟩))
                go_ret
                exact ⟨by first | rfl | simp, hbw.out⟩
              subst zb
              by_cases zc0 : c0 = 0
              rotate_left
              · have yc0 := bneT zc0
                have e : R = false := by rw [hR.out]; simp [hn, hwf, zc0]
                subst e
                go_wp2_with (first | (go_at_call 48; refine (s_WidthOk _ _).mono ?_; rintro e w' ⟨rfl, rfl⟩) | (go_at_call 60; refine (s_l1Value _ _ _).mono ?_; rintro e w' ⟨rfl, rfl⟩) | (go_at_call 36; refine (s_l1In _ _ _ _).mono ?_; rintro e w' ⟨rfl, rfl⟩))
                go_ret
                exact ⟨by first | rfl | simp, hbw.out⟩
              subst zc0
              have e : R = (imm == 0) := by rw [hR.out]; simp [hn, hwf, hif]
              subst e
              go_wp2_with (first | (go_at_call 48; refine (s_WidthOk _ _).mono ?_; rintro e w' ⟨rfl, rfl⟩) | (go_at_call 60; refine (s_l1Value _ _ _).mono ?_; rintro e w' ⟨rfl, rfl⟩) | (go_at_call 36; refine (s_l1In _ _ _ _).mono ?_; rintro e w' ⟨rfl, rfl⟩))
              go_ret
              exact ⟨by first | rfl | simp, hbw.out⟩
            · skip
              cases hwd : widthOk wd with
              | false =>
                have hwf : WF = false := by rw [hW.out]; simp; intro h; subst h; cases hwd
                by_cases hw0 : wd = 0
                · subst hw0
                  have e : R = false := by rw [hR.out]; simp [hn, hwf]
                  subst e
                  go_wp2_with (first | (go_at_call 48; refine (s_WidthOk _ _).mono ?_; rintro e w' ⟨rfl, rfl⟩) | (go_at_call 60; refine (s_l1Value _ _ _).mono ?_; rintro e w' ⟨rfl, rfl⟩) | (go_at_call 36; refine (s_l1In _ _ _ _).mono ?_; rintro e w' ⟨rfl, rfl⟩))
                  go_ret
                  exact ⟨by first | rfl | simp, hbw.out⟩
                · have yw := beqF hw0
                  have e : R = false := by rw [hR.out]; simp [hn, hwf]
                  subst e
                  go_wp2_with (first | (go_at_call 48; refine (s_WidthOk _ _).mono ?_; rintro e w' ⟨rfl, rfl⟩) | (go_at_call 60; refine (s_l1Value _ _ _).mono ?_; rintro e w' ⟨rfl, rfl⟩) | (go_at_call 36; refine (s_l1In _ _ _ _).mono ?_; rintro e w' ⟨rfl, rfl⟩))
                  go_ret
                  exact ⟨by first | rfl | simp, hbw.out⟩
              | true =>
                have yw := widthOk_ne wd hwd
                have hwf : WF = (wd == 8) := hW.out
                have hif : IF = (imm == 0) := hM.out
                by_cases zb : b = 0
                rotate_left
                · have yb := bneT zb
                  have e : R = false := by rw [hR.out]; simp [hn, hwf, zb]
                  subst e
                  go_wp2_with (first | (go_at_call 48; refine (s_WidthOk _ _).mono ?_; rintro e w' ⟨rfl, rfl⟩) | (go_at_call 60; refine (s_l1Value _ _ _).mono ?_; rintro e w' ⟨rfl, rfl⟩) | (go_at_call 36; refine (s_l1In _ _ _ _).mono ?_; rintro e w' ⟨rfl, rfl⟩))
                  go_ret
                  exact ⟨by first | rfl | simp, hbw.out⟩
                subst zb
                by_cases zc0 : c0 = 0
                rotate_left
                · have yc0 := bneT zc0
                  have e : R = false := by rw [hR.out]; simp [hn, hwf, zc0]
                  subst e
                  go_wp2_with (first | (go_at_call 48; refine (s_WidthOk _ _).mono ?_; rintro e w' ⟨rfl, rfl⟩) | (go_at_call 60; refine (s_l1Value _ _ _).mono ?_; rintro e w' ⟨rfl, rfl⟩) | (go_at_call 36; refine (s_l1In _ _ _ _).mono ?_; rintro e w' ⟨rfl, rfl⟩))
                  go_ret
                  exact ⟨by first | rfl | simp, hbw.out⟩
                subst zc0
                by_cases h8 : wd = 8
                · subst h8
                  have e : R = (imm == 0) := by rw [hR.out]; simp [hn, hwf, hif]
                  subst e
                  go_wp2_with (first | (go_at_call 48; refine (s_WidthOk _ _).mono ?_; rintro e w' ⟨rfl, rfl⟩) | (go_at_call 60; refine (s_l1Value _ _ _).mono ?_; rintro e w' ⟨rfl, rfl⟩) | (go_at_call 36; refine (s_l1In _ _ _ _).mono ?_; rintro e w' ⟨rfl, rfl⟩))
                  go_ret
                  exact ⟨by first | rfl | simp, hbw.out⟩
                · have y8 := beqF h8
                  have e : R = false := by rw [hR.out]; simp [hn, hwf, y8]
                  subst e
                  go_wp2_with (first | (go_at_call 48; refine (s_WidthOk _ _).mono ?_; rintro e w' ⟨rfl, rfl⟩) | (go_at_call 60; refine (s_l1Value _ _ _).mono ?_; rintro e w' ⟨rfl, rfl⟩) | (go_at_call 36; refine (s_l1In _ _ _ _).mono ?_; rintro e w' ⟨rfl, rfl⟩))
                  go_ret
                  exact ⟨by first | rfl | simp, hbw.out⟩
            · have b21 := beqF o21
              have b23 := beqF o23
              have b24 := beqF o24
              have b25 := beqF o25
              rcases hn with hn | hn | hn
              · skip
                cases hwd : widthOk wd with
                | false =>
                  have hwf : WF = false := by rw [hW.out]; simp [hwd, b21, b23, b24, b25, c26]
                  by_cases hw0 : wd = 0
                  · subst hw0
                    have e : R = false := by rw [hR.out]; simp [hn, hwf]
                    subst e
                    go_wp2_with (first | (go_at_call 48; refine (s_WidthOk _ _).mono ?_; rintro e w' ⟨rfl, rfl⟩) | (go_at_call 60; refine (s_l1Value _ _ _).mono ?_; rintro e w' ⟨rfl, rfl⟩) | (go_at_call 36; refine (s_l1In _ _ _ _).mono ?_; rintro e w' ⟨rfl, rfl⟩))
                    go_ret
                    exact ⟨by first | rfl | simp, hbw.out⟩
                  · have yw := beqF hw0
                    have e : R = false := by rw [hR.out]; simp [hn, hwf]
                    subst e
                    go_wp2_with (first | (go_at_call 48; refine (s_WidthOk _ _).mono ?_; rintro e w' ⟨rfl, rfl⟩) | (go_at_call 60; refine (s_l1Value _ _ _).mono ?_; rintro e w' ⟨rfl, rfl⟩) | (go_at_call 36; refine (s_l1In _ _ _ _).mono ?_; rintro e w' ⟨rfl, rfl⟩))
                    go_ret
                    exact ⟨by first | rfl | simp, hbw.out⟩
                | true =>
                  have yw := widthOk_ne wd hwd
                  have hwf : WF = true := by rw [hW.out]; simp [hwd, b21, b23, b24, b25, c26]
                  have hif : IF = (imm == 0) := by rw [hM.out]; simp [b21, b23, b24, b25, c26]
                  by_cases zb : b = 0
                  rotate_left
                  · have yb := bneT zb
                    have e : R = false := by rw [hR.out]; simp [hn, hwf, zb]
                    subst e
                    go_wp2_with (first | (go_at_call 48; refine (s_WidthOk _ _).mono ?_; rintro e w' ⟨rfl, rfl⟩) | (go_at_call 60; refine (s_l1Value _ _ _).mono ?_; rintro e w' ⟨rfl, rfl⟩) | (go_at_call 36; refine (s_l1In _ _ _ _).mono ?_; rintro e w' ⟨rfl, rfl⟩))
                    go_ret
                    exact ⟨by first | rfl | simp, hbw.out⟩
                  subst zb
                  by_cases zc0 : c0 = 0
                  rotate_left
                  · have yc0 := bneT zc0
                    have e : R = false := by rw [hR.out]; simp [hn, hwf, zc0]
                    subst e
                    go_wp2_with (first | (go_at_call 48; refine (s_WidthOk _ _).mono ?_; rintro e w' ⟨rfl, rfl⟩) | (go_at_call 60; refine (s_l1Value _ _ _).mono ?_; rintro e w' ⟨rfl, rfl⟩) | (go_at_call 36; refine (s_l1In _ _ _ _).mono ?_; rintro e w' ⟨rfl, rfl⟩))
                    go_ret
                    exact ⟨by first | rfl | simp, hbw.out⟩
                  subst zc0
                  have e : R = (imm == 0) := by rw [hR.out]; simp [hn, hwf, hif]
                  subst e
                  go_wp2_with (first | (go_at_call 48; refine (s_WidthOk _ _).mono ?_; rintro e w' ⟨rfl, rfl⟩) | (go_at_call 60; refine (s_l1Value _ _ _).mono ?_; rintro e w' ⟨rfl, rfl⟩) | (go_at_call 36; refine (s_l1In _ _ _ _).mono ?_; rintro e w' ⟨rfl, rfl⟩))
                  go_ret
                  exact ⟨by first | rfl | simp, hbw.out⟩
              · skip
                cases hwd : widthOk wd with
                | false =>
                  have hwf : WF = false := by rw [hW.out]; simp [hwd, b21, b23, b24, b25, c26]
                  by_cases hw0 : wd = 0
                  · subst hw0
                    have e : R = false := by rw [hR.out]; simp [hn, hwf]
                    subst e
                    go_wp2_with (first | (go_at_call 48; refine (s_WidthOk _ _).mono ?_; rintro e w' ⟨rfl, rfl⟩) | (go_at_call 60; refine (s_l1Value _ _ _).mono ?_; rintro e w' ⟨rfl, rfl⟩) | (go_at_call 36; refine (s_l1In _ _ _ _).mono ?_; rintro e w' ⟨rfl, rfl⟩))
                    go_ret
                    exact ⟨by first | rfl | simp, hbw.out⟩
                  · have yw := beqF hw0
                    have e : R = false := by rw [hR.out]; simp [hn, hwf]
                    subst e
                    go_wp2_with (first | (go_at_call 48; refine (s_WidthOk _ _).mono ?_; rintro e w' ⟨rfl, rfl⟩) | (go_at_call 60; refine (s_l1Value _ _ _).mono ?_; rintro e w' ⟨rfl, rfl⟩) | (go_at_call 36; refine (s_l1In _ _ _ _).mono ?_; rintro e w' ⟨rfl, rfl⟩))
                    go_ret
                    exact ⟨by first | rfl | simp, hbw.out⟩
                | true =>
                  have yw := widthOk_ne wd hwd
                  have hwf : WF = true := by rw [hW.out]; simp [hwd, b21, b23, b24, b25, c26]
                  have hif : IF = (imm == 0) := by rw [hM.out]; simp [b21, b23, b24, b25, c26]
                  by_cases zc0 : c0 = 0
                  rotate_left
                  · have yc0 := bneT zc0
                    have e : R = false := by rw [hR.out]; simp [hn, hwf, zc0]
                    subst e
                    go_wp2_with (first | (go_at_call 48; refine (s_WidthOk _ _).mono ?_; rintro e w' ⟨rfl, rfl⟩) | (go_at_call 60; refine (s_l1Value _ _ _).mono ?_; rintro e w' ⟨rfl, rfl⟩) | (go_at_call 36; refine (s_l1In _ _ _ _).mono ?_; rintro e w' ⟨rfl, rfl⟩))
                    go_ret
                    exact ⟨by first | rfl | simp, hbw.out⟩
                  subst zc0
                  have e : R = (imm == 0) := by rw [hR.out]; simp [hn, hwf, hif]
                  subst e
                  go_wp2_with (first | (go_at_call 48; refine (s_WidthOk _ _).mono ?_; rintro e w' ⟨rfl, rfl⟩) | (go_at_call 60; refine (s_l1Value _ _ _).mono ?_; rintro e w' ⟨rfl, rfl⟩) | (go_at_call 36; refine (s_l1In _ _ _ _).mono ?_; rintro e w' ⟨rfl, rfl⟩))
                  go_ret
                  exact ⟨by first | rfl | simp, hbw.out⟩
              · skip
                cases hwd : widthOk wd with
                | false =>
                  have hwf : WF = false := by rw [hW.out]; simp [hwd, b21, b23, b24, b25, c26]
                  by_cases hw0 : wd = 0
                  · subst hw0
                    have e : R = false := by rw [hR.out]; simp [hn, hwf]
                    subst e
                    go_wp2_with (first | (go_at_call 48; refine (s_WidthOk _ _).mono ?_; rintro e w' ⟨rfl, rfl⟩) | (go_at_call 60; refine (s_l1Value _ _ _).mono ?_; rintro e w' ⟨rfl, rfl⟩) | (go_at_call 36; refine (s_l1In _ _ _ _).mono ?_; rintro e w' ⟨rfl, rfl⟩))
                    go_ret
                    exact ⟨by first | rfl | simp, hbw.out⟩
                  · have yw := beqF hw0
                    have e : R = false := by rw [hR.out]; simp [hn, hwf]
                    subst e
                    go_wp2_with (first | (go_at_call 48; refine (s_WidthOk _ _).mono ?_; rintro e w' ⟨rfl, rfl⟩) | (go_at_call 60; refine (s_l1Value _ _ _).mono ?_; rintro e w' ⟨rfl, rfl⟩) | (go_at_call 36; refine (s_l1In _ _ _ _).mono ?_; rintro e w' ⟨rfl, rfl⟩))
                    go_ret
                    exact ⟨by first | rfl | simp, hbw.out⟩
                | true =>
                  have yw := widthOk_ne wd hwd
                  have hwf : WF = true := by rw [hW.out]; simp [hwd, b21, b23, b24, b25, c26]
                  have hif : IF = (imm == 0) := by rw [hM.out]; simp [b21, b23, b24, b25, c26]
                  have e : R = (imm == 0) := by rw [hR.out]; simp [hn, hwf, hif]
                  subst e
                  go_wp2_with (first | (go_at_call 48; refine (s_WidthOk _ _).mono ?_; rintro e w' ⟨rfl, rfl⟩) | (go_at_call 60; refine (s_l1Value _ _ _).mono ?_; rintro e w' ⟨rfl, rfl⟩) | (go_at_call 36; refine (s_l1In _ _ _ _).mono ?_; rintro e w' ⟨rfl, rfl⟩))
                  go_ret
                  exact ⟨by first | rfl | simp, hbw.out⟩
      · have hN2 := hN.out
        simp at hN2
        subst hN2
        go_enter Try.func49, Try.ntmps49
        go_wp2_with fail
        refine (s_l1In _ _ _ _).mono ?_; rintro e w' ⟨rfl, rfl⟩
        go_wp2_with fail
        refine (hops _ _ (hv0.out.mv (hbl _))).mono ?_; rintro e w1 ⟨v', rfl, ho1, hb1⟩
        obtain ⟨A1, c1, rfl, -, -, hr1⟩ := (own_ints (L := lm) ho1 (by simp only [lm]; omega)).2.sm
        have k0 := bat hb1 w.heap.size (by simp)
        simp at k0
        have hbw := Hd.mk ((hbl _).then hb1)
        clear hb1 ho1 hops
        go_wp2
        go_loop [8] (fun s8 => ∃ k : Nat, k ≤ l.length ∧ s8 = .int .i64 k ∧ Hd ((l.take k).all (isIdB ids) = true)) (fun s8 => l.length - (intOf s8).toNat)
        case atStart => exact ⟨0, Nat.zero_le _, rfl, ⟨by simp⟩⟩
        case round =>
          obtain ⟨k, hk, rfl, hall⟩ := hrel
          by_cases hlt : k < l.length
          · obtain ⟨b1, off1, cs1, hA, hbl1, hk1, hat⟩ := hr1.out.in0 (Below.refl _ _) k hlt
            cases hA
            cases hk1
            have g0 := hat 0 _ rfl
            simp at g0
            clear hat
            have hsn := Hd.mk (all_take_snoc (isIdB ids) l k hlt)
            have hfail := fun h => Hd.mk (all_false_of (isIdB ids) l k hlt h)
            have hid : isIdB ids l[k] = inR l[k] 0 (ids - 1) := rfl
            generalize l[k] = y at *
            cases hq : inR y 0 (ids - 1) with
            | false =>
              have hp2 := hp'.out
              rw [(hfail (by rw [hid, hq])).out] at hp2
              simp at hp2
              subst hp2
              go_wp2_with (go_at_call 36; refine (s_l1In _ _ _ _).mono ?_; rintro e w' ⟨rfl, rfl⟩)
              go_ret
              exact ⟨rfl, hbw.out⟩
            | true =>
              go_wp2_with (go_at_call 36; refine (s_l1In _ _ _ _).mono ?_; rintro e w' ⟨rfl, rfl⟩)
              go_round
              case rel => exact ⟨k + 1, by omega, by go_num, ⟨by rw [hsn.out, hall.out, hid, hq]; rfl⟩⟩
              case measure => simp [intOf]; omega
          · have e : k = l.length := by omega
            subst e
            rw [List.take_length] at hall
            have hp2 := hp'.out
            rw [hall.out] at hp2
            have hR := Hd.mk hp2
            clear hp2 hp' hn3 hN hcl
            cases hwd : widthOk wd with
            | false =>
              have hwf : WF = false := by rw [hW.out]; simp [hwd]
              by_cases hw0 : wd = 0
              · subst hw0
                have e : R = false := by rw [hR.out]; simp [hwf]
                subst e
                go_wp2_with (first | (go_at_call 48; refine (s_WidthOk _ _).mono ?_; rintro e w' ⟨rfl, rfl⟩) | (go_at_call 60; refine (s_l1Value _ _ _).mono ?_; rintro e w' ⟨rfl, rfl⟩) | (go_at_call 36; refine (s_l1In _ _ _ _).mono ?_; rintro e w' ⟨rfl, rfl⟩))
                go_ret
                exact ⟨by first | rfl | simp, hbw.out⟩
              · have yw := beqF hw0
                have e : R = false := by rw [hR.out]; simp [hwf]
                subst e
                go_wp2_with (first | (go_at_call 48; refine (s_WidthOk _ _).mono ?_; rintro e w' ⟨rfl, rfl⟩) | (go_at_call 60; refine (s_l1Value _ _ _).mono ?_; rintro e w' ⟨rfl, rfl⟩) | (go_at_call 36; refine (s_l1In _ _ _ _).mono ?_; rintro e w' ⟨rfl, rfl⟩))
                go_ret
                exact ⟨by first | rfl | simp, hbw.out⟩
            | true =>
              have yw := widthOk_ne wd hwd
              have hwf : WF = true := by rw [hW.out]; simp [hwd]
              have hif : IF = inR imm 0 (funcs - 1) := hM.out
              by_cases h4 : 4 < args.length
              · have hPr := hpre'.out
                rw [show decide (args.length ≤ 4) = false by simp; omega] at hPr
                have d4 : decide (4 < (args.length : Int)) = true := by simp; omega
                have e : R = false := by rw [hR.out]; simp [hPr]
                subst e
                go_wp2_with (first | (go_at_call 48; refine (s_WidthOk _ _).mono ?_; rintro e w' ⟨rfl, rfl⟩) | (go_at_call 60; refine (s_l1Value _ _ _).mono ?_; rintro e w' ⟨rfl, rfl⟩) | (go_at_call 36; refine (s_l1In _ _ _ _).mono ?_; rintro e w' ⟨rfl, rfl⟩))
                go_ret
                exact ⟨by first | rfl | simp, hbw.out⟩
              have hPr := hpre'.out
              rw [show decide (args.length ≤ 4) = true by simp; omega] at hPr
              have d4 : decide (4 < (args.length : Int)) = false := by simp; omega
              subst hPr
              by_cases za : a = 0
              rotate_left
              · have ya := bneT za
                have e : R = false := by rw [hR.out]; simp [hwf, za]
                subst e
                go_wp2_with (first | (go_at_call 48; refine (s_WidthOk _ _).mono ?_; rintro e w' ⟨rfl, rfl⟩) | (go_at_call 60; refine (s_l1Value _ _ _).mono ?_; rintro e w' ⟨rfl, rfl⟩) | (go_at_call 36; refine (s_l1In _ _ _ _).mono ?_; rintro e w' ⟨rfl, rfl⟩))
                go_ret
                exact ⟨by first | rfl | simp, hbw.out⟩
              subst za
              by_cases zb : b = 0
              rotate_left
              · have yb := bneT zb
                have e : R = false := by rw [hR.out]; simp [hwf, zb]
                subst e
                go_wp2_with (first | (go_at_call 48; refine (s_WidthOk _ _).mono ?_; rintro e w' ⟨rfl, rfl⟩) | (go_at_call 60; refine (s_l1Value _ _ _).mono ?_; rintro e w' ⟨rfl, rfl⟩) | (go_at_call 36; refine (s_l1In _ _ _ _).mono ?_; rintro e w' ⟨rfl, rfl⟩))
                go_ret
                exact ⟨by first | rfl | simp, hbw.out⟩
              subst zb
              by_cases zc0 : c0 = 0
              rotate_left
              · have yc0 := bneT zc0
                have e : R = false := by rw [hR.out]; simp [hwf, zc0]
                subst e
                go_wp2_with (first | (go_at_call 48; refine (s_WidthOk _ _).mono ?_; rintro e w' ⟨rfl, rfl⟩) | (go_at_call 60; refine (s_l1Value _ _ _).mono ?_; rintro e w' ⟨rfl, rfl⟩) | (go_at_call 36; refine (s_l1In _ _ _ _).mono ?_; rintro e w' ⟨rfl, rfl⟩))
                go_ret
                exact ⟨by first | rfl | simp, hbw.out⟩
              subst zc0
              have e : R = inR imm 0 (funcs - 1) := by rw [hR.out]; simp [hwf, hif]
              subst e
              go_wp2_with (first | (go_at_call 48; refine (s_WidthOk _ _).mono ?_; rintro e w' ⟨rfl, rfl⟩) | (go_at_call 60; refine (s_l1Value _ _ _).mono ?_; rintro e w' ⟨rfl, rfl⟩) | (go_at_call 36; refine (s_l1In _ _ _ _).mono ?_; rintro e w' ⟨rfl, rfl⟩))
              go_ret
              exact ⟨by first | rfl | simp, hbw.out⟩
end Go.Proofs.Ytdnbiohohbnhgaa
