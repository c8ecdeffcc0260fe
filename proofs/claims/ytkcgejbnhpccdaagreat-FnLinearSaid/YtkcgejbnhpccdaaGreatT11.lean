import Derived.Test.YtkcgejbnhpccdaaGreatT06
import Derived.Deep.QuietTactic
import Derived.BigQuiet
set_option linter.unusedSimpArgs false
set_option linter.unusedVariables false
namespace Go.Proofs.YtkcgejbnhpccdaaGreat
open Go.RowKit
set_option maxHeartbeats 2000000 in
theorem s_l2Term (t : XTerm) (ids m : Int) (w : World) (hi : 0 ≤ ids) (hi2 : ids ≤ 1048576) (hm : 0 ≤ m) (hm2 : m ≤ 1048576) : Calls Tryz.prog 146 #[termV t, .int .i64 ids, .int .i64 m] w (Ret (.bool (termOk ids m t)) w) := by
  have hbl := fun o => (Below.refl w.heap.size w).al (Nat.le_refl _) o
  obtain ⟨k, a, x, y⟩ := t
  simp only [termV] at *
  have ha : isIdB ids a = inR a 0 (ids - 1) := rfl
  have hx : isIdB m x = inR x 0 (m - 1) := rfl
  have hy : isIdB m y = inR y 0 (m - 1) := rfl
  by_cases h1 : k = 1
  · subst h1
    rw [show termOk ids m ⟨1, a, x, y⟩ = (isIdB ids a && x == 0 && y == 0) from rfl, ha]
    clear ha hx hy
    cases qa : inR a 0 (ids - 1)
    all_goals by_cases hx : x = 0
    all_goals by_cases hy : y = 0
    all_goals
      go_enter Tryz.func146, Tryz.ntmps146
      go_wp2_with (go_at_call 47; refine (s_l1In _ _ _ _).mono ?_; rintro e w' ⟨rfl, rfl⟩)
      go_ret
      exact ⟨by simp [hx, hy], hbl _⟩
  by_cases h2 : k = 2
  · subst h2
    rw [show termOk ids m ⟨2, a, x, y⟩ = (a == 0 && isIdB m x && y == 0) from rfl, hx]
    clear ha hx hy
    cases qa : inR x 0 (m - 1)
    all_goals by_cases hA : a = 0
    all_goals by_cases hy : y = 0
    all_goals
      go_enter Tryz.func146, Tryz.ntmps146
      go_wp2_with (go_at_call 47; refine (s_l1In _ _ _ _).mono ?_; rintro e w' ⟨rfl, rfl⟩)
      go_ret
      exact ⟨by simp [hA, hy], hbl _⟩
  by_cases h3 : k = 3
  · subst h3
    rw [show termOk ids m ⟨3, a, x, y⟩ = (isIdB ids a && isIdB m x && isIdB m y && x != y) from rfl, ha, hx, hy]
    clear ha hx hy
    cases qa : inR a 0 (ids - 1)
    all_goals cases qx : inR x 0 (m - 1)
    all_goals cases qy : inR y 0 (m - 1)
    all_goals
      go_enter Tryz.func146, Tryz.ntmps146
      go_wp2_with (go_at_call 47; refine (s_l1In _ _ _ _).mono ?_; rintro e w' ⟨rfl, rfl⟩)
      go_ret
      exact ⟨by simp, hbl _⟩
  by_cases h4 : k = 4
  · subst h4
    rw [show termOk ids m ⟨4, a, x, y⟩ = (a == 0 && x == 0 && y == 0) from rfl]
    clear ha hx hy
    by_cases hA : a = 0
    all_goals by_cases hX : x = 0
    all_goals
      go_enter Tryz.func146, Tryz.ntmps146
      go_wp2
      go_ret
      exact ⟨by simp [hA, hX], hbl _⟩
  · rw [show termOk ids m ⟨k, a, x, y⟩ = false by simp [termOk, h1, h2, h3, h4]]
    clear ha hx hy
    have b1 := beqF h1
    have b2 := beqF h2
    have b3 := beqF h3
    have b4 := beqF h4
    go_enter Tryz.func146, Tryz.ntmps146
    go_wp2
    go_ret
    exact ⟨by simp, hbl _⟩
theorem pw_drewN {B : Nat} {a w : World} (h : Below B a w) (q : Nat) : Below B a (w.drewN q) := ⟨h.os, h.tape, h.output, h.size, h.block⟩
set_option maxHeartbeats 1000000 in
theorem s_CountOf (f : XFunc) (cs : List Value) (w : World) (hf : KFunc lm w f cs) : Calls Tryz.prog 79 #[.agg cs.toArray] w (Ret (.int .i64 (countOf f)) w) := by
  obtain ⟨v1, v2, rfl, hp, hb⟩ := hf
  have hbd := Hd.mk hb.blocks
  obtain ⟨A1, c1, rfl, -, hl1, -⟩ := hp.sm
  obtain ⟨A2, c2, rfl, -, hl2, hb0⟩ := hb.sm
  clear hb hp
  unfold countOf
  generalize f.params.length = n at *
  generalize f.blocks = l at *
  generalize f.ret = r at *
  have hbl := fun o => (Below.refl w.heap.size w).al (Nat.le_refl _) o
  go_enter Tryz.func79, Tryz.ntmps79
  go_wp2
  go_loopw [3, 4] (fun s3 s4 wr => ∃ k : Nat, k ≤ l.length ∧ s4 = .int .i64 k ∧ s3 = .int .i64 (countIn n (l.take k)) ∧ Hd (Below (w.heap.size + 1) (w.alloc (.cells #[.slice A1 n c1, .int .i64 r, .slice A2 l.length c2] 35)) wr)) (fun _ s4 _ => l.length - (intOf s4).toNat)
  case atStart => exact ⟨0, Nat.zero_le _, rfl, by simp [countIn], ⟨Below.refl _ _⟩⟩
  case round =>
    obtain ⟨k, hk, rfl, rfl, hbr⟩ := hrel
    have k0 := bat hbr.out w.heap.size (by omega)
    simp at k0
    have hbw : Below w.heap.size w wr := (hbl _).trans (hbr.out.mono (by omega))
    have hc1 := countIn_bd n l k hbd.out hk
    have hc2 := countIn_le n (l.take k)
    by_cases hlt : k < l.length
    · obtain ⟨b, off, cs, hA, hbl', ⟨v1, v2, rfl, hr, hr2⟩, hat⟩ := hb0.out.in0 hbw k hlt
      cases hA
      have g0 := hat 0 _ rfl
      have g1 := hat 1 _ rfl
      clear hat
      simp at g0 g1
      obtain ⟨A1, c1, rfl, -, hl3, -⟩ := hr.sm
      obtain ⟨A2, c2, rfl, -, hl4, -⟩ := hr2.sm
      have hsn := Hd.mk (countIn_snoc n l k hlt)
      have hsz := Hd.mk (show sizeB l[k] = l[k].phis.length + l[k].insts.length from rfl)
      generalize countIn n (l.take k) = s at *
      have hltz : (k : Int) < (l.length : Int) := by omega
      have hk0 : (0 : Int) ≤ (k : Int) := by omega
      have e1 : IntKind.i64.wrap ((l[k].phis.length : Int) + (l[k].insts.length : Int)) = (l[k].phis.length : Int) + (l[k].insts.length : Int) := IntWalk.i64_in _ (by omega)
      have e2 : IntKind.i64.wrap (s + ((l[k].phis.length : Int) + (l[k].insts.length : Int))) = s + ((l[k].phis.length : Int) + (l[k].insts.length : Int)) := IntWalk.i64_in _ (by omega)
      generalize l[k].phis.length = p1 at *
      generalize l[k].insts.length = p2 at *
      go_wp2
      go_quiet (fail)
      clear e1 e2
      go_wp2
      go_roundw
      case rel => exact ⟨k + 1, by omega, by go_num, by rw [hsn.out, hsz.out], ⟨pw_drewN hbr.out _⟩⟩
      case measure => simp [intOf]; omega
    · have e : k = l.length := by omega
      subst e
      go_wp2
      go_ret
      exact ⟨by rw [List.take_length]; rfl, hbw⟩
end Go.Proofs.YtkcgejbnhpccdaaGreat
