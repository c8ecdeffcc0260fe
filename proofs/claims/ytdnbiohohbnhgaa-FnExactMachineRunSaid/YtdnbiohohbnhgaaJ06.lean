/- Contracts of the reference's l17Regs and l17Ins. No conditions but that the operation's number is an int64. -/
import Derived.Test.YtdnbiohohbnhgaaJ05
set_option linter.unusedSimpArgs false
set_option linter.unusedVariables false
namespace Go.Proofs.Ytdnbiohohbnhgaa
open Go.RowKit
theorem s_l17Regs (r : Int) (x : XMIns) (w : World) (hr : 1 ≤ r ∧ r ≤ 130) : Calls Try.prog 97 #[minsV x, .int .i64 r] w (Ret (.bool (regs4 r x)) w) := by
  have h := fun n W => s_l1In n 0 (r - 1) W
  change ∀ n W, Calls Try.prog 36 #[.int .i64 n, .int .i64 0, .int .i64 (r - 1)] W (Same (.bool (regB r n)) W) at h
  have hbl := fun o => (Below.refl w.heap.size w).al (Nat.le_refl _) o
  have hm := Hd.mk (show regs4 r x = (regB r x.d && (regB r x.a && (regB r x.b && regB r x.c))) by unfold regs4; simp only [Bool.and_assoc])
  generalize regs4 r x = R at *
  unfold minsV
  obtain ⟨r1, r2⟩ := hr
  go_enter Try.func97, Try.ntmps97
  go_wp2_with fail
  refine (h _ _).mono ?_; rintro e w1 ⟨rfl, rfl⟩
  cases hq : regB r x.d
  · replace hm := Hd.mk (show R = false by rw [hm.out, hq]; rfl)
    clear hq
    go_wp2
    go_ret
    exact ⟨by rw [hm.out]; rfl, by first | exact Below.refl _ _ | exact hbl _⟩
  replace hm := Hd.mk (show R = (regB r x.a && (regB r x.b && regB r x.c)) by rw [hm.out, hq]; rfl)
  clear hq
  go_wp2_with fail
  refine (h _ _).mono ?_; rintro e w1 ⟨rfl, rfl⟩
  cases hq : regB r x.a
  · replace hm := Hd.mk (show R = false by rw [hm.out, hq]; rfl)
    clear hq
    go_wp2
    go_ret
    exact ⟨by rw [hm.out]; rfl, by first | exact Below.refl _ _ | exact hbl _⟩
  replace hm := Hd.mk (show R = (regB r x.b && regB r x.c) by rw [hm.out, hq]; rfl)
  clear hq
  go_wp2_with fail
  refine (h _ _).mono ?_; rintro e w1 ⟨rfl, rfl⟩
  cases hq : regB r x.b
  · replace hm := Hd.mk (show R = false by rw [hm.out, hq]; rfl)
    clear hq
    go_wp2
    go_ret
    exact ⟨by rw [hm.out]; rfl, by first | exact Below.refl _ _ | exact hbl _⟩
  replace hm := Hd.mk (show R = regB r x.c by rw [hm.out, hq]; rfl)
  clear hq
  go_wp2_with fail
  refine (h _ _).mono ?_; rintro e w1 ⟨rfl, rfl⟩
  go_wp2
  go_ret
  exact ⟨by rw [hm.out]; rfl, by first | exact Below.refl _ _ | exact hbl _⟩
set_option maxRecDepth 20000 in
set_option maxHeartbeats 8000000 in
theorem s_l17Ins (r : Int) (n : Nat) (x : XMIns) (w : World) (hr : 1 ≤ r ∧ r ≤ 130) (hn : n ≤ 1048576) : Calls Try.prog 59 #[minsV x, .int .i64 r, .int .i64 n] w (Ret (.bool (insS r n x)) w) := by
  have hbl := fun o => (Below.refl w.heap.size w).al (Nat.le_refl _) o
  have hq := fun W => s_l17Regs r x W hr
  have h := fun n lo hi W => s_l1In n lo hi W
  have hwd := fun n W => s_WidthOk n W
  have hvl := fun W => s_l1Value x.w x.imm W
  obtain ⟨W0, hW0⟩ : ∃ W0 : World, W0 = w.alloc (.cells #[.int .i64 x.op, .int .i64 x.w, .int .i64 x.d, .int .i64 x.a, .int .i64 x.b, .int .i64 x.c, .int .i64 x.imm] 71) := ⟨_, rfl⟩
  have hW0' := Hd.mk hW0
  clear hW0
  unfold minsV at *
  have hb0 : Below w.heap.size w W0 := by rw [hW0'.out]; exact hbl _
  have hz0 : W0.heap.size = w.heap.size + 1 := by rw [hW0'.out]; simp
  have hcell : ∀ W, Below W0.heap.size W0 W → W.cell? ⟨w.heap.size, 0, none⟩ = some (.int .i64 x.op) ∧ W.cell? ⟨w.heap.size, 1, none⟩ = some (.int .i64 x.w) ∧ W.cell? ⟨w.heap.size, 2, none⟩ = some (.int .i64 x.d) ∧ W.cell? ⟨w.heap.size, 3, none⟩ = some (.int .i64 x.a) ∧ W.cell? ⟨w.heap.size, 4, none⟩ = some (.int .i64 x.b) ∧ W.cell? ⟨w.heap.size, 5, none⟩ = some (.int .i64 x.c) ∧ W.cell? ⟨w.heap.size, 6, none⟩ = some (.int .i64 x.imm) := fun W hW => by
    have k0 := bat hW w.heap.size (by omega)
    rw [hW0'.out] at k0
    refine ⟨(k0 0).trans ?_, (k0 1).trans ?_, (k0 2).trans ?_, (k0 3).trans ?_, (k0 4).trans ?_, (k0 5).trans ?_, (k0 6).trans ?_⟩ <;> simp
  have hb0' := Hd.mk hb0
  have hcell' := Hd.mk hcell
  clear hb0 hcell
  generalize hR : insS r n x = R
  have hR' := Hd.mk hR.symm
  clear hR hz0
  unfold insS at hR'
  obtain ⟨op, wd, d, a, b, c, imm⟩ := x
  simp only at *
  have o0 : True := trivial
  by_cases o : op = 31
  · subst o
    rw [if_pos (Or.inl rfl)] at hR'
    generalize regs4 r _ = q at *
    clear o0
    go_enter Try.func59, Try.ntmps59
    go_wp2_with fail
    rw [← hW0'.out]
    refine (hq _).mono ?_; rintro e w1 ⟨rfl, hb1⟩
    obtain ⟨c0, c1, c2, c3, c4, c5, c6⟩ := hcell'.out _ hb1
    have hb1' := Hd.mk (hb0'.out.then hb1)
    clear hb1 hcell' hb0' hW0' hq
    go_wp2_with (first | (go_at_call 36; refine (h _ _ _ _).mono ?_; rintro e w2 ⟨rfl, rfl⟩) | (go_at_call 48; refine (hwd _ _).mono ?_; rintro e w2 ⟨rfl, rfl⟩) | (go_at_call 60; refine (hvl _).mono ?_; rintro e w2 ⟨rfl, rfl⟩))
    all_goals
      go_ret
      exact ⟨by rw [hR'.out]; simp [z0, *], hb1'.out⟩
  have n31 := beqF o
  have m31 := o
  clear o
  by_cases o : op = 32
  · subst o
    rw [if_pos (Or.inr rfl)] at hR'
    generalize regs4 r _ = q at *
    clear o0
    go_enter Try.func59, Try.ntmps59
    go_wp2_with fail
    rw [← hW0'.out]
    refine (hq _).mono ?_; rintro e w1 ⟨rfl, hb1⟩
    obtain ⟨c0, c1, c2, c3, c4, c5, c6⟩ := hcell'.out _ hb1
    have hb1' := Hd.mk (hb0'.out.then hb1)
    clear hb1 hcell' hb0' hW0' hq
    go_wp2_with (first | (go_at_call 36; refine (h _ _ _ _).mono ?_; rintro e w2 ⟨rfl, rfl⟩) | (go_at_call 48; refine (hwd _ _).mono ?_; rintro e w2 ⟨rfl, rfl⟩) | (go_at_call 60; refine (hvl _).mono ?_; rintro e w2 ⟨rfl, rfl⟩))
    all_goals
      go_ret
      exact ⟨by rw [hR'.out]; simp [z0, *], hb1'.out⟩
  have n32 := beqF o
  have m32 := o
  clear o
  by_cases o : op = 34
  · subst o
    rw [if_neg (by decide), if_pos rfl] at hR'
    generalize regs4 r _ = q at *
    clear o0
    go_enter Try.func59, Try.ntmps59
    go_wp2_with fail
    rw [← hW0'.out]
    refine (hq _).mono ?_; rintro e w1 ⟨rfl, hb1⟩
    obtain ⟨c0, c1, c2, c3, c4, c5, c6⟩ := hcell'.out _ hb1
    have hb1' := Hd.mk (hb0'.out.then hb1)
    clear hb1 hcell' hb0' hW0' hq
    go_wp2_with (first | (go_at_call 36; refine (h _ _ _ _).mono ?_; rintro e w2 ⟨rfl, rfl⟩) | (go_at_call 48; refine (hwd _ _).mono ?_; rintro e w2 ⟨rfl, rfl⟩) | (go_at_call 60; refine (hvl _).mono ?_; rintro e w2 ⟨rfl, rfl⟩))
    all_goals
      go_ret
      exact ⟨by rw [hR'.out]; simp [z0, *], hb1'.out⟩
  have n34 := beqF o
  have m34 := o
  clear o
  by_cases o : op = 33
  · subst o
    rw [if_neg (by decide), if_neg (by decide), if_pos (Or.inl rfl)] at hR'
    generalize regs4 r _ = q at *
    clear o0
    go_enter Try.func59, Try.ntmps59
    go_wp2_with fail
    rw [← hW0'.out]
    refine (hq _).mono ?_; rintro e w1 ⟨rfl, hb1⟩
    obtain ⟨c0, c1, c2, c3, c4, c5, c6⟩ := hcell'.out _ hb1
    have hb1' := Hd.mk (hb0'.out.then hb1)
    clear hb1 hcell' hb0' hW0' hq
    go_wp2_with (first | (go_at_call 36; refine (h _ _ _ _).mono ?_; rintro e w2 ⟨rfl, rfl⟩) | (go_at_call 48; refine (hwd _ _).mono ?_; rintro e w2 ⟨rfl, rfl⟩) | (go_at_call 60; refine (hvl _).mono ?_; rintro e w2 ⟨rfl, rfl⟩))
    all_goals
      go_ret
      exact ⟨by rw [hR'.out]; simp [z0, *], hb1'.out⟩
  have n33 := beqF o
  have m33 := o
  clear o
  by_cases o : op = 35
  · subst o
    rw [if_neg (by decide), if_neg (by decide), if_pos (Or.inr rfl)] at hR'
    generalize regs4 r _ = q at *
    clear o0
    go_enter Try.func59, Try.ntmps59
    go_wp2_with fail
    rw [← hW0'.out]
    refine (hq _).mono ?_; rintro e w1 ⟨rfl, hb1⟩
    obtain ⟨c0, c1, c2, c3, c4, c5, c6⟩ := hcell'.out _ hb1
    have hb1' := Hd.mk (hb0'.out.then hb1)
    clear hb1 hcell' hb0' hW0' hq
    go_wp2_with (first | (go_at_call 36; refine (h _ _ _ _).mono ?_; rintro e w2 ⟨rfl, rfl⟩) | (go_at_call 48; refine (hwd _ _).mono ?_; rintro e w2 ⟨rfl, rfl⟩) | (go_at_call 60; refine (hvl _).mono ?_; rintro e w2 ⟨rfl, rfl⟩))
    all_goals
      go_ret
      exact ⟨by rw [hR'.out]; simp [z0, *], hb1'.out⟩
  have n35 := beqF o
  have m35 := o
  clear o
  by_cases o : op = 21
  · subst o
    rw [if_neg (by decide), if_neg (by decide), if_neg (by decide), if_pos rfl] at hR'
    generalize regs4 r _ = q at *
    clear o0
    go_enter Try.func59, Try.ntmps59
    go_wp2_with fail
    rw [← hW0'.out]
    refine (hq _).mono ?_; rintro e w1 ⟨rfl, hb1⟩
    obtain ⟨c0, c1, c2, c3, c4, c5, c6⟩ := hcell'.out _ hb1
    have hb1' := Hd.mk (hb0'.out.then hb1)
    clear hb1 hcell' hb0' hW0' hq
    go_wp2_with (first | (go_at_call 36; refine (h _ _ _ _).mono ?_; rintro e w2 ⟨rfl, rfl⟩) | (go_at_call 48; refine (hwd _ _).mono ?_; rintro e w2 ⟨rfl, rfl⟩) | (go_at_call 60; refine (hvl _).mono ?_; rintro e w2 ⟨rfl, rfl⟩))
    all_goals
      go_ret
      exact ⟨by rw [hR'.out]; simp [z0, *], hb1'.out⟩
  have n21 := beqF o
  have m21 := o
  clear o
  rw [if_neg (by simp [m31, m32]), if_neg m34, if_neg (by simp [m33, m35]), if_neg m21] at hR'
  by_cases hi : imm = 0
  rotate_left
  · rw [if_pos hi] at hR'
    have n0 := bneT hi
    generalize regs4 r _ = q at *
    clear o0
    go_enter Try.func59, Try.ntmps59
    go_wp2_with fail
    rw [← hW0'.out]
    refine (hq _).mono ?_; rintro e w1 ⟨rfl, hb1⟩
    obtain ⟨c0, c1, c2, c3, c4, c5, c6⟩ := hcell'.out _ hb1
    have hb1' := Hd.mk (hb0'.out.then hb1)
    clear hb1 hcell' hb0' hW0' hq
    go_wp2_with (first | (go_at_call 36; refine (h _ _ _ _).mono ?_; rintro e w2 ⟨rfl, rfl⟩) | (go_at_call 48; refine (hwd _ _).mono ?_; rintro e w2 ⟨rfl, rfl⟩) | (go_at_call 60; refine (hvl _).mono ?_; rintro e w2 ⟨rfl, rfl⟩))
    all_goals
      go_ret
      exact ⟨by rw [hR'.out]; simp [z0, *], hb1'.out⟩
  rw [if_neg (by simp [hi])] at hR'
  subst hi
  have e1 : inR op 1 17 = bin op := rfl
  have e2 : inR op 18 20 = cst op := rfl
  cases hbn : bin op
  rotate_left
  · rw [hbn, if_pos rfl] at hR'
    rw [hbn] at e1
    clear hbn e2
    generalize regs4 r _ = q at *
    clear o0
    go_enter Try.func59, Try.ntmps59
    go_wp2_with fail
    rw [← hW0'.out]
    refine (hq _).mono ?_; rintro e w1 ⟨rfl, hb1⟩
    obtain ⟨c0, c1, c2, c3, c4, c5, c6⟩ := hcell'.out _ hb1
    have hb1' := Hd.mk (hb0'.out.then hb1)
    clear hb1 hcell' hb0' hW0' hq
    go_wp2_with (first | (go_at_call 36; refine (h _ _ _ _).mono ?_; rintro e w2 ⟨rfl, rfl⟩) | (go_at_call 48; refine (hwd _ _).mono ?_; rintro e w2 ⟨rfl, rfl⟩) | (go_at_call 60; refine (hvl _).mono ?_; rintro e w2 ⟨rfl, rfl⟩))
    all_goals
      go_ret
      exact ⟨by rw [hR'.out]; simp [z0, *], hb1'.out⟩
  rw [hbn, if_neg (by decide)] at hR'
  rw [hbn] at e1
  cases hcs : cst op
  rotate_left
  · rw [hcs, if_pos rfl] at hR'
    rw [hcs] at e2
    clear hbn hcs
    have hd := fun W => h d 0 (r - 1) W
    change ∀ W, Calls Try.prog 36 #[.int .i64 d, .int .i64 0, .int .i64 (r - 1)] W (Same (.bool (regB r d)) W) at hd
    have ha := fun W => h a 0 (r - 1) W
    change ∀ W, Calls Try.prog 36 #[.int .i64 a, .int .i64 0, .int .i64 (r - 1)] W (Same (.bool (regB r a)) W) at ha
    simp only [Bool.and_assoc] at hR'
    go_enter Try.func59, Try.ntmps59
    go_wp2_with fail
    rw [← hW0'.out]
    refine (hq _).mono ?_; rintro e w1 ⟨rfl, hb1⟩
    obtain ⟨c0, c1, c2, c3, c4, c5, c6⟩ := hcell'.out _ hb1
    have hb1' := Hd.mk (hb0'.out.then hb1)
    clear hb1 hcell' hb0' hW0' hq
    go_wp2_with fail
    refine (h _ _ _ _).mono ?_; rintro e w2 ⟨rfl, rfl⟩
    go_wp2_with fail
    refine (h _ _ _ _).mono ?_; rintro e w2 ⟨rfl, rfl⟩
    rw [e2]
    go_wp2_with fail
    refine (hd _).mono ?_; rintro e w2 ⟨rfl, rfl⟩
    cases hx : regB r d
    · replace hR' := Hd.mk (show R = false by rw [hR'.out, hx]; rfl)
      go_wp2
      go_ret
      exact ⟨by rw [hR'.out]; rfl, hb1'.out⟩
    rw [hx, Bool.true_and] at hR'
    clear hx
    go_wp2_with fail
    refine (ha _).mono ?_; rintro e w2 ⟨rfl, rfl⟩
    cases hx : regB r a
    · replace hR' := Hd.mk (show R = false by rw [hR'.out, hx]; rfl)
      go_wp2
      go_ret
      exact ⟨by rw [hR'.out]; rfl, hb1'.out⟩
    rw [hx, Bool.true_and] at hR'
    clear hx
    go_wp2_with fail
    refine (hwd _ _).mono ?_; rintro e w2 ⟨rfl, rfl⟩
    cases hx : widthOk wd
    · replace hR' := Hd.mk (show R = false by rw [hR'.out, hx]; rfl)
      go_wp2
      go_ret
      exact ⟨by rw [hR'.out]; rfl, hb1'.out⟩
    rw [hx, Bool.true_and] at hR'
    clear hx
    go_wp2_with fail
    refine (hwd _ _).mono ?_; rintro e w2 ⟨rfl, rfl⟩
    cases hx : widthOk c
    · replace hR' := Hd.mk (show R = false by rw [hR'.out, hx]; rfl)
      go_wp2
      go_ret
      exact ⟨by rw [hR'.out]; rfl, hb1'.out⟩
    rw [hx, Bool.true_and] at hR'
    clear hx
    have key : ∀ (bo bc bn bz : Bool), (op == 20) = bo → decide (c > wd) = bc → (c != wd) = bn → (b == 0) = bz → R = ((bo == bc) && (bn && bz)) := fun bo bc bn bz h1 h2 h3 h4 => by rw [hR'.out, h1, h2, h3]; unfold z0; rw [h4]
    have key' := Hd.mk key
    clear key hR' e1 e2 h hwd hvl hd ha
    by_cases o : op = 20
    · subst o
      by_cases l : wd < c
      · have l1 : decide (wd < c) = true := by simpa using l
        have l2 : (c != wd) = true := bneT (by omega)
        by_cases z : b = 0
        · subst z
          have hf := Hd.mk (key'.out _ _ _ _ rfl l1 l2 rfl)
          go_wp2
          go_ret
          exact ⟨by rw [hf.out]; rfl, hb1'.out⟩
        · have hf := Hd.mk (key'.out _ _ _ _ rfl l1 l2 (beqF z))
          have z' := beqF z
          go_wp2
          go_ret
          exact ⟨by rw [hf.out]; rfl, hb1'.out⟩
      · have l1 : decide (wd < c) = false := by simpa using l
        have hf := Hd.mk (key'.out _ _ _ _ rfl l1 rfl rfl)
        go_wp2
        go_ret
        exact ⟨by rw [hf.out]; rfl, hb1'.out⟩
    · have no := beqF o
      by_cases l : wd < c
      · have l1 : decide (wd < c) = true := by simpa using l
        have hf := Hd.mk (key'.out _ _ _ _ no l1 rfl rfl)
        go_wp2
        go_ret
        exact ⟨by rw [hf.out]; rfl, hb1'.out⟩
      · have l1 : decide (wd < c) = false := by simpa using l
        by_cases e : c = wd
        · have l2 : (c != wd) = false := by simpa using e
          have hf := Hd.mk (key'.out _ _ _ _ no l1 l2 rfl)
          go_wp2
          go_ret
          exact ⟨by rw [hf.out]; rfl, hb1'.out⟩
        · have l2 := bneT e
          by_cases z : b = 0
          · subst z
            have hf := Hd.mk (key'.out _ _ _ _ no l1 l2 rfl)
            go_wp2
            go_ret
            exact ⟨by rw [hf.out]; rfl, hb1'.out⟩
          · have z' := beqF z
            have hf := Hd.mk (key'.out _ _ _ _ no l1 l2 z')
            go_wp2
            go_ret
            exact ⟨by rw [hf.out]; rfl, hb1'.out⟩
  rw [hcs, if_neg (by decide)] at hR'
  rw [hcs] at e2
  clear hbn hcs
  by_cases o : op = 22
  · subst o
    rw [if_pos rfl] at hR'
    generalize regs4 r _ = q at *
    clear o0
    go_enter Try.func59, Try.ntmps59
    go_wp2_with fail
    rw [← hW0'.out]
    refine (hq _).mono ?_; rintro e w1 ⟨rfl, hb1⟩
    obtain ⟨c0, c1, c2, c3, c4, c5, c6⟩ := hcell'.out _ hb1
    have hb1' := Hd.mk (hb0'.out.then hb1)
    clear hb1 hcell' hb0' hW0' hq
    go_wp2_with (first | (go_at_call 36; refine (h _ _ _ _).mono ?_; rintro e w2 ⟨rfl, rfl⟩) | (go_at_call 48; refine (hwd _ _).mono ?_; rintro e w2 ⟨rfl, rfl⟩) | (go_at_call 60; refine (hvl _).mono ?_; rintro e w2 ⟨rfl, rfl⟩))
    all_goals
      go_ret
      exact ⟨by rw [hR'.out]; simp [z0, *], hb1'.out⟩
  have n22 := beqF o
  rw [if_neg o] at hR'
  clear o
  by_cases o : op = 23
  · subst o
    rw [if_pos rfl] at hR'
    generalize regs4 r _ = q at *
    clear o0
    go_enter Try.func59, Try.ntmps59
    go_wp2_with fail
    rw [← hW0'.out]
    refine (hq _).mono ?_; rintro e w1 ⟨rfl, hb1⟩
    obtain ⟨c0, c1, c2, c3, c4, c5, c6⟩ := hcell'.out _ hb1
    have hb1' := Hd.mk (hb0'.out.then hb1)
    clear hb1 hcell' hb0' hW0' hq
    go_wp2_with (first | (go_at_call 36; refine (h _ _ _ _).mono ?_; rintro e w2 ⟨rfl, rfl⟩) | (go_at_call 48; refine (hwd _ _).mono ?_; rintro e w2 ⟨rfl, rfl⟩) | (go_at_call 60; refine (hvl _).mono ?_; rintro e w2 ⟨rfl, rfl⟩))
    all_goals
      go_ret
      exact ⟨by rw [hR'.out]; simp [z0, *], hb1'.out⟩
  have n23 := beqF o
  rw [if_neg o] at hR'
  clear o
  by_cases o : op = 24
  · subst o
    rw [if_pos rfl] at hR'
    generalize regs4 r _ = q at *
    clear o0
    go_enter Try.func59, Try.ntmps59
    go_wp2_with fail
    rw [← hW0'.out]
    refine (hq _).mono ?_; rintro e w1 ⟨rfl, hb1⟩
    obtain ⟨c0, c1, c2, c3, c4, c5, c6⟩ := hcell'.out _ hb1
    have hb1' := Hd.mk (hb0'.out.then hb1)
    clear hb1 hcell' hb0' hW0' hq
    go_wp2_with (first | (go_at_call 36; refine (h _ _ _ _).mono ?_; rintro e w2 ⟨rfl, rfl⟩) | (go_at_call 48; refine (hwd _ _).mono ?_; rintro e w2 ⟨rfl, rfl⟩) | (go_at_call 60; refine (hvl _).mono ?_; rintro e w2 ⟨rfl, rfl⟩))
    all_goals
      go_ret
      exact ⟨by rw [hR'.out]; simp [z0, *], hb1'.out⟩
  have n24 := beqF o
  rw [if_neg o] at hR'
  clear o
  by_cases o : op = 25
  · subst o
    rw [if_pos rfl] at hR'
    generalize regs4 r _ = q at *
    clear o0
    go_enter Try.func59, Try.ntmps59
    go_wp2_with fail
    rw [← hW0'.out]
    refine (hq _).mono ?_; rintro e w1 ⟨rfl, hb1⟩
    obtain ⟨c0, c1, c2, c3, c4, c5, c6⟩ := hcell'.out _ hb1
    have hb1' := Hd.mk (hb0'.out.then hb1)
    clear hb1 hcell' hb0' hW0' hq
    go_wp2_with (first | (go_at_call 36; refine (h _ _ _ _).mono ?_; rintro e w2 ⟨rfl, rfl⟩) | (go_at_call 48; refine (hwd _ _).mono ?_; rintro e w2 ⟨rfl, rfl⟩) | (go_at_call 60; refine (hvl _).mono ?_; rintro e w2 ⟨rfl, rfl⟩))
    all_goals
      go_ret
      exact ⟨by rw [hR'.out]; simp [z0, *], hb1'.out⟩
  have n25 := beqF o
  rw [if_neg o] at hR'
  clear o
  generalize regs4 r _ = q at *
  clear o0
  go_enter Try.func59, Try.ntmps59
  go_wp2_with fail
  rw [← hW0'.out]
  refine (hq _).mono ?_; rintro e w1 ⟨rfl, hb1⟩
  obtain ⟨c0, c1, c2, c3, c4, c5, c6⟩ := hcell'.out _ hb1
  have hb1' := Hd.mk (hb0'.out.then hb1)
  clear hb1 hcell' hb0' hW0' hq
  go_wp2_with (first | (go_at_call 36; refine (h _ _ _ _).mono ?_; rintro e w2 ⟨rfl, rfl⟩) | (go_at_call 48; refine (hwd _ _).mono ?_; rintro e w2 ⟨rfl, rfl⟩) | (go_at_call 60; refine (hvl _).mono ?_; rintro e w2 ⟨rfl, rfl⟩))
  all_goals
    go_ret
    exact ⟨by rw [hR'.out]; simp [z0, *], hb1'.out⟩
end Go.Proofs.Ytdnbiohohbnhgaa
