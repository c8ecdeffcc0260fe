/- The contract of isInst. No conditions. -/
import Derived.Test.YtdnbiohohbnhgaaC3
set_option linter.unusedSimpArgs false
set_option linter.unusedVariables false
namespace Go.Proofs.Ytdnbiohohbnhgaa
open Go.RowKit
theorem rd_at (W : World) (g off c : Nat) (xs : List Int) (hc : xs.length ≤ c) (hl : xs.length ≤ 1048576) (hb : g < W.heap.size) (h : ∀ j (h : j < xs.length), W.cell? ⟨g, off + j, none⟩ = some (.int .i64 xs[j])) : RI lm W (.slice (some ⟨g, off, none⟩) xs.length c) xs :=
  ⟨_, c, rfl, hc, hl, fun h => (by cases h), fun _ => ⟨g, off, rfl, hb, fun i hi => ⟨_, rfl, rfl, fun j hj => by
    obtain rfl : j = 0 := by simpa using hj
    simpa using h i hi⟩⟩⟩
theorem c_isWidth (i : XInst) (v : Value) (w : World) : Calls Try.prog 121 #[instV i v] w (Ret (.bool (wFits i)) w) := by
  obtain ⟨op, wd, a, b, c, imm, args⟩ := i
  simp only [instV]
  have hbl := fun o => (Below.refl w.heap.size w).al (Nat.le_refl _) o
  by_cases h1 : op = 24
  · subst h1
    go_enter Try.func121, Try.ntmps121
    go_wp2
    go_ret
    exact ⟨rfl, hbl _⟩
  by_cases h2 : op = 25
  · subst h2
    go_enter Try.func121, Try.ntmps121
    go_wp2
    go_ret
    exact ⟨rfl, hbl _⟩
  by_cases h3 : op = 23
  · subst h3
    go_enter Try.func121, Try.ntmps121
    go_wp2
    go_ret
    exact ⟨rfl, hbl _⟩
  · rw [show wFits ⟨op, wd, a, b, c, imm, args⟩ = widthOk wd by simp [wFits, h1, h2, h3]]
    go_enter Try.func121, Try.ntmps121
    go_wp2_with (go_at_call 69; refine (c_WidthOk _ _).mono ?_; rintro e w' ⟨rfl, rfl⟩)
    go_ret
    exact ⟨rfl, hbl _⟩
theorem c_isImm (i : XInst) (v : Value) (funcs : Int) (w : World) (hf : 0 ≤ funcs) (hf2 : funcs ≤ 1048576) : Calls Try.prog 122 #[instV i v, .int .i64 funcs] w (Ret (.bool (immFits i funcs)) w) := by
  obtain ⟨op, wd, a, b, c, imm, args⟩ := i
  simp only [instV]
  have hbl := fun o => (Below.refl w.heap.size w).al (Nat.le_refl _) o
  by_cases h1 : op = 21
  · subst h1
    go_enter Try.func122, Try.ntmps122
    go_wp2_with (go_at_call 74; refine (c_isValue _ _ _).mono ?_; rintro e w' ⟨rfl, rfl⟩)
    go_ret
    exact ⟨rfl, hbl _⟩
  by_cases h2 : op = 26
  · subst h2
    go_enter Try.func122, Try.ntmps122
    go_wp2_with (go_at_call 42; refine (c_within _ _ _ _).mono ?_; rintro e w' ⟨rfl, rfl⟩)
    go_ret
    exact ⟨rfl, hbl _⟩
  · rw [show immFits ⟨op, wd, a, b, c, imm, args⟩ funcs = (imm == 0) by simp [immFits, h1, h2]]
    go_enter Try.func122, Try.ntmps122
    go_wp2
    go_ret
    exact ⟨rfl, hbl _⟩
/-- The tests ahead of the list of ids. -/
def instPre (i : XInst) : Bool := inR i.op 1 27 && decide (i.args.length ≤ 4) && (i.args.isEmpty || i.op == 26)
theorem instOk_pre (ids funcs : Int) (i : XInst) : instOk ids funcs i = (instPre i && ((opsOf i).all (isIdB ids) && (([i.a, i.b, i.c].drop (ownN i)).all (· == 0) && (wFits i && immFits i funcs)))) := by
  simp only [instOk, instPre, Bool.and_assoc]
theorem pb_isInst1 (W : World) (b : Nat) (ids : Int) (hb : b < W.heap.size) (hc : W.cell? ⟨b, 0, none⟩ = some (.int .i64 ids)) (h : 0 ≤ ids) (h2 : ids ≤ 1048576) :
    PB Try.prog 119 #[.pointer (some ⟨b, 0, none⟩)] KInt arg1 (fun id => !isIdB ids id) W := fun W' x cs hW hk => by
  cases hk
  exact Same.ret (c_isInst1 x ids b W' ((hW.cell (p := ⟨b, 0, none⟩) hb).trans hc) (by omega) (by omega))
theorem pb_isInst2 (W : World) : PB Try.prog 120 #[] KInt arg1 (fun n => n != 0) W := fun W' x cs hW hk => by
  cases hk
  exact Same.ret (c_isInst2 x W')
theorem any_ne (l : List Int) : (l.any fun n => n != 0) = !(l.all fun n => n == 0) := any_not (fun n => n == 0) l
theorem three (W : World) (a b c : Int) (n : Nat) (hn : n ≤ 2) : RI lm (W.alloc (.cells #[.int .i64 a, .int .i64 b, .int .i64 c] 2)) (.slice (some ⟨W.heap.size, n, none⟩) (3 - n) (3 - n)) ([a, b, c].drop n) := by
  have h := rd_at (W.alloc (.cells #[.int .i64 a, .int .i64 b, .int .i64 c] 2)) W.heap.size n (3 - n) ([a, b, c].drop n) (by simp) (by simp; omega) (by simp) (fun j hj => by
    simp at hj ⊢
    have : (n = 0 ∧ j = 0) ∨ (n = 0 ∧ j = 1) ∨ (n = 0 ∧ j = 2) ∨ (n = 1 ∧ j = 0) ∨ (n = 1 ∧ j = 1) ∨ (n = 2 ∧ j = 0) := by omega
    rcases this with ⟨rfl, rfl⟩ | ⟨rfl, rfl⟩ | ⟨rfl, rfl⟩ | ⟨rfl, rfl⟩ | ⟨rfl, rfl⟩ | ⟨rfl, rfl⟩ <;> rfl)
  simpa using h
theorem three' (W : World) (a b c : Int) {n : Nat} {l : List Int} (_ : n = l.length) (hn : n ≤ 3) : RI lm (W.alloc (.cells #[.int .i64 a, .int .i64 b, .int .i64 c] 2)) (.slice (some ⟨W.heap.size, if n = 3 then 0 else n, none⟩) (3 - n) (3 - n)) ([a, b, c].drop n) := by
  by_cases h : n = 3
  · subst h
    exact ⟨_, 0, rfl, Nat.le_refl _, by simp, fun h => (by cases h), fun h => absurd h (by simp)⟩
  · rw [if_neg h]; exact three W a b c n (by omega)
set_option maxHeartbeats 2000000 in
theorem c_isInst26 (i : XInst) (v : Value) (ids funcs : Int) (w : World) (hv : RI lm w v i.args) (hi : 0 ≤ ids) (hi2 : ids ≤ 1048576) (hf : 0 ≤ funcs) (hf2 : funcs ≤ 1048576) (ho : i.op = 26) (hl4 : i.args.length ≤ 4) :
    Calls Try.prog 90 #[instV i v, .int .i64 ids, .int .i64 funcs] w (Ret (.bool (instOk ids funcs i)) w) := by
  have hin := c_within i.op 1 27
  have hops := c_OperandsOf i
  have hw0 := c_isWidth i
  have hm0 := c_isImm i
  obtain ⟨A, c, rfl, _, hl, hv0⟩ := hv.sm
  have e1 := enters_of Try.func119 (by kernel_rfl) rfl
  have e2 := enters_of Try.func120 (by kernel_rfl) rfl
  have hp := instOk_pre ids funcs i
  have hpre : instPre i = true := by simp [instPre, ho, hl4, inR]
  have hbl := fun o o' => ((Below.refl w.heap.size w).al (Nat.le_refl _) o).al (by simp) o'
  obtain ⟨op, wd, a, b, c0, imm, args⟩ := i
  simp only [instV] at *
  subst ho
  rw [hpre] at hp
  rw [show inR 26 1 27 = true from rfl] at hin
  rw [show ownN ⟨26, wd, a, b, c0, imm, args⟩ = 0 from rfl, show opsOf ⟨26, wd, a, b, c0, imm, args⟩ = args from rfl] at hp
  rw [show opsOf ⟨26, wd, a, b, c0, imm, args⟩ = args from rfl] at hops
  generalize instOk ids funcs _ = R at *
  generalize hQ : args.all _ = Q1 at *
  have hR := Hd.mk hp
  have hQ' := Hd.mk hQ
  clear hp hQ hpre
  have d4 : decide (4 < (args.length : Int)) = false := by simp; omega
  by_cases d0 : 0 < args.length
  all_goals
    go_enter Try.func90, Try.ntmps90
    go_wp2_with fail
    refine (hin _).mono ?_
    rintro e w' ⟨rfl, rfl⟩
    go_wp2_with fail
    refine (hops _ _ (hv0.out.mv (hbl _ _))).mono ?_
    rintro e w1 ⟨v', rfl, ho1, hb1⟩
    have hr1 : RI lm w1 v' args := (own_ints ho1 (by omega)).2
    obtain ⟨A1, c1, rfl, hcA, -, hr1'⟩ := hr1.sm
    clear ho1 hr1
    have hz1 := hb1.size
    simp at hz1
    have k0 := bat hb1 w.heap.size (by simp; omega)
    have k1 := bat hb1 (w.heap.size + 1) (by simp)
    simp at k0 k1
    have hbw := Hd.mk ((hbl _ _).then hb1)
    go_wp2_with fail
    have hcon := c_ConI _ args _ _ (fun id => !isIdB ids id) _ hr1'.out e1 (pb_isInst1 w1 (w.heap.size + 1) ids (by omega) (by rw [k1]; rfl) hi hi2)
    rw [any_not, hQ'.out] at hcon
    cases Q1 with
    | false =>
      refine hcon.mono ?_
      rintro e w2 ⟨rfl, hb2⟩
      clear hcon
      have e := hR.out
      simp at e
      subst e
      go_wp2
      go_ret
      exact ⟨rfl, hbw.out.then hb2⟩
    | true =>
      refine hcon.mono ?_
      rintro e w2 ⟨rfl, hb2⟩
      clear hcon
      have hz2 := hb2.size
      replace k0 := fun o => (bat hb2 w.heap.size (by omega) o).trans (k0 o)
      clear k1
      have hbw2 := Hd.mk (hbw.out.then hb2)
      go_wp2_with fail
      have hcon2 := c_ConI _ _ _ #[] (fun n => n != 0) _ (three w2 a b c0 0 (by omega)) e2 (pb_isInst2 _)
      rw [any_ne] at hcon2
      generalize hq3 : ([a, b, c0].drop 0).all _ = Q3 at hcon2
      have hR2 := hR.out
      rw [hq3] at hR2
      cases Q3 with
      | false =>
        refine hcon2.mono ?_
        rintro e w3 ⟨rfl, hb3⟩
        simp at hR2
        subst hR2
        go_wp2
        go_ret
        exact ⟨rfl, (hbw2.out.al hbw2.out.size _).then hb3⟩
      | true =>
        refine hcon2.mono ?_
        rintro e w3 ⟨rfl, hb3⟩
        replace k0 := fun o => (bat hb3 w.heap.size (by simp; omega) o).trans ((World.cell?_alloc_past _ _ _ (by omega)).trans (k0 o))
        have hbw3 := Hd.mk ((hbw2.out.al hbw2.out.size _).then hb3)
        go_wp2_with fail
        refine (hw0 _ _).mono ?_
        rintro e w4 ⟨rfl, hb4⟩
        have hbw4 := Hd.mk (hbw3.out.then hb4)
        have hz3 := hb3.size
        simp at hz3
        replace k0 := fun o => (bat hb4 w.heap.size (by omega) o).trans (k0 o)
        generalize wFits _ = Q4 at *
        cases Q4 with
        | false =>
          simp at hR2
          subst hR2
          go_wp2
          go_ret
          exact ⟨rfl, hbw4.out⟩
        | true =>
          simp at hR2
          go_wp2_with fail
          refine (hm0 _ _ _ hf hf2).mono ?_
          rintro e w5 ⟨rfl, hb5⟩
          go_wp2
          go_ret
          exact ⟨by rw [hR2]; rfl, hbw4.out.then hb5⟩
set_option maxHeartbeats 2000000 in
theorem c_isInstO (i : XInst) (v : Value) (ids funcs : Int) (w : World) (hv : RI lm w v i.args) (hi : 0 ≤ ids) (hi2 : ids ≤ 1048576) (hf : 0 ≤ funcs) (hf2 : funcs ≤ 1048576) (ho : i.op ≠ 26) (hin' : inR i.op 1 27 = true) (hl0 : i.args = []) :
    Calls Try.prog 90 #[instV i v, .int .i64 ids, .int .i64 funcs] w (Ret (.bool (instOk ids funcs i)) w) := by
  have hin := c_within i.op 1 27
  have hops := c_OperandsOf i
  have hw0 := c_isWidth i
  have hm0 := c_isImm i
  obtain ⟨A, c, rfl, _, hl, hv0⟩ := hv.sm
  have e1 := enters_of Try.func119 (by kernel_rfl) rfl
  have e2 := enters_of Try.func120 (by kernel_rfl) rfl
  have hp := instOk_pre ids funcs i
  have hpre : instPre i = true := by simp [instPre, hl0, hin']
  have hnO : ownN i = (opsOf i).length := by simp [ownN, ho]
  have hn3 : (opsOf i).length ≤ 3 := by rcases opsOf_le i with h | ⟨_, h⟩; exact h; exact absurd h ho
  have hbl := fun o o' => ((Below.refl w.heap.size w).al (Nat.le_refl _) o).al (by simp) o'
  obtain ⟨op, wd, a, b, c0, imm, args⟩ := i
  simp only [instV] at *
  subst hl0
  rw [hpre, hnO] at hp
  rw [hin'] at hin
  have bo := beqF ho
  generalize instOk ids funcs _ = R at *
  generalize opsOf _ = l at *
  generalize hQ : l.all _ = Q1 at *
  clear hnO hin'
  have hR := Hd.mk hp
  have hQ' := Hd.mk hQ
  clear hp hQ hpre
  obtain ⟨n, hn⟩ : ∃ n, n = l.length := ⟨_, rfl⟩
  have hq : n = 0 ∨ n = 1 ∨ n = 2 ∨ n = 3 := by omega
  clear ho
  rw [← hn] at hR
  have hn' := Hd.mk hn
  clear hn hn3
  rcases hq with rfl | rfl | rfl | rfl
  all_goals
    go_enter Try.func90, Try.ntmps90
    go_wp2_with fail
    refine (hin _).mono ?_
    rintro e w' ⟨rfl, rfl⟩
    go_wp2_with fail
    refine (hops _ _ (hv0.out.mv (hbl _ _))).mono ?_
    rintro e w1 ⟨v', rfl, ho1, hb1⟩
    have hr1 : RI lm w1 v' l := (own_ints ho1 (by have := hn'.out; simp only [lm]; omega)).2
    obtain ⟨A1, c1, rfl, hcA, -, hr1'⟩ := hr1.sm
    rw [← hn'.out] at hr1'
    rw [← hn'.out]
    clear hcA
    clear ho1 hr1
    have hz1 := hb1.size
    simp at hz1
    have k0 := bat hb1 w.heap.size (by simp; omega)
    have k1 := bat hb1 (w.heap.size + 1) (by simp)
    simp at k0 k1
    have hbw := Hd.mk ((hbl _ _).then hb1)
    go_wp2_with fail
    have hcon := c_ConI _ l _ _ (fun id => !isIdB ids id) _ hr1'.out e1 (pb_isInst1 w1 (w.heap.size + 1) ids (by omega) (by rw [k1]; rfl) hi hi2)
    rw [any_not, hQ'.out] at hcon
    cases Q1 with
    | false =>
      refine hcon.mono ?_
      rintro e w2 ⟨rfl, hb2⟩
      clear hcon
      have e := hR.out
      simp at e
      subst e
      go_wp2
      go_ret
      exact ⟨rfl, hbw.out.then hb2⟩
    | true =>
      refine hcon.mono ?_
      rintro e w2 ⟨rfl, hb2⟩
      clear hcon
      have hz2 := hb2.size
      replace k0 := fun o => (bat hb2 w.heap.size (by omega) o).trans (k0 o)
      clear k1
      have hbw2 := Hd.mk (hbw.out.then hb2)
      go_wp2_with fail
      have hcon2 := c_ConI _ _ _ #[] (fun n => n != 0) _ (three' w2 a b c0 hn'.out (by omega)) e2 (pb_isInst2 _)
      rw [any_ne] at hcon2
      generalize hq3 : (List.drop _ [a, b, c0]).all _ = Q3 at hcon2
      have hR2 := hR.out
      rw [hq3] at hR2
      cases Q3 with
      | false =>
        refine hcon2.mono ?_
        rintro e w3 ⟨rfl, hb3⟩
        simp at hR2
        subst hR2
        go_wp2
        go_ret
        exact ⟨rfl, (hbw2.out.al hbw2.out.size _).then hb3⟩
      | true =>
        refine hcon2.mono ?_
        rintro e w3 ⟨rfl, hb3⟩
        replace k0 := fun o => (bat hb3 w.heap.size (by simp; omega) o).trans ((World.cell?_alloc_past _ _ _ (by omega)).trans (k0 o))
        have hbw3 := Hd.mk ((hbw2.out.al hbw2.out.size _).then hb3)
        go_wp2_with fail
        refine (hw0 _ _).mono ?_
        rintro e w4 ⟨rfl, hb4⟩
        have hbw4 := Hd.mk (hbw3.out.then hb4)
        have hz3 := hb3.size
        simp at hz3
        replace k0 := fun o => (bat hb4 w.heap.size (by omega) o).trans (k0 o)
        generalize wFits _ = Q4 at *
        cases Q4 with
        | false =>
          simp at hR2
          subst hR2
          go_wp2
          go_ret
          exact ⟨rfl, hbw4.out⟩
        | true =>
          simp at hR2
          go_wp2_with fail
          refine (hm0 _ _ _ hf hf2).mono ?_
          rintro e w5 ⟨rfl, hb5⟩
          go_wp2
          go_ret
          exact ⟨by rw [hR2]; rfl, hbw4.out.then hb5⟩
end Go.Proofs.Ytdnbiohohbnhgaa
