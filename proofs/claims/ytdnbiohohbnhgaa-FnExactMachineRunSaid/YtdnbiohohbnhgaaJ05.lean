/- Contract of isMIns. No conditions but that the operation's number is an int64. Contract of the program's ProgramOk. Condition: the program can be read, with lengths up to 1048576. -/
import Derived.Test.YtdnbiohohbnhgaaJ04
set_option linter.unusedSimpArgs false
set_option linter.unusedVariables false
namespace Go.Proofs.Ytdnbiohohbnhgaa
open Go.RowKit
theorem ite_some {α : Type} {c : Prop} [Decidable c] {a u : α} {o : Option α} (h : (if c then some a else o) = some u) : u = a ∨ o = some u := by
  by_cases hc : c
  · rw [if_pos hc] at h; exact .inl (Option.some.inj h).symm
  · rw [if_neg hc] at h; exact .inr h
theorem used_size (op : Int) (u : ByteArray) (h : usedOf op = some u) : u.size ≤ 100 := by
  unfold usedOf at h
  rcases ite_some h with rfl | h
  · decide
  rcases ite_some h with rfl | h
  · decide
  rcases ite_some h with rfl | h
  · decide
  rcases ite_some h with rfl | h
  · decide
  rcases ite_some h with rfl | h
  · decide
  rcases ite_some h with rfl | h
  · decide
  rcases ite_some h with rfl | h
  · decide
  rcases ite_some h with rfl | h
  · decide
  rcases ite_some h with rfl | h
  · decide
  rcases ite_some h with rfl | h
  · decide
  rcases ite_some h with rfl | h
  · decide
  rcases ite_some h with rfl | h
  · decide
  · cases h
def castB (x : XMIns) : Bool := widthOk x.c && ((decide (x.c < x.w) && x.op != 20) || (decide (x.c > x.w) && x.op == 20))
/-- Two boxes: a program's, and behind it an instruction's. -/
def Bx (W : World) (b : Nat) (r : Int) (v1 v2 v3 : Value) (x : XMIns) : Prop :=
  W.cell? ⟨b, 0, none⟩ = some (.int .i64 r) ∧ W.cell? ⟨b, 1, none⟩ = some v1 ∧ W.cell? ⟨b, 2, none⟩ = some v2 ∧ W.cell? ⟨b, 3, none⟩ = some v3 ∧
  W.cell? ⟨b + 1, 0, none⟩ = some (.int .i64 x.op) ∧ W.cell? ⟨b + 1, 1, none⟩ = some (.int .i64 x.w) ∧ W.cell? ⟨b + 1, 2, none⟩ = some (.int .i64 x.d) ∧ W.cell? ⟨b + 1, 3, none⟩ = some (.int .i64 x.a) ∧
  W.cell? ⟨b + 1, 4, none⟩ = some (.int .i64 x.b) ∧ W.cell? ⟨b + 1, 5, none⟩ = some (.int .i64 x.c) ∧ W.cell? ⟨b + 1, 6, none⟩ = some (.int .i64 x.imm)
theorem Bx.mv {W W' : World} {b B : Nat} {r : Int} {v1 v2 v3 : Value} {x : XMIns} (h : Bx W b r v1 v2 v3 x) (hb : Below B W W') (hB : b + 1 < B) : Bx W' b r v1 v2 v3 x := by
  obtain ⟨a0, a1, a2, a3, c0, c1, c2, c3, c4, c5, c6⟩ := h
  have k0 := bat hb b (by omega)
  have k1 := bat hb (b + 1) hB
  exact ⟨(k0 0).trans a0, (k0 1).trans a1, (k0 2).trans a2, (k0 3).trans a3, (k1 0).trans c0, (k1 1).trans c1, (k1 2).trans c2, (k1 3).trans c3, (k1 4).trans c4, (k1 5).trans c5, (k1 6).trans c6⟩
theorem mins_eq (r n : Int) (x : XMIns) (u : ByteArray) (h : usedOf x.op = some u) : minsOk r n x = (blankB x u && regB r x.d && regB r x.a && regB r x.b && placedB n x && (if cst x.op then castB x else regB r x.c)) := by
  unfold minsOk; rw [h]; rfl
set_option maxHeartbeats 4000000 in
theorem c_isMIns (r : Int) (v1 v2 : Value) (A : Option Addr) (n c : Nat) (x : XMIns) (w : World) (hr : 1 ≤ r ∧ r ≤ 130) (hn : n ≤ 1048576) (hop : InI x.op) : Calls Try.prog 72 #[progV r v1 v2 (.slice A n c), minsV x] w (Ret (.bool (minsOk r n x)) w) := by
  have hu := fun W => c_used x.op W hop
  have hR := fun k W => c_isReg r k v1 v2 (.slice A n c) W ⟨by omega, hr.2⟩
  have hP := fun W => c_isPlaced r v1 v2 A n c x W hn
  have hC := fun W => c_isCast x.op W
  have hW := fun W => c_WidthOk x.c W
  have hB := fun u h W => c_isBlank x u W (used_size x.op u h)
  unfold RetU at hu
  obtain ⟨W0, hW0⟩ : ∃ W0 : World, W0 = (w.alloc (.cells #[.int .i64 r, v1, v2, .slice A n c] 46)).alloc (.cells #[.int .i64 x.op, .int .i64 x.w, .int .i64 x.d, .int .i64 x.a, .int .i64 x.b, .int .i64 x.c, .int .i64 x.imm] 71) := ⟨_, rfl⟩
  have hz0 : W0.heap.size = w.heap.size + 2 := by rw [hW0]; simp
  have hb0 : Below w.heap.size w W0 := by rw [hW0]; exact ((Below.refl _ _).al (Nat.le_refl _) _).al (by first | (simp; done) | (simp; omega)) _
  have hbx : Bx W0 w.heap.size r v1 v2 (.slice A n c) x := by
    rw [hW0]
    refine ⟨?_, ?_, ?_, ?_, ?_, ?_, ?_, ?_, ?_, ?_, ?_⟩ <;> simp
  have hb0' := Hd.mk hb0
  have hbx' := Hd.mk hbx
  have hW0' := Hd.mk hW0
  clear hb0 hbx hW0
  cases hus : usedOf x.op with
  | none =>
    have hm : minsOk r n x = false := by unfold minsOk; rw [hus]
    rw [hm]
    rw [hus] at hu
    clear hR hP hC hW hB hm hus hop
    unfold progV minsV
    go_enter Try.func72, Try.ntmps72
    go_wp2_with fail
    rw [← hW0'.out]
    refine (hu _).mono ?_; rintro e w1 ⟨s, rfl, -, hb1⟩
    go_wp2
    go_ret
    exact ⟨rfl, hb0'.out.then hb1⟩
  | some u =>
    have hm := Hd.mk (mins_eq r n x u hus)
    have hB' := hB u hus
    rw [hus] at hu
    clear hB hop hus
    generalize minsOk r n x = R at *
    unfold progV minsV at *
    go_enter Try.func72, Try.ntmps72
    go_wp2_with fail
    rw [← hW0'.out]
    refine (hu _).mono ?_; rintro e w1 ⟨s, rfl, hs, hb1⟩
    obtain rfl := hs u rfl
    have hB1 := Hd.mk (hb0'.out.then hb1)
    have hx1 := Hd.mk (hbx'.out.mv hb1 (by omega))
    have hz1 := hb1.size
    obtain ⟨a0, a1, a2, a3, c0, c1, c2, c3, c4, c5, c6⟩ := hx1.out
    clear hu hs hb1 hbx' hb0' hW0'
    go_wp2_with fail
    refine (hB' _).mono ?_; rintro e w2 ⟨rfl, hb2⟩
    have hB2 := Hd.mk (hB1.out.then hb2)
    have hx2 := Hd.mk (hx1.out.mv hb2 (by omega))
    have hz2 := Nat.le_trans hz1 hb2.size
    obtain ⟨a0, a1, a2, a3, c0, c1, c2, c3, c4, c5, c6⟩ := hx2.out
    clear hb2 hB1 hx1 hz1
    cases hq : blankB x s
    · have hm' := Hd.mk (show R = false by rw [hm.out, hq]; simp)
      clear hm hq
      go_wp2
      go_ret
      exact ⟨by rw [hm'.out]; rfl, hB2.out⟩
    replace hm := Hd.mk (show R = (regB r x.d && regB r x.a && regB r x.b && placedB n x && (if cst x.op then castB x else regB r x.c)) by rw [hm.out, hq]; simp)
    clear hq
    go_wp2_with fail
    refine (hR x.d _).mono ?_; rintro e w3 ⟨rfl, hb3⟩
    have hB3 := Hd.mk (hB2.out.then hb3)
    have hx3 := Hd.mk (hx2.out.mv hb3 (by omega))
    have hz3 := Nat.le_trans hz2 hb3.size
    obtain ⟨a0, a1, a2, a3, c0, c1, c2, c3, c4, c5, c6⟩ := hx3.out
    clear hb3 hB2 hx2 hz2
    cases hq : regB r x.d
    · have hm' := Hd.mk (show R = false by rw [hm.out, hq]; simp)
      clear hm hq
      go_wp2
      go_ret
      exact ⟨by rw [hm'.out]; rfl, hB3.out⟩
    replace hm := Hd.mk (show R = (regB r x.a && regB r x.b && placedB n x && (if cst x.op then castB x else regB r x.c)) by rw [hm.out, hq]; simp)
    clear hq
    go_wp2_with fail
    refine (hR x.a _).mono ?_; rintro e w4 ⟨rfl, hb4⟩
    have hB4 := Hd.mk (hB3.out.then hb4)
    have hx4 := Hd.mk (hx3.out.mv hb4 (by omega))
    have hz4 := Nat.le_trans hz3 hb4.size
    obtain ⟨a0, a1, a2, a3, c0, c1, c2, c3, c4, c5, c6⟩ := hx4.out
    clear hb4 hB3 hx3 hz3
    cases hq : regB r x.a
    · have hm' := Hd.mk (show R = false by rw [hm.out, hq]; simp)
      clear hm hq
      go_wp2
      go_ret
      exact ⟨by rw [hm'.out]; rfl, hB4.out⟩
    replace hm := Hd.mk (show R = (regB r x.b && placedB n x && (if cst x.op then castB x else regB r x.c)) by rw [hm.out, hq]; simp)
    clear hq
    go_wp2_with fail
    refine (hR x.b _).mono ?_; rintro e w5 ⟨rfl, hb5⟩
    have hB5 := Hd.mk (hB4.out.then hb5)
    have hx5 := Hd.mk (hx4.out.mv hb5 (by omega))
    have hz5 := Nat.le_trans hz4 hb5.size
    obtain ⟨a0, a1, a2, a3, c0, c1, c2, c3, c4, c5, c6⟩ := hx5.out
    clear hb5 hB4 hx4 hz4
    cases hq : regB r x.b
    · have hm' := Hd.mk (show R = false by rw [hm.out, hq]; simp)
      clear hm hq
      go_wp2
      go_ret
      exact ⟨by rw [hm'.out]; rfl, hB5.out⟩
    replace hm := Hd.mk (show R = (placedB n x && (if cst x.op then castB x else regB r x.c)) by rw [hm.out, hq]; simp)
    clear hq
    go_wp2_with fail
    refine (hP _).mono ?_; rintro e w6 ⟨rfl, hb6⟩
    have hB6 := Hd.mk (hB5.out.then hb6)
    have hx6 := Hd.mk (hx5.out.mv hb6 (by omega))
    have hz6 := Nat.le_trans hz5 hb6.size
    obtain ⟨a0, a1, a2, a3, c0, c1, c2, c3, c4, c5, c6⟩ := hx6.out
    clear hb6 hB5 hx5 hz5
    cases hq : placedB n x
    · have hm' := Hd.mk (show R = false by rw [hm.out, hq]; simp)
      clear hm hq
      go_wp2
      go_ret
      exact ⟨by rw [hm'.out]; rfl, hB6.out⟩
    replace hm := Hd.mk (show R = ((if cst x.op then castB x else regB r x.c)) by rw [hm.out, hq]; simp)
    clear hq
    go_wp2_with fail
    refine (hC _).mono ?_; rintro e w7 ⟨rfl, rfl⟩
    cases hq : cst x.op
    · replace hm := Hd.mk (show R = regB r x.c by rw [hm.out, hq]; simp)
      clear hq
      go_wp2_with fail
      refine (hR x.c _).mono ?_; rintro e w8 ⟨rfl, hb8⟩
      go_wp2
      go_ret
      exact ⟨by rw [hm.out]; rfl, hB6.out.then hb8⟩
    · replace hm := Hd.mk (show R = castB x by rw [hm.out, hq]; simp)
      clear hq
      unfold castB at hm
      go_wp2_with fail
      refine (hW _).mono ?_; rintro e w8 ⟨rfl, rfl⟩
      cases hq : widthOk x.c
      · replace hm := Hd.mk (show R = false by rw [hm.out, hq]; simp)
        clear hq
        go_wp2
        go_ret
        exact ⟨by rw [hm.out]; rfl, hB6.out⟩
      replace hm := Hd.mk (show R = ((decide (x.c < x.w) && x.op != 20) || (decide (x.c > x.w) && x.op == 20)) by rw [hm.out, hq]; simp)
      clear hq
      obtain ⟨op, wd, d, aa, b, cc, imm⟩ := x
      simp only at *
      by_cases l1 : cc < wd
      · have d1 : decide (cc < wd) = true := by simpa using l1
        have d2 : decide (cc > wd) = false := by simp; omega
        have d3 : decide (wd < cc) = false := by simp; omega
        rw [d1, d2] at hm
        by_cases o1 : op = 20
        · subst o1
          go_wp2
          go_ret
          exact ⟨by rw [hm.out]; rfl, hB6.out⟩
        · have t1 := beqF o1
          have t2 := bneT o1
          rw [t1, t2] at hm
          go_wp2
          go_ret
          exact ⟨by rw [hm.out]; rfl, hB6.out⟩
      · have d1 : decide (cc < wd) = false := by simpa using l1
        rw [d1] at hm
        by_cases l2 : cc > wd
        · have d2 : decide (cc > wd) = true := by simpa using l2
          have d3 : decide (wd < cc) = true := by simpa using l2
          rw [d2] at hm
          by_cases o1 : op = 20
          · subst o1
            go_wp2
            go_ret
            exact ⟨by rw [hm.out]; rfl, hB6.out⟩
          · have t1 := beqF o1
            rw [t1] at hm
            go_wp2
            go_ret
            exact ⟨by rw [hm.out]; rfl, hB6.out⟩
        · have d2 : decide (cc > wd) = false := by simpa using l2
          have d3 : decide (wd < cc) = false := by simpa using l2
          rw [d2] at hm
          go_wp2
          go_ret
          exact ⟨by rw [hm.out]; rfl, hB6.out⟩
end Go.Proofs.Ytdnbiohohbnhgaa
set_option linter.unusedSimpArgs false
set_option linter.unusedVariables false
namespace Go.Proofs.Ytdnbiohohbnhgaa
open Go.RowKit
def isEnd (op : Int) : Bool := op == 31 || op == 33 || op == 34
def progPre (p : XProg) : Bool := inR p.regs 1 130 && decide (p.params.length ≤ 4) && (p.widths.length == p.params.length) && inR p.code.length 1 600
def progOk (p : XProg) : Bool :=
  progPre p && p.params.all (regB p.regs) && p.widths.all widthOk && isEnd ((p.code.getLast?).getD default).op && p.code.all (minsOk p.regs p.code.length)
theorem c_PO1 (b : Nat) (r : Int) (v1 v2 v3 : Value) (k : Int) (w : World) (hr : 1 ≤ r ∧ r ≤ 130) (h : w.cell? ⟨b, 0, none⟩ = some (.int .i64 r) ∧ w.cell? ⟨b, 1, none⟩ = some v1 ∧ w.cell? ⟨b, 2, none⟩ = some v2 ∧ w.cell? ⟨b, 3, none⟩ = some v3) : Calls Try.prog 66 #[.int .i64 k, .pointer (some ⟨b, 0, none⟩)] w (Ret (.bool (!regB r k)) w) := by
  have hR := fun W => c_isReg r k v1 v2 v3 W ⟨by omega, hr.2⟩
  obtain ⟨h0, h1, h2, h3⟩ := h
  unfold progV at hR
  go_enter Try.func66, Try.ntmps66
  go_wp2_with fail
  refine (hR _).mono ?_; rintro e w1 ⟨rfl, hb1⟩
  go_wp2
  go_ret
  exact ⟨rfl, hb1⟩
theorem c_PO2 (k : Int) (w : World) : Calls Try.prog 68 #[.int .i64 k] w (Ret (.bool (!widthOk k)) w) := by
  have hR := fun W => c_WidthOk k W
  go_enter Try.func68, Try.ntmps68
  go_wp2_with fail
  refine (hR _).mono ?_; rintro e w1 ⟨rfl, rfl⟩
  go_wp2
  go_ret
  exact ⟨rfl, Below.refl _ _⟩
theorem c_PO3 (b : Nat) (r : Int) (v1 v2 : Value) (A : Option Addr) (n c : Nat) (x : XMIns) (w : World) (hr : 1 ≤ r ∧ r ≤ 130) (hn : n ≤ 1048576) (hop : InI x.op) (h : w.cell? ⟨b, 0, none⟩ = some (.int .i64 r) ∧ w.cell? ⟨b, 1, none⟩ = some v1 ∧ w.cell? ⟨b, 2, none⟩ = some v2 ∧ w.cell? ⟨b, 3, none⟩ = some (.slice A n c)) (hb : b < w.heap.size) : Calls Try.prog 71 #[minsV x, .pointer (some ⟨b, 0, none⟩)] w (Ret (.bool (!minsOk r n x)) w) := by
  have hR := fun W => c_isMIns r v1 v2 A n c x W hr hn hop
  obtain ⟨h0, h1, h2, h3⟩ := h
  have hbl := fun o => (Below.refl w.heap.size w).al (Nat.le_refl _) o
  unfold progV minsV at *
  go_enter Try.func71, Try.ntmps71
  go_wp2_with fail
  refine (hR _).mono ?_; rintro e w1 ⟨rfl, hb1⟩
  go_wp2
  go_ret
  exact ⟨rfl, by first | exact hb1 | exact (hbl _).then hb1⟩
theorem rd_three (W : World) (a b c : Int) : RI lm (W.alloc (.cells #[.int .i64 a, .int .i64 b, .int .i64 c] 2)) (.slice (some ⟨W.heap.size, 0, none⟩) 3 3) [a, b, c] :=
  (own_ints (xs := [a, b, c]) (World.ownsRow_lit W #[.int .i64 a, .int .i64 b, .int .i64 c] 3 (Nat.le_refl _) (by unfold maxLen; omega) rfl) (by show 3 ≤ 1048576; omega)).2
def Pc (W : World) (b : Nat) (r : Int) (v1 v2 v3 : Value) : Prop := W.cell? ⟨b, 0, none⟩ = some (.int .i64 r) ∧ W.cell? ⟨b, 1, none⟩ = some v1 ∧ W.cell? ⟨b, 2, none⟩ = some v2 ∧ W.cell? ⟨b, 3, none⟩ = some v3
theorem Pc.mv {W W' : World} {b B : Nat} {r : Int} {v1 v2 v3 : Value} (h : Pc W b r v1 v2 v3) (hb : Below B W W') (hB : b < B) : Pc W' b r v1 v2 v3 := by
  obtain ⟨a0, a1, a2, a3⟩ := h
  have k0 := bat hb b hB
  exact ⟨(k0 0).trans a0, (k0 1).trans a1, (k0 2).trans a2, (k0 3).trans a3⟩
theorem progOk_eq (p : XProg) (h : 0 < p.code.length) : progOk p = (progPre p && (p.params.all (regB p.regs) && (p.widths.all widthOk && (isEnd (p.code[p.code.length - 1]'(by omega)).op && p.code.all (minsOk p.regs p.code.length))))) := by
  unfold progOk
  rw [List.getLast?_eq_getElem?, List.getElem?_eq_getElem (by omega)]
  simp only [Option.getD_some, Bool.and_assoc]
set_option maxHeartbeats 4000000 in
theorem c_ProgramOk (p : XProg) (cs : List Value) (w : World) (hp : KProg lm w p cs) : Calls Try.prog 40 #[.agg cs.toArray] w (Ret (.bool (progOk p)) w) := by
  obtain ⟨v1, v2, v3, rfl, r1, r2, r3⟩ := hp
  obtain ⟨A1, c1, rfl, -, l1, r1'⟩ := r1.sm
  obtain ⟨A2, c2, rfl, -, l2, r2'⟩ := r2.sm
  obtain ⟨A3, c3, rfl, -, l3, r3'⟩ := r3.sm
  have hw1 := fun W => c_within p.regs 1 130 W
  have hw2 := fun W => c_within p.code.length 1 600 W
  clear r1 r2 r3
  have hbl := fun o => (Below.refl w.heap.size w).al (Nat.le_refl _) o
  cases hq1 : inR p.regs 1 130
  · have hR : progOk p = false := by unfold progOk progPre; rw [hq1]; rfl
    rw [hR]
    rw [hq1] at hw1
    clear hR hq1 hw2
    go_enter Try.func40, Try.ntmps40
    go_wp2_with fail
    refine (hw1 _).mono ?_; rintro e w1 ⟨rfl, rfl⟩
    go_wp2
    go_ret
    exact ⟨rfl, hbl _⟩
  rw [hq1] at hw1
  have hr : 1 ≤ p.regs ∧ p.regs ≤ 130 := by unfold inR at hq1; simpa using hq1
  by_cases h4 : p.params.length ≤ 4
  rotate_left
  · have hR : progOk p = false := by unfold progOk progPre; rw [decide_eq_false h4]; simp
    rw [hR]
    have d4 : decide (4 < (p.params.length : Int)) = true := by simp; omega
    clear hR hq1 hw2
    go_enter Try.func40, Try.ntmps40
    go_wp2_with fail
    refine (hw1 _).mono ?_; rintro e w1 ⟨rfl, rfl⟩
    go_wp2
    go_ret
    exact ⟨rfl, hbl _⟩
  by_cases h5 : p.widths.length = p.params.length
  rotate_left
  · have hR : progOk p = false := by
      have : (p.widths.length == p.params.length) = false := by simpa using h5
      unfold progOk progPre; rw [this]; simp
    rw [hR]
    have d4 : decide (4 < (p.params.length : Int)) = false := by simp; omega
    have d5 : ((p.widths.length : Int) != (p.params.length : Int)) = true := by simp; omega
    clear hR hq1 hw2
    go_enter Try.func40, Try.ntmps40
    go_wp2_with fail
    refine (hw1 _).mono ?_; rintro e w1 ⟨rfl, rfl⟩
    go_wp2
    go_ret
    exact ⟨rfl, hbl _⟩
  have d4 : decide (4 < (p.params.length : Int)) = false := by simp; omega
  have d5 : ((p.widths.length : Int) != (p.params.length : Int)) = false := by simp; omega
  cases hq2 : inR p.code.length 1 600
  · have hR : progOk p = false := by unfold progOk progPre; rw [hq2]; simp
    rw [hR]
    rw [hq2] at hw2
    clear hR hq1 hq2
    go_enter Try.func40, Try.ntmps40
    go_wp2_with fail
    refine (hw1 _).mono ?_; rintro e w1 ⟨rfl, rfl⟩
    go_wp2_with fail
    refine (hw2 _).mono ?_; rintro e w1 ⟨rfl, rfl⟩
    go_wp2
    go_ret
    exact ⟨rfl, hbl _⟩
  rw [hq2] at hw2
  have hn : 1 ≤ p.code.length ∧ p.code.length ≤ 600 := by unfold inR at hq2; simp at hq2; omega
  have hpre : progPre p = true := by
    have : (p.widths.length == p.params.length) = true := by simpa using h5
    unfold progPre; rw [hq1, decide_eq_true h4, this, hq2]; rfl
  have hm := Hd.mk (show progOk p = _ from progOk_eq p (by omega))
  rw [hpre, Bool.true_and] at hm
  generalize progOk p = R at *
  obtain ⟨W0, hW0⟩ : ∃ W0 : World, W0 = w.alloc (.cells #[.int .i64 p.regs, .slice A1 p.params.length c1, .slice A2 p.widths.length c2, .slice A3 p.code.length c3] 46) := ⟨_, rfl⟩
  have hz0 : W0.heap.size = w.heap.size + 1 := by rw [hW0]; simp
  have hb0 : Below w.heap.size w W0 := by rw [hW0]; exact hbl _
  have hpc : Pc W0 w.heap.size p.regs (.slice A1 p.params.length c1) (.slice A2 p.widths.length c2) (.slice A3 p.code.length c3) := by
    rw [hW0]
    refine ⟨?_, ?_, ?_, ?_⟩ <;> simp
  have q1 := enters_of Try.func66 (by kernel_rfl) rfl
  have q2 := enters_of Try.func68 (by kernel_rfl) rfl
  have q3 := enters_of Try.func71 (by kernel_rfl) rfl
  have hcon1 := fun W (hW : Below W0.heap.size W0 W) => c_ConI _ p.params 66 #[.pointer (some ⟨w.heap.size, 0, none⟩)] (fun k => !regB p.regs k) W (r1'.out.mv (hb0.then hW)) q1 (fun W' x cs hW' hk => by cases hk; exact c_PO1 w.heap.size p.regs _ _ _ x W' hr (hpc.mv (hW.then hW') (by omega)))
  have hcon2 := fun W (hW : Below W0.heap.size W0 W) => c_ConI _ p.widths 68 #[] (fun k => !widthOk k) W (r2'.out.mv (hb0.then hW)) q2 (fun W' x cs hW' hk => by cases hk; exact c_PO2 x W')
  have hcon3 := fun W (hW : Below W0.heap.size W0 W) => c_ConMIns _ p.code 71 #[.pointer (some ⟨w.heap.size, 0, none⟩)] (fun x => !minsOk p.regs p.code.length x) W (r3'.out.mv (hb0.then hW)) q3 (fun W' x cs hW' hk => by
    obtain ⟨rfl, hx⟩ := hk
    have hz := (hW.then hW').size
    exact c_PO3 w.heap.size p.regs _ _ A3 p.code.length c3 x W' hr (by omega) hx (hpc.mv (hW.then hW') (by omega)) (by omega))
  rw [any_not] at hcon1 hcon2 hcon3
  simp only [h5] at hpc
  simp only [h5] at hW0
  simp only [h5] at hcon2
  have hpc' := Hd.mk hpc
  have hb0' := Hd.mk hb0
  have hW0' := Hd.mk hW0
  have hcon1' := Hd.mk hcon1
  have hcon2' := Hd.mk hcon2
  have hcon3' := Hd.mk hcon3
  clear hcon1 hcon2 hcon3 hpc hb0 hW0 hq1 hq2 hpre hbl q1 q2 q3
  go_enter Try.func40, Try.ntmps40
  go_wp2_with fail
  refine (hw1 _).mono ?_; rintro e w1 ⟨rfl, rfl⟩
  go_wp2_with fail
  refine (hw2 _).mono ?_; rintro e w1 ⟨rfl, rfl⟩
  go_wp2_with fail
  rw [← hW0'.out]
  refine (hcon1'.out _ (Below.refl _ _)).mono ?_; rintro e w2 ⟨rfl, hb2⟩
  have hx2 := (hpc'.out.mv hb2 (by omega))
  obtain ⟨a0, a1, a2, a3⟩ := hx2
  have hB2 := Hd.mk (hb0'.out.then hb2)
  have hb2' := Hd.mk hb2
  have hz2 := hb2.size
  clear hb2 hcon1' hW0'
  cases hq : p.params.all (regB p.regs)
  · replace hm := Hd.mk (show R = false by rw [hm.out, hq]; rfl)
    clear hq
    go_wp2
    go_ret
    exact ⟨by rw [hm.out]; rfl, hB2.out⟩
  rw [hq, Bool.true_and] at hm
  clear hq
  go_wp2_with fail
  refine (hcon2'.out _ hb2'.out).mono ?_; rintro e w3 ⟨rfl, hb3⟩
  have hx3 := (hpc'.out.mv (hb2'.out.then hb3) (by omega))
  clear a0 a1 a2 a3
  obtain ⟨a0, a1, a2, a3⟩ := hx3
  have hB3 := Hd.mk (hB2.out.then hb3)
  have hb3' := Hd.mk (hb2'.out.then hb3)
  have hz3 := hb3.size
  clear hb3 hcon2' hB2 hb2'
  cases hq : p.widths.all widthOk
  · replace hm := Hd.mk (show R = false by rw [hm.out, hq]; rfl)
    clear hq
    go_wp2
    go_ret
    exact ⟨by rw [hm.out]; rfl, hB3.out⟩
  rw [hq, Bool.true_and] at hm
  clear hq
  obtain ⟨bk, off, cs, hA, hbl, hk1, hat⟩ := r3'.out.in0 hB3.out (p.code.length - 1) (by omega)
  cases hA
  obtain ⟨rfl, -⟩ := hk1
  have g0 := hat 0 _ rfl
  simp only [Nat.add_zero] at g0
  clear hat
  have hi1 : ((p.code.length : Int) - 1).toNat = p.code.length - 1 := by omega
  generalize (p.code[p.code.length - 1]'(by omega)).op = lop at *
  have hend : hasI [31, 33, 34] lop = isEnd lop := by simp [hasI, isEnd, Bool.or_assoc]
  have hal := Hd.mk fun (o : Obj) => (Below.refl w3.heap.size w3).al (Nat.le_refl _) o
  go_wp2_with fail
  refine (c_is _ [31, 33, 34] lop _ (rd_three w3 31 33 34)).mono ?_; rintro e w4 ⟨rfl, hb4⟩
  have hb34 := (hal.out _).then hb4
  have hx4 := (hpc'.out.mv (hb3'.out.then hb34) (by omega))
  clear a0 a1 a2 a3 g0
  obtain ⟨a0, a1, a2, a3⟩ := hx4
  have hB4 := Hd.mk (hB3.out.then hb34)
  have hb4' := Hd.mk (hb3'.out.then hb34)
  have hz4 := hb34.size
  clear hb34 hb4 hb3' hB3 hal
  rw [hend]
  cases hq : isEnd lop
  · replace hm := Hd.mk (show R = false by rw [hm.out, hq]; rfl)
    clear hq
    go_wp2
    go_ret
    exact ⟨by rw [hm.out]; rfl, hB4.out⟩
  rw [hq, Bool.true_and] at hm
  clear hq
  go_wp2_with fail
  refine (hcon3'.out _ hb4'.out).mono ?_; rintro e w5 ⟨rfl, hb5⟩
  go_wp2
  go_ret
  exact ⟨by rw [hm.out]; simp, hB4.out.then hb5⟩
def regs4 (r : Int) (x : XMIns) : Bool := regB r x.d && regB r x.a && regB r x.b && regB r x.c
def z0 (n : Int) : Bool := n == 0
/-- The reference's check of an instruction of a program. -/
def insS (r n : Int) (x : XMIns) : Bool :=
  if x.op = 31 ∨ x.op = 32 then regs4 r x && inR x.imm 0 (n - 1) && z0 x.w && z0 x.d && z0 x.b && z0 x.c && (x.op == 32 || z0 x.a)
  else if x.op = 34 then z0 x.w && z0 x.d && z0 x.a && z0 x.b && z0 x.c && z0 x.imm
  else if x.op = 33 ∨ x.op = 35 then regs4 r x && widthOk x.w && z0 x.imm && z0 x.b && z0 x.c && (x.op == 35 || z0 x.d)
  else if x.op = 21 then regs4 r x && isVal x.w x.imm && z0 x.a && z0 x.b && z0 x.c
  else if x.imm ≠ 0 then false
  else if bin x.op then regs4 r x && widthOk x.w && z0 x.c
  else if cst x.op then regB r x.d && regB r x.a && widthOk x.w && widthOk x.c && ((x.op == 20) == decide (x.c > x.w)) && (x.c != x.w) && z0 x.b
  else if x.op = 22 then regs4 r x && widthOk x.w
  else if x.op = 23 then regs4 r x && (x.w == 8) && z0 x.b && z0 x.c
  else if x.op = 24 then regs4 r x && z0 x.w && z0 x.d && z0 x.c
  else if x.op = 25 then regs4 r x && z0 x.w && z0 x.d && z0 x.b && z0 x.c
  else false
end Go.Proofs.Ytdnbiohohbnhgaa
