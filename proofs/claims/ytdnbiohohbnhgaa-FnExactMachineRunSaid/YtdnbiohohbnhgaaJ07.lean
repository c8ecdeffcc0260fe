/- What a program that is right is, told of its parts. Plain Lean. Contract of the reference's ProgramOk. Condition: the program can be read, with lengths up to 1048576. The machine's plain step and run, and what stays true of its state. Plain Lean. Contracts of areArgs and l7Args. Condition: the widths and the numbers can be read. The machine in memory, and contracts of its parts that read. Condition: the state lies as MI says. -/
import Derived.Test.YtdnbiohohbnhgaaJ05
import Derived.Test.YtdnbiohohbnhgaaJ06
import Derived.Deep.QuietTactic
import Derived.BigQuiet
import Derived.StillTailTactics
import Derived.Test.YtdnbiohohbnhgaaJ01
import Derived.Deep.RegionWith
set_option linter.unusedSimpArgs false
set_option linter.unusedVariables false
namespace Go.Proofs.Ytdnbiohohbnhgaa
open Go.RowKit
theorem regB_iff (r n : Int) : regB r n = true ↔ 0 ≤ n ∧ n ≤ r - 1 := by unfold regB inR; simp
theorem regs4_iff (r : Int) (x : XMIns) : regs4 r x = true ↔ (0 ≤ x.d ∧ x.d ≤ r - 1) ∧ (0 ≤ x.a ∧ x.a ≤ r - 1) ∧ (0 ≤ x.b ∧ x.b ≤ r - 1) ∧ (0 ≤ x.c ∧ x.c ≤ r - 1) := by
  unfold regs4; simp only [Bool.and_eq_true, regB_iff, and_assoc]
theorem blank_eq (x : XMIns) (u : ByteArray) (h1 h2 h3 h4 h5 h6 : Bool) (e1 : hasI (bytesOf u) 87 = h1) (e2 : hasI (bytesOf u) 68 = h2) (e3 : hasI (bytesOf u) 65 = h3) (e4 : hasI (bytesOf u) 66 = h4) (e5 : hasI (bytesOf u) 67 = h5) (e6 : hasI (bytesOf u) 73 = h6) :
    blankB x u = ((x.w == 0 || h1) && ((x.d == 0 || h2) && ((x.a == 0 || h3) && ((x.b == 0 || h4) && ((x.c == 0 || h5) && (x.imm == 0 || h6)))))) := by
  subst e1 e2 e3 e4 e5 e6
  simp [blankB, six, letters, List.zip]
theorem bin_not (op : Int) (h : bin op = true) : 1 ≤ op ∧ op ≤ 17 := by unfold bin inR at h; simpa using h
theorem cst_not (op : Int) (h : cst op = true) : 18 ≤ op ∧ op ≤ 20 := by unfold cst inR at h; simpa using h
theorem fin_same {A B : Bool} (h : A = true ↔ B = true) : A = B := Bool.eq_iff_iff.2 h
set_option maxHeartbeats 4000000 in
/-- The program's check and the reference's are one. -/
theorem ins_same (r n : Int) (hr : 1 ≤ r) (x : XMIns) : minsOk r n x = insS r n x := by
  obtain ⟨op, w, d, a, b, c, imm⟩ := x
  cases hb : bin op
  rotate_left
  · have ho := bin_not op hb
    have hu : usedOf op = some ⟨#[87, 68, 65, 66]⟩ := by unfold usedOf; rw [hb]; rfl
    have hc : cst op = false := by unfold cst inR; simp; omega
    have hL : minsOk r n ⟨op, w, d, a, b, c, imm⟩ = _ := mins_eq r n _ _ hu
    rw [hL, blank_eq _ _ true true true true false false rfl rfl rfl rfl rfl rfl]
    have n21 : op ≠ 21 := by omega
    have n22 : op ≠ 22 := by omega
    have n23 : op ≠ 23 := by omega
    have n24 : op ≠ 24 := by omega
    have n25 : op ≠ 25 := by omega
    have n31 : op ≠ 31 := by omega
    have n32 : op ≠ 32 := by omega
    have n33 : op ≠ 33 := by omega
    have n34 : op ≠ 34 := by omega
    have n35 : op ≠ 35 := by omega
    simp only [hc, insS, placedB, castB, hb, n21, n22, n23, n24, n25, n31, n32, n33, n34, n35, or_self, if_false, if_true, Bool.false_eq_true, ne_eq, not_false_eq_true]
    apply fin_same
    by_cases hi : imm = 0
    · subst hi
      generalize widthOk w = bw
      cases bw <;> simp [regs4_iff, regB_iff, z0] <;> omega
    · simp [hi]
  cases hc : cst op
  rotate_left
  · have ho := cst_not op hc
    have hu : usedOf op = some ⟨#[87, 68, 65, 67]⟩ := by unfold usedOf; rw [hb, hc]; rfl
    have hL : minsOk r n ⟨op, w, d, a, b, c, imm⟩ = _ := mins_eq r n _ _ hu
    rw [hL, blank_eq _ _ true true true false true false rfl rfl rfl rfl rfl rfl]
    have n21 : op ≠ 21 := by omega
    have n22 : op ≠ 22 := by omega
    have n23 : op ≠ 23 := by omega
    have n24 : op ≠ 24 := by omega
    have n25 : op ≠ 25 := by omega
    have n31 : op ≠ 31 := by omega
    have n32 : op ≠ 32 := by omega
    have n33 : op ≠ 33 := by omega
    have n34 : op ≠ 34 := by omega
    have n35 : op ≠ 35 := by omega
    simp only [hc, insS, placedB, castB, hb, n21, n22, n23, n24, n25, n31, n32, n33, n34, n35, or_self, if_false, if_true, Bool.false_eq_true, ne_eq, not_false_eq_true]
    apply fin_same
    by_cases hi : imm = 0
    · subst hi
      generalize widthOk w = bw
      generalize widthOk c = bc
      by_cases o : op = 20
      · cases bw <;> cases bc <;> simp [o, regB_iff, z0] <;> omega
      · have hq : ((op == 20) = decide (w < c)) ↔ c ≤ w := by
          rw [beqF o]
          by_cases hl : w < c
          · rw [decide_eq_true hl]; simp; omega
          · rw [decide_eq_false hl]; simp; omega
        cases bw <;> cases bc <;> simp [o, regB_iff, z0, hq] <;> omega
    · simp [hi]
  by_cases o : op = 31
  · subst o
    have hb : bin 31 = false := rfl
    have hc : cst 31 = false := rfl
    have hu : usedOf 31 = some ⟨#[73]⟩ := rfl
    have hL : minsOk r n ⟨31, w, d, a, b, c, imm⟩ = _ := mins_eq r n _ _ hu
    rw [hL, blank_eq _ _ false false false false false true rfl rfl rfl rfl rfl rfl]
    simp only [hc, insS, placedB, hb]
    generalize inR imm 0 (n - 1) = bw
    apply fin_same
    cases bw <;> simp [regs4_iff, regB_iff, z0] <;> omega
  have m31 := o
  clear o
  by_cases o : op = 32
  · subst o
    have hb : bin 32 = false := rfl
    have hc : cst 32 = false := rfl
    have hu : usedOf 32 = some ⟨#[65, 73]⟩ := rfl
    have hL : minsOk r n ⟨32, w, d, a, b, c, imm⟩ = _ := mins_eq r n _ _ hu
    rw [hL, blank_eq _ _ false false true false false true rfl rfl rfl rfl rfl rfl]
    simp only [hc, insS, placedB, hb]
    generalize inR imm 0 (n - 1) = bw
    apply fin_same
    cases bw <;> simp [regs4_iff, regB_iff, z0] <;> omega
  have m32 := o
  clear o
  by_cases o : op = 34
  · subst o
    have hb : bin 34 = false := rfl
    have hc : cst 34 = false := rfl
    have hu : usedOf 34 = some ⟨#[]⟩ := rfl
    have hL : minsOk r n ⟨34, w, d, a, b, c, imm⟩ = _ := mins_eq r n _ _ hu
    rw [hL, blank_eq _ _ false false false false false false rfl rfl rfl rfl rfl rfl]
    simp only [hc, insS, placedB, hb]
    apply fin_same
    simp [regs4_iff, regB_iff, z0] <;> omega
  have m34 := o
  clear o
  by_cases o : op = 33
  · subst o
    have hb : bin 33 = false := rfl
    have hc : cst 33 = false := rfl
    have hu : usedOf 33 = some ⟨#[87, 65]⟩ := rfl
    have hL : minsOk r n ⟨33, w, d, a, b, c, imm⟩ = _ := mins_eq r n _ _ hu
    rw [hL, blank_eq _ _ true false true false false false rfl rfl rfl rfl rfl rfl]
    simp only [hc, insS, placedB, hb]
    generalize widthOk w = bw
    apply fin_same
    cases bw <;> simp [regs4_iff, regB_iff, z0] <;> omega
  have m33 := o
  clear o
  by_cases o : op = 35
  · subst o
    have hb : bin 35 = false := rfl
    have hc : cst 35 = false := rfl
    have hu : usedOf 35 = some ⟨#[87, 68, 65]⟩ := rfl
    have hL : minsOk r n ⟨35, w, d, a, b, c, imm⟩ = _ := mins_eq r n _ _ hu
    rw [hL, blank_eq _ _ true true true false false false rfl rfl rfl rfl rfl rfl]
    simp only [hc, insS, placedB, hb]
    generalize widthOk w = bw
    apply fin_same
    cases bw <;> simp [regs4_iff, regB_iff, z0] <;> omega
  have m35 := o
  clear o
  by_cases o : op = 21
  · subst o
    have hb : bin 21 = false := rfl
    have hc : cst 21 = false := rfl
    have hu : usedOf 21 = some ⟨#[87, 68, 73]⟩ := rfl
    have hL : minsOk r n ⟨21, w, d, a, b, c, imm⟩ = _ := mins_eq r n _ _ hu
    rw [hL, blank_eq _ _ true true false false false true rfl rfl rfl rfl rfl rfl]
    simp only [hc, insS, placedB, hb]
    generalize isVal w imm = bw
    apply fin_same
    cases bw <;> simp [regs4_iff, regB_iff, z0] <;> omega
  have m21 := o
  clear o
  by_cases o : op = 22
  · subst o
    have hb : bin 22 = false := rfl
    have hc : cst 22 = false := rfl
    have hu : usedOf 22 = some ⟨#[87, 68, 65, 66, 67]⟩ := rfl
    have hL : minsOk r n ⟨22, w, d, a, b, c, imm⟩ = _ := mins_eq r n _ _ hu
    rw [hL, blank_eq _ _ true true true true true false rfl rfl rfl rfl rfl rfl]
    simp only [hc, insS, placedB, hb]
    generalize widthOk w = bw
    apply fin_same
    by_cases hi : imm = 0
    · cases bw <;> simp [hi, regs4_iff, regB_iff, z0] <;> omega
    · simp [hi]
  have m22 := o
  clear o
  by_cases o : op = 23
  · subst o
    have hb : bin 23 = false := rfl
    have hc : cst 23 = false := rfl
    have hu : usedOf 23 = some ⟨#[87, 68, 65]⟩ := rfl
    have hL : minsOk r n ⟨23, w, d, a, b, c, imm⟩ = _ := mins_eq r n _ _ hu
    rw [hL, blank_eq _ _ true true true false false false rfl rfl rfl rfl rfl rfl]
    simp only [hc, insS, placedB, hb]
    apply fin_same
    by_cases hi : imm = 0
    · simp [hi, regs4_iff, regB_iff, z0] <;> omega
    · simp [hi]
  have m23 := o
  clear o
  by_cases o : op = 24
  · subst o
    have hb : bin 24 = false := rfl
    have hc : cst 24 = false := rfl
    have hu : usedOf 24 = some ⟨#[65, 66]⟩ := rfl
    have hL : minsOk r n ⟨24, w, d, a, b, c, imm⟩ = _ := mins_eq r n _ _ hu
    rw [hL, blank_eq _ _ false false true true false false rfl rfl rfl rfl rfl rfl]
    simp only [hc, insS, placedB, hb]
    apply fin_same
    by_cases hi : imm = 0
    · simp [hi, regs4_iff, regB_iff, z0] <;> omega
    · simp [hi]
  have m24 := o
  clear o
  by_cases o : op = 25
  · subst o
    have hb : bin 25 = false := rfl
    have hc : cst 25 = false := rfl
    have hu : usedOf 25 = some ⟨#[65]⟩ := rfl
    have hL : minsOk r n ⟨25, w, d, a, b, c, imm⟩ = _ := mins_eq r n _ _ hu
    rw [hL, blank_eq _ _ false false true false false false rfl rfl rfl rfl rfl rfl]
    simp only [hc, insS, placedB, hb]
    apply fin_same
    by_cases hi : imm = 0
    · simp [hi, regs4_iff, regB_iff, z0] <;> omega
    · simp [hi]
  have m25 := o
  clear o
  have hu : usedOf op = none := by
    unfold usedOf; rw [hb, hc]; simp [m21, m22, m23, m24, m25, m31, m32, m33, m35, m34]
  have hL : minsOk r n ⟨op, w, d, a, b, c, imm⟩ = false := by unfold minsOk; simp only [hu]
  rw [hL]
  simp [insS, hb, hc, m21, m22, m23, m24, m25, m31, m32, m33, m35, m34]
end Go.Proofs.Ytdnbiohohbnhgaa
set_option linter.unusedSimpArgs false
set_option linter.unusedVariables false
namespace Go.Proofs.Ytdnbiohohbnhgaa
open Go.RowKit
theorem quietS {P : Program} {f : FuncId} {args : Array Value} {w : World} {n : Nat} {v : Value} (h : Calls P f args (w.drewN n) (Same v (w.drewN n))) : Calls P f args (w.drewN n) fun e w'' => e = .returned v ∧ ∃ m, w'' = w.drewN m :=
  h.mono fun _ _ ⟨he, hm⟩ => ⟨he, n, hm.symm⟩
theorem drewN_below {B : Nat} {w W : World} (h : Below B w W) (n : Nat) : Below B w (W.drewN n) := ⟨h.os, h.tape, h.output, h.size, h.block⟩
theorem all_drop {α : Type} (f : α → Bool) (l : List α) (k : Nat) (h : k < l.length) : (l.drop k).all f = (f l[k] && (l.drop (k + 1)).all f) := by rw [List.drop_eq_getElem_cons h, List.all_cons]
set_option maxRecDepth 20000 in
set_option maxHeartbeats 4000000 in
theorem s_ProgramOk (p : XProg) (cs : List Value) (w : World) (hp : KProg lm w p cs) : Calls Try.prog 34 #[.agg cs.toArray] w (Ret (.bool (progOk p)) w) := by
  obtain ⟨v1, v2, v3, rfl, r1, r2, r3⟩ := hp
  obtain ⟨A1, c1, rfl, -, l1, r1'⟩ := r1.sm
  obtain ⟨A2, c2, rfl, -, l2, r2'⟩ := r2.sm
  obtain ⟨A3, c3, rfl, -, l3, r3'⟩ := r3.sm
  have hw1 := fun W => s_l1In p.regs 1 130 W
  have hw2 := fun W => s_l1In p.code.length 1 600 W
  clear r1 r2 r3
  have hbl := fun o => (Below.refl w.heap.size w).al (Nat.le_refl _) o
  cases hq1 : inR p.regs 1 130
  · have hR : progOk p = false := by unfold progOk progPre; rw [hq1]; rfl
    rw [hR]
    rw [hq1] at hw1
    clear hR hq1 hw2
    go_enter Try.func34, Try.ntmps34
    go_wp2_with fail
    refine (hw1 _).mono ?_; rintro e w1 ⟨rfl, rfl⟩
    go_wp2
    go_ret
    exact ⟨rfl, hbl _⟩
  rw [hq1] at hw1
  have hr : 1 ≤ p.regs ∧ p.regs ≤ 130 := by unfold inR at hq1; simpa using hq1
  cases hq2 : inR p.code.length 1 600
  · have hR : progOk p = false := by unfold progOk progPre; rw [hq2]; simp
    rw [hR]
    rw [hq2] at hw2
    clear hR hq1 hq2
    go_enter Try.func34, Try.ntmps34
    go_wp2_with fail
    refine (hw1 _).mono ?_; rintro e w1 ⟨rfl, rfl⟩
    go_wp2_with fail
    refine (hw2 _).mono ?_; rintro e w1 ⟨rfl, rfl⟩
    go_wp2
    go_ret
    exact ⟨rfl, hbl _⟩
  rw [hq2] at hw2
  have hn : 1 ≤ p.code.length ∧ p.code.length ≤ 600 := by unfold inR at hq2; simp at hq2; omega
  by_cases h4 : p.params.length ≤ 4
  rotate_left
  · have hR : progOk p = false := by unfold progOk progPre; rw [decide_eq_false h4]; simp
    rw [hR]
    have d4 : decide (4 < (p.params.length : Int)) = true := by simp; omega
    clear hR hq1 hq2
    go_enter Try.func34, Try.ntmps34
    go_wp2_with fail
    refine (hw1 _).mono ?_; rintro e w1 ⟨rfl, rfl⟩
    go_wp2_with fail
    refine (hw2 _).mono ?_; rintro e w1 ⟨rfl, rfl⟩
    go_wp2
    go_ret
    exact ⟨rfl, hbl _⟩
  by_cases h5 : p.widths.length = p.params.length
  rotate_left
  · have hR : progOk p = false := by
      have : (p.widths.length == p.params.length) = false := by simpa using h5
      unfold progOk progPre; rw [this]; simp
    rw [hR]
    have d4 : decide (4 < (p.params.length : Int)) = false := by simp; omega
    have d5 : ((p.widths.length : Int) != (p.params.length : Int)) = true := by simp; omega
    clear hR hq1 hq2
    go_enter Try.func34, Try.ntmps34
    go_wp2_with fail
    refine (hw1 _).mono ?_; rintro e w1 ⟨rfl, rfl⟩
    go_wp2_with fail
    refine (hw2 _).mono ?_; rintro e w1 ⟨rfl, rfl⟩
    go_wp2
    go_ret
    exact ⟨rfl, hbl _⟩
  have d4 : decide (4 < (p.params.length : Int)) = false := by simp; omega
  have d5 : ((p.widths.length : Int) != (p.params.length : Int)) = false := by simp; omega
  have hpre : progPre p = true := by
    have : (p.widths.length == p.params.length) = true := by simpa using h5
    unfold progPre; rw [hq1, decide_eq_true h4, this, hq2]; rfl
  have hm := Hd.mk (show progOk p = _ from progOk_eq p (by omega))
  rw [hpre, Bool.true_and] at hm
  have hm0 : Hd (progOk p = (((p.params.drop 0).all (regB p.regs) && (p.widths.drop 0).all widthOk) && ((p.code.all (insS p.regs p.code.length) && isEnd (p.code[p.code.length - 1]'(by omega)).op)))) := ⟨by
    rw [hm.out]
    have : (fun x => minsOk p.regs (p.code.length : Int) x) = insS p.regs p.code.length := by funext x; exact ins_same _ _ hr.1 x
    change _ = _
    rw [show (p.code.all (minsOk p.regs p.code.length)) = p.code.all (insS p.regs p.code.length) from congrArg p.code.all this]
    simp only [List.drop_zero, Bool.and_assoc]
    rw [Bool.and_comm (isEnd _)]⟩
  clear hm hpre hq1 hq2
  generalize progOk p = R at *
  obtain ⟨W0, hW0⟩ : ∃ W0 : World, W0 = w.alloc (.cells #[.int .i64 p.regs, .slice A1 p.params.length c1, .slice A2 p.params.length c2, .slice A3 p.code.length c3] 46) := ⟨_, rfl⟩
  have hz0 : W0.heap.size = w.heap.size + 1 := by rw [hW0]; simp
  have hb0 : Below w.heap.size w W0 := by rw [hW0]; exact hbl _
  have hpc : Pc W0 w.heap.size p.regs (.slice A1 p.params.length c1) (.slice A2 p.params.length c2) (.slice A3 p.code.length c3) := by
    rw [hW0]
    refine ⟨?_, ?_, ?_, ?_⟩ <;> simp
  have hpc' := Hd.mk hpc
  have hb0' := Hd.mk hb0
  have hW0' := Hd.mk hW0
  clear hpc hb0 hW0 hbl
  go_enter Try.func34, Try.ntmps34
  go_wp2_with fail
  refine (hw1 _).mono ?_; rintro e w1 ⟨rfl, rfl⟩
  go_wp2_with fail
  refine (hw2 _).mono ?_; rintro e w1 ⟨rfl, rfl⟩
  clear hw1 hw2
  go_wp2_with fail
  rw [← hW0'.out]
  have hQ : ∃ Q, Q = (p.code.all (insS p.regs p.code.length) && isEnd (p.code[p.code.length - 1]'(by omega)).op) := ⟨_, rfl⟩
  obtain ⟨Q, hQ⟩ := hQ
  rw [← hQ] at hm0
  have hQ' := Hd.mk hQ
  clear hQ
  have hW0 := Hd.mk hW0'.out
  clear hW0'
  go_loopw [4] (fun s4 wr => ∃ k : Nat, k ≤ p.params.length ∧ s4 = .int .i64 k ∧ Hd (R = (((p.params.drop k).all (regB p.regs) && (p.widths.drop k).all widthOk) && Q)) ∧ Hd (Below W0.heap.size W0 wr)) (fun s4 _ => p.params.length - (intOf s4).toNat)
  case atStart => exact ⟨0, Nat.zero_le _, rfl, hm0, ⟨Below.refl _ _⟩⟩
  case round =>
    clear hm0
    obtain ⟨k, hk, rfl, hm, hbr⟩ := hrel
    have hx := hpc'.out.mv hbr.out (by omega)
    obtain ⟨a0, a1, a2, a3⟩ := hx
    by_cases hlt : k < p.params.length
    · obtain ⟨b, off, cs, hA, hbl, hk1, hat⟩ := r1'.out.in0 (hb0'.out.then hbr.out) k hlt
      cases hA
      cases hk1
      have g0 := hat 0 _ rfl
      simp at g0
      clear hat
      obtain ⟨b2, off2, cs, hA, hbl2, hk1, hat⟩ := r2'.out.in0 (hb0'.out.then hbr.out) k (by omega)
      cases hA
      cases hk1
      have g1 := hat 0 _ rfl
      simp at g1
      clear hat
      rw [all_drop _ _ _ hlt, all_drop _ p.widths k (by omega)] at hm
      have hin := fun W => s_l1In p.params[k] 0 (p.regs - 1) W
      change ∀ W, Calls Try.prog 36 #[.int .i64 p.params[k], .int .i64 0, .int .i64 (p.regs - 1)] W (Same (.bool (regB p.regs p.params[k])) W) at hin
      have hwd := fun W => s_WidthOk (p.widths[k]'(by omega)) W
      generalize p.params[k] = pk at *
      generalize p.widths[k]'(by omega) = wk at *
      have y0 : (0 : Int) ≤ (k : Int) := by omega
      have y1 : (k : Int) < (p.params.length : Int) := by omega
      cases hq1 : regB p.regs pk
      · replace hm := Hd.mk (show R = false by rw [hm.out, hq1]; rfl)
        rw [hq1] at hin
        clear hq1
        go_wp2
        go_quiet (first | (go_at_call 36; exact quietS (hin _)) | (go_at_call 48; exact quietS (hwd _)))
        go_wp2
        go_ret
        exact ⟨by rw [hm.out]; rfl, drewN_below (hb0'.out.then hbr.out) _⟩
      cases hq2 : widthOk wk
      · replace hm := Hd.mk (show R = false by rw [hm.out, hq2]; simp)
        rw [hq1] at hin
        rw [hq2] at hwd
        clear hq1 hq2
        go_wp2
        go_quiet (first | (go_at_call 36; exact quietS (hin _)) | (go_at_call 48; exact quietS (hwd _)))
        go_wp2
        go_ret
        exact ⟨by rw [hm.out]; rfl, drewN_below (hb0'.out.then hbr.out) _⟩
      · replace hm := Hd.mk (show R = (((p.params.drop (k + 1)).all (regB p.regs) && (p.widths.drop (k + 1)).all widthOk) && Q) by rw [hm.out, hq1, hq2]; rfl)
        rw [hq1] at hin
        rw [hq2] at hwd
        clear hq1 hq2
        go_wp2
        go_quiet (first | (go_at_call 36; exact quietS (hin _)) | (go_at_call 48; exact quietS (hwd _)))
        go_wp2
        go_roundw
        case rel => exact ⟨k + 1, by omega, by go_num, hm, ⟨drewN_below hbr.out _⟩⟩
        case measure => simp [intOf]; omega
    · have e : k = p.params.length := by omega
      subst e
      replace hm := Hd.mk (show R = Q by rw [hm.out, List.drop_length, ← h5, List.drop_length]; rfl)
      go_wp2_with fail
      have hQ0 : Hd (R = ((p.code.drop 0).all (insS p.regs p.code.length) && isEnd (p.code[p.code.length - 1]'(by omega)).op)) := ⟨by rw [hm.out, hQ'.out, List.drop_zero]⟩
      have hbr' := hbr
      clear hm a0 a1 a2 a3 r1' r2' d4 d5 hQ' hbr
      obtain ⟨wo, hwo⟩ : ∃ wo : World, wo = wr := ⟨_, rfl⟩
      rw [← hwo] at hbr' ⊢
      clear hwo
      go_loopw [5] (fun s5 wr => ∃ k : Nat, k ≤ p.code.length ∧ s5 = .int .i64 k ∧ Hd (R = ((p.code.drop k).all (insS p.regs p.code.length) && isEnd (p.code[p.code.length - 1]'(by omega)).op)) ∧ Hd (Below W0.heap.size W0 wr)) (fun s5 _ => p.code.length - (intOf s5).toNat)
      case atStart => exact ⟨0, Nat.zero_le _, rfl, hQ0, hbr'⟩
      case round =>
        clear hQ0 hbr'
        obtain ⟨k, hk, rfl, hm, hbr⟩ := hrel
        have hx := hpc'.out.mv hbr.out (by omega)
        obtain ⟨a0, a1, a2, a3⟩ := hx
        have hzr := hbr.out.size
        by_cases hlt : k < p.code.length
        · obtain ⟨b, off, cs, hA, hbl, ⟨rfl, -⟩, hat⟩ := r3'.out.in0 (hb0'.out.then hbr.out) k hlt
          cases hA
          have g0 := hat 0 _ rfl
          have g1 := hat 1 _ rfl
          have g2 := hat 2 _ rfl
          have g3 := hat 3 _ rfl
          have g4 := hat 4 _ rfl
          have g5 := hat 5 _ rfl
          have g6 := hat 6 _ rfl
          simp at g0 g1 g2 g3 g4 g5 g6
          clear hat
          rw [all_drop _ _ _ hlt] at hm
          have hins := fun W => s_l17Ins p.regs p.code.length p.code[k] W hr (by omega)
          unfold minsV at hins
          generalize p.code[k] = x at *
          have hins' := Hd.mk hins
          clear hins
          have y0 : (0 : Int) ≤ (k : Int) := by omega
          have y1 : (k : Int) < (p.code.length : Int) := by omega
          go_wp2
          go_still_tail 8, (by kernel_rfl)
          change wpList _ _ _ _ _ wr.drew
          go_wp2_with fail
          refine (hins'.out _).mono ?_; rintro e w2 ⟨rfl, hb2⟩
          have hbz := Hd.mk (hbr.out.then (show Below wr.heap.size wr w2 from ⟨hb2.os, hb2.tape, hb2.output, hb2.size, hb2.block⟩))
          clear hb2 hins' g0 g1 g2 g3 g4 g5 g6
          cases hq : insS p.regs p.code.length x
          · replace hm := Hd.mk (show R = false by rw [hm.out, hq]; rfl)
            clear hq
            go_wp2
            go_ret
            exact ⟨by rw [hm.out]; rfl, hb0'.out.then hbz.out⟩
          · rw [hq, Bool.true_and] at hm
            clear hq
            go_wp2
            go_roundw
            case rel => exact ⟨k + 1, by omega, by go_num, hm, hbz⟩
            case measure => simp [intOf]; omega
        · have e : k = p.code.length := by omega
          subst e
          rw [List.drop_length, List.all_nil, Bool.true_and] at hm
          obtain ⟨b, off, cs, hA, hbl, ⟨rfl, -⟩, hat⟩ := r3'.out.in0 (hb0'.out.then hbr.out) (p.code.length - 1) (by omega)
          cases hA
          have g0 := hat 0 _ rfl
          simp only [Nat.add_zero] at g0
          clear hat
          have hi1 : ((p.code.length : Int) - 1).toNat = p.code.length - 1 := by omega
          generalize (p.code[p.code.length - 1]'(by omega)).op = lop at *
          have y0 : (0 : Int) ≤ (p.code.length : Int) - 1 := by omega
          have y1 : (p.code.length : Int) - 1 < (p.code.length : Int) := by omega
          go_wp2_with fail
          all_goals
            go_ret
            exact ⟨by rw [hm.out]; simp [isEnd, *], hb0'.out.then hbr.out⟩
end Go.Proofs.Ytdnbiohohbnhgaa
set_option linter.unusedSimpArgs false
set_option linter.unusedVariables false
namespace Go.Proofs.Ytdnbiohohbnhgaa
open Go.RowKit
/-! ### the machine, as a plain function -/
structure MS where
  regs : List Int
  mem : List Int
  out : List Int
def rg (s : MS) (k : Int) : Int := s.regs.getD k.toNat 0
/-- What an instruction that gives something gives, and the code. -/
def valM (x : XMIns) (s : MS) : Int × Int :=
  if bin x.op then (if (binV x.op x.w (mskd x.w (rg s x.a)) (mskd x.w (rg s x.b))).2 = 0 then ((binV x.op x.w (mskd x.w (rg s x.a)) (mskd x.w (rg s x.b))).1, 0) else (0, 1))
  else if cst x.op then ((castV x.op x.c x.w (mskd x.c (rg s x.a))).1, 0)
  else if x.op = 21 then (x.imm, 0)
  else if x.op = 22 then (if rg s x.a % 2 = 1 then mskd x.w (rg s x.b) else mskd x.w (rg s x.c), 0)
  else if x.op = 23 then (if 32 ≤ rg s x.a then (0, 2) else (s.mem.getD (rg s x.a).toNat 0, 0))
  else (mskd x.w (rg s x.a), 0)
/-- What comes of an instruction that goes on, and the code. -/
def doM (x : XMIns) (s : MS) : MS × Int :=
  if x.op = 24 then (if 32 ≤ rg s x.a then (s, 2) else (⟨s.regs, s.mem.set (rg s x.a).toNat (rg s x.b % 256), s.out⟩, 0))
  else if x.op = 25 then (if s.out.length = 30 then (s, 7) else (⟨s.regs, s.mem, s.out ++ [rg s x.a]⟩, 0))
  else if (valM x s).2 = 0 then (⟨s.regs.set x.d.toNat (valM x s).1, s.mem, s.out⟩, 0) else (s, (valM x s).2)
structure MRes where
  code : Int
  value : Int
  steps : Int
  st : MS
/-- A run with so many steps left. -/
def runM (p : XProg) (fuel : Int) : Nat → Int → MS → MRes
  | 0, _, s => ⟨4, 0, fuel, s⟩
  | n + 1, pc, s =>
    let x := p.code.getD pc.toNat default
    if x.op = 31 ∨ (x.op = 32 ∧ rg s x.a % 2 = 1) then runM p fuel n x.imm s
    else if x.op = 32 then runM p fuel n (pc + 1) s
    else if x.op = 33 then ⟨0, mskd x.w (rg s x.a), fuel - n, s⟩
    else if x.op = 34 then ⟨3, 0, fuel - n, s⟩
    else if (doM x s).2 = 0 then runM p fuel n (pc + 1) (doM x s).1
    else ⟨(doM x s).2, 0, fuel - n, (doM x s).1⟩
/-- What holds of the machine all along. -/
structure MOk (r : Int) (s : MS) : Prop where
  regs : s.regs.length = r.toNat
  rng : ∀ i (h : i < s.regs.length), 0 ≤ s.regs[i] ∧ s.regs[i] ≤ 4294967295
  mem : s.mem.length = 32
  byt : ∀ i (h : i < s.mem.length), 0 ≤ s.mem[i] ∧ s.mem[i] ≤ 255
  out : s.out.length ≤ 30
theorem rg_rng {r : Int} {s : MS} (h : MOk r s) (k : Int) : 0 ≤ rg s k ∧ rg s k ≤ 4294967295 := by
  unfold rg
  rw [List.getD_eq_getElem?_getD]
  by_cases hk : k.toNat < s.regs.length
  · rw [List.getElem?_eq_getElem hk]; exact h.rng _ hk
  · rw [List.getElem?_eq_none (by omega)]; exact ⟨by decide, by decide⟩
theorem mskd_rng (w n : Int) : 0 ≤ mskd w n ∧ mskd w n ≤ 4294967295 := by
  unfold mskd
  cases h : widthOk w
  · rw [if_neg (by decide)]; exact ⟨by decide, by decide⟩
  · rw [if_pos rfl]
    have hp := pow_bd w h
    have h1 := Int.emod_nonneg n (show (2 : Int) ^ w.toNat ≠ 0 by omega)
    have h2 := Int.emod_lt_of_pos n (show (0 : Int) < 2 ^ w.toNat by omega)
    omega
theorem bin_rng (op w a b : Int) : 0 ≤ (binV op w a b).1 ∧ (binV op w a b).1 ≤ 4294967295 := by
  unfold binV
  split
  · exact ⟨by decide, by decide⟩
  · split
    · exact ⟨by decide, by decide⟩
    · exact mskd_rng _ _
theorem cast_rng (op f t v : Int) (h : 0 ≤ v ∧ v ≤ 4294967295) : 0 ≤ (castV op f t v).1 ∧ (castV op f t v).1 ≤ 4294967295 := by
  unfold castV
  split
  · exact ⟨by decide, by decide⟩
  split
  · exact h
  split
  · exact mskd_rng _ _
  split
  · exact mskd_rng _ _
  · exact ⟨by decide, by decide⟩
theorem mins_regs {r n : Int} {x : XMIns} (h : minsOk r n x = true) : (0 ≤ x.d ∧ x.d < r) ∧ (0 ≤ x.a ∧ x.a < r) ∧ (0 ≤ x.b ∧ x.b < r) ∧ (cst x.op = false → 0 ≤ x.c ∧ x.c < r) ∧ placedB n x = true ∧ (usedOf x.op).isSome = true := by
  unfold minsOk at h
  cases hu : usedOf x.op with
  | none => rw [hu] at h; cases h
  | some u =>
    rw [hu] at h
    simp only [Bool.and_eq_true, regB_iff] at h
    obtain ⟨⟨⟨⟨⟨-, h1⟩, h2⟩, h3⟩, h4⟩, h5⟩ := h
    refine ⟨by omega, by omega, by omega, fun hc => ?_, h4, rfl⟩
    rw [hc] at h5
    have := (regB_iff _ _).1 (by simpa using h5)
    omega
theorem val_m_rng {r n : Int} {x : XMIns} {s : MS} (h : MOk r s) (hx : minsOk r n x = true) : 0 ≤ (valM x s).1 ∧ (valM x s).1 ≤ 4294967295 := by
  unfold valM
  split
  · split
    · exact bin_rng _ _ _ _
    · exact ⟨by decide, by decide⟩
  split
  · exact cast_rng _ _ _ _ (mskd_rng _ _)
  split
  · rename_i h1 h2 h3
    obtain ⟨-, -, -, -, hp, -⟩ := mins_regs hx
    unfold placedB at hp
    rw [if_neg (by omega), if_neg (by omega), if_pos h3] at hp
    obtain ⟨v1, v2, -⟩ := val_rng hp
    exact ⟨v1, v2⟩
  split
  · simp only
    split
    · exact mskd_rng _ _
    · exact mskd_rng _ _
  split
  · split
    · exact ⟨by decide, by decide⟩
    · simp only
      rw [List.getD_eq_getElem?_getD]
      by_cases hk : (rg s x.a).toNat < s.mem.length
      · rw [List.getElem?_eq_getElem hk]
        have := h.byt _ hk
        simp only [Option.getD_some]
        omega
      · rw [List.getElem?_eq_none (by omega)]; exact ⟨by decide, by decide⟩
  · exact mskd_rng _ _
theorem doM_ok {r n : Int} {x : XMIns} {s : MS} (h : MOk r s) (hx : minsOk r n x = true) : MOk r (doM x s).1 := by
  have hb := rg_rng h x.b
  have hv := val_m_rng h hx
  unfold doM
  split
  · split
    · exact h
    · refine ⟨h.regs, h.rng, by simpa using h.mem, fun i hi => ?_, h.out⟩
      simp only [List.getElem_set]
      split
      · omega
      · exact h.byt i (by simpa using hi)
  split
  · split
    · exact h
    · rename_i hl
      refine ⟨h.regs, h.rng, h.mem, h.byt, ?_⟩
      have := h.out
      simp; omega
  split
  · refine ⟨by simpa using h.regs, fun i hi => ?_, h.mem, h.byt, h.out⟩
    simp only [List.getElem_set]
    split
    · exact hv
    · exact h.rng i (by simpa using hi)
  · exact h
/-- The next place is in the code, where an instruction goes on. -/
theorem pc_next {p : XProg} (h : progOk p = true) (pc : Int) (h0 : 0 ≤ pc) (hl : pc < p.code.length) (hne : isEnd (p.code.getD pc.toNat default).op = false) : pc + 1 < p.code.length := by
  have hn : 0 < p.code.length := by omega
  rw [progOk_eq p hn] at h
  simp only [Bool.and_eq_true] at h
  obtain ⟨-, -, -, he, -⟩ := h
  by_cases h' : pc + 1 < p.code.length
  · exact h'
  · have e : pc.toNat = p.code.length - 1 := by omega
    rw [e, List.getD_eq_getElem?_getD, List.getElem?_eq_getElem (by omega)] at hne
    simp only [Option.getD_some] at hne
    rw [he] at hne; cases hne
theorem pc_ins {p : XProg} (h : progOk p = true) (pc : Int) (h0 : 0 ≤ pc) (hl : pc < p.code.length) : minsOk p.regs p.code.length (p.code.getD pc.toNat default) = true := by
  have hn : 0 < p.code.length := by omega
  rw [progOk_eq p hn] at h
  simp only [Bool.and_eq_true, List.all_eq_true] at h
  obtain ⟨-, -, -, -, h5⟩ := h
  rw [List.getD_eq_getElem?_getD, List.getElem?_eq_getElem (show pc.toNat < p.code.length by omega)]
  exact h5 _ (List.getElem_mem _)
theorem pc_jump {p : XProg} {n : Int} {x : XMIns} (h : minsOk p.regs n x = true) (ho : x.op = 31 ∨ x.op = 32) : 0 ≤ x.imm ∧ x.imm < n := by
  obtain ⟨-, -, -, -, hp, -⟩ := mins_regs h
  unfold placedB at hp
  rw [if_pos ho] at hp
  unfold inR at hp
  simp at hp
  omega
end Go.Proofs.Ytdnbiohohbnhgaa
set_option linter.unusedSimpArgs false
set_option linter.unusedVariables false
namespace Go.Proofs.Ytdnbiohohbnhgaa
open Go.RowKit
def argsOk (ws xs : List Int) : Bool := ws.length == xs.length && (ws.zip xs).all fun p => isVal p.1 p.2
set_option maxHeartbeats 1000000 in
theorem c_EqualFunc (v u : Value) (ws xs : List Int) (w : World) (hv : RI lm w v ws) (hu : RI lm w u xs) : Calls Try.prog 73 #[v, u, .func (.func 74) #[] #[]] w (Ret (.bool (argsOk ws xs)) w) := by
  obtain ⟨A1, c1, rfl, -, l1, r1'⟩ := hv.sm
  obtain ⟨A2, c2, rfl, -, l2, r2'⟩ := hu.sm
  have eg := enters_of Try.func74 (by kernel_rfl) rfl
  clear hv hu
  by_cases hl : ws.length = xs.length
  rotate_left
  · have d : ((ws.length : Int) != (xs.length : Int)) = true := by simp; omega
    have hR : argsOk ws xs = false := by
      have : (ws.length == xs.length) = false := by simpa using hl
      unfold argsOk; rw [this]; rfl
    rw [hR]
    clear hR eg
    go_enter Try.func73, Try.ntmps73
    go_wp2
    go_ret
    exact ⟨rfl, Below.refl _ _⟩
  have d : ((ws.length : Int) != (xs.length : Int)) = false := by simp; omega
  have hm : Hd (argsOk ws xs = (((ws.zip xs).drop 0).all fun p => isVal p.1 p.2)) := ⟨by
    have : (ws.length == xs.length) = true := by simpa using hl
    unfold argsOk; rw [this, List.drop_zero, Bool.true_and]⟩
  generalize argsOk ws xs = R at *
  rw [← hl] at r2' l2 d ⊢
  have hl' := Hd.mk hl
  clear hl
  go_enter Try.func73, Try.ntmps73
  go_wp2
  go_loopw [17] (fun s17 wr => ∃ k : Nat, k ≤ ws.length ∧ s17 = .int .i64 k ∧ Hd (R = (((ws.zip xs).drop k).all fun p => isVal p.1 p.2)) ∧ wr = w) (fun s17 _ => ws.length - (intOf s17).toNat)
  case atStart => exact ⟨0, Nat.zero_le _, rfl, hm, rfl⟩
  case round =>
    clear hm
    obtain ⟨k, hk, rfl, hm, rfl⟩ := hrel
    by_cases hlt : k < ws.length
    · obtain ⟨b, off, cs, hA, hbl, hk1, hat⟩ := r1'.out.in0 (Below.refl _ _) k hlt
      cases hA
      cases hk1
      have g0 := hat 0 _ rfl
      simp at g0
      clear hat
      obtain ⟨b2, off2, cs, hA, hbl2, hk1, hat⟩ := r2'.out.in0 (Below.refl _ _) k (by have := hl'.out; omega)
      cases hA
      cases hk1
      have g1 := hat 0 _ rfl
      simp at g1
      clear hat
      rw [all_drop _ _ _ (by have := hl'.out; simp; omega)] at hm
      simp only [List.getElem_zip] at hm
      have hv := c_isValue ws[k] (xs[k]'(by have := hl'.out; omega)) wr
      generalize ws[k] = a at *
      generalize xs[k]'(by have := hl'.out; omega) = c at *
      have hlt2 : (k : Int) < (ws.length : Int) := by omega
      cases hq : isVal a c
      · rw [hq] at hv
        replace hm := Hd.mk (show R = false by rw [hm.out, hq]; rfl)
        clear hq
        go_wp2_with fail
        refine hv.mono ?_; rintro e w' ⟨rfl, rfl⟩
        go_wp2
        go_ret
        exact ⟨by rw [hm.out]; rfl, Below.refl _ _⟩
      · rw [hq] at hv
        rw [hq, Bool.true_and] at hm
        clear hq
        go_wp2_with fail
        refine hv.mono ?_; rintro e w' ⟨rfl, rfl⟩
        go_wp2
        go_roundw
        case rel => exact ⟨k + 1, by omega, by go_num, hm, by trivial⟩
        case measure => simp [intOf]; omega
    · have e : k = ws.length := by omega
      subst e
      replace hm := Hd.mk (show R = true by rw [hm.out, List.drop_eq_nil_of_le (by have := hl'.out; simp; omega)]; rfl)
      go_wp2
      go_ret
      exact ⟨by rw [hm.out]; rfl, Below.refl _ _⟩
theorem c_areArgs (v u : Value) (ws xs : List Int) (w : World) (hv : RI lm w v ws) (hu : RI lm w u xs) : Calls Try.prog 41 #[v, u] w (Ret (.bool (argsOk ws xs)) w) := by
  have h := c_EqualFunc v u ws xs w hv hu
  clear hv hu
  go_enter Try.func41, Try.ntmps41
  go_wp2_with fail
  refine h.mono ?_; rintro e w1 ⟨rfl, hb1⟩
  go_wp2
  go_ret
  exact ⟨rfl, hb1⟩
set_option maxHeartbeats 1000000 in
theorem s_l7Args (v u v3 : Value) (ret : Int) (ws xs : List Int) (w : World) (hv : RI lm w v ws) (hu : RI lm w u xs) : Calls Try.prog 35 #[.agg #[v, .int .i64 ret, v3], u] w (Ret (.bool (argsOk ws xs)) w) := by
  obtain ⟨A1, c1, rfl, -, l1, r1'⟩ := hv.sm
  obtain ⟨A2, c2, rfl, -, l2, r2'⟩ := hu.sm
  clear hv hu
  have hbl := fun o => (Below.refl w.heap.size w).al (Nat.le_refl _) o
  by_cases hl : ws.length = xs.length
  rotate_left
  · have d : ((xs.length : Int) != (ws.length : Int)) = true := by simp; omega
    have hR : argsOk ws xs = false := by
      have : (ws.length == xs.length) = false := by simpa using hl
      unfold argsOk; rw [this]; rfl
    rw [hR]
    clear hR
    go_enter Try.func35, Try.ntmps35
    go_wp2
    go_ret
    exact ⟨rfl, by first | exact Below.refl _ _ | exact hbl _⟩
  have d : ((xs.length : Int) != (ws.length : Int)) = false := by simp; omega
  have hm : Hd (argsOk ws xs = (((ws.zip xs).drop 0).all fun p => isVal p.1 p.2)) := ⟨by
    have : (ws.length == xs.length) = true := by simpa using hl
    unfold argsOk; rw [this, List.drop_zero, Bool.true_and]⟩
  generalize argsOk ws xs = R at *
  rw [← hl] at r2' l2 d ⊢
  have hl' := Hd.mk hl
  clear hl
  go_enter Try.func35, Try.ntmps35
  go_wp2
  have hW0 : ∃ W0 : World, Below w.heap.size w W0 ∧ W0.cell? ⟨w.heap.size, 0, none⟩ = some (.slice A1 ws.length c1) ∧ w.heap.size < W0.heap.size ∧ W0 = w.alloc (.cells #[.slice A1 ws.length c1, .int .i64 ret, v3] 30) := ⟨_, hbl _, by simp, by simp, rfl⟩
  obtain ⟨W0, hb0, k0, hz0, hW0⟩ := hW0
  rw [← hW0]
  have hb0' := Hd.mk hb0
  have k0' := Hd.mk k0
  clear hW0 hb0 k0 hbl
  go_loopw [5] (fun s5 wr => ∃ k : Nat, k ≤ ws.length ∧ s5 = .int .i64 k ∧ Hd (R = (((ws.zip xs).drop k).all fun p => isVal p.1 p.2)) ∧ Hd (Below W0.heap.size W0 wr)) (fun s5 _ => ws.length - (intOf s5).toNat)
  case atStart => exact ⟨0, Nat.zero_le _, rfl, hm, ⟨Below.refl _ _⟩⟩
  case round =>
    clear hm
    obtain ⟨k, hk, rfl, hm, hbr⟩ := hrel
    have a0 := (bat hbr.out w.heap.size (by omega) 0).trans k0'.out
    by_cases hlt : k < ws.length
    · obtain ⟨b, off, cs, hA, hbl, hk1, hat⟩ := r1'.out.in0 (hb0'.out.then hbr.out) k hlt
      cases hA
      cases hk1
      have g0 := hat 0 _ rfl
      simp at g0
      clear hat
      obtain ⟨b2, off2, cs, hA, hbl2, hk1, hat⟩ := r2'.out.in0 (hb0'.out.then hbr.out) k (by have := hl'.out; omega)
      cases hA
      cases hk1
      have g1 := hat 0 _ rfl
      simp at g1
      clear hat
      rw [all_drop _ _ _ (by have := hl'.out; simp; omega)] at hm
      simp only [List.getElem_zip] at hm
      have hv := fun W => s_l1Value ws[k] (xs[k]'(by have := hl'.out; omega)) W
      generalize ws[k] = a at *
      generalize xs[k]'(by have := hl'.out; omega) = c at *
      have hlt2 : (k : Int) < (ws.length : Int) := by omega
      have hlt3 : (k : Int) < (ws.length : Int) := by omega
      have y0 : (0 : Int) ≤ (k : Int) := by omega
      cases hq : isVal a c
      · rw [hq] at hv
        replace hm := Hd.mk (show R = false by rw [hm.out, hq]; rfl)
        clear hq
        go_wp2
        go_quiet ((go_at_call 60; exact quietS (hv _)))
        go_wp2
        go_ret
        exact ⟨by rw [hm.out]; rfl, drewN_below (hb0'.out.then hbr.out) _⟩
      · rw [hq] at hv
        rw [hq, Bool.true_and] at hm
        clear hq
        go_wp2
        go_quiet ((go_at_call 60; exact quietS (hv _)))
        go_wp2
        go_roundw
        case rel => exact ⟨k + 1, by omega, by go_num, hm, ⟨drewN_below hbr.out _⟩⟩
        case measure => simp [intOf]; omega
    · have e : k = ws.length := by omega
      subst e
      replace hm := Hd.mk (show R = true by rw [hm.out, List.drop_eq_nil_of_le (by have := hl'.out; simp; omega)]; rfl)
      go_wp2
      go_ret
      exact ⟨by rw [hm.out]; rfl, hb0'.out.then hbr.out⟩
end Go.Proofs.Ytdnbiohohbnhgaa
set_option linter.unusedSimpArgs false
set_option linter.unusedVariables false
namespace Go.Proofs.Ytdnbiohohbnhgaa
open Go.RowKit
/-- A row of bytes in block g. -/
def ByR (W : World) (g : Nat) (mem : List Int) : Prop := ∃ arr k, W.heap[g]? = some (.cells arr 5 (k, k + 1)) ∧ mem.length ≤ k ∧ mem.length ≤ arr.size ∧ ∀ i (h : i < mem.length), arr[i]? = some (.int .u8 mem[i])
theorem ByR.cell {W : World} {g : Nat} {mem : List Int} (h : ByR W g mem) (i : Nat) (hi : i < mem.length) : W.cell? ⟨g, i, none⟩ = some (.int .u8 mem[i]) ∧ W.frozen? ⟨g, i, none⟩ = false := by
  obtain ⟨arr, k, h1, h2, h3, h4⟩ := h
  constructor
  · unfold World.cell?
    simp only [h1, Option.isSome_none, Bool.false_eq_true, if_false]
    exact h4 i hi
  · unfold World.frozen?
    simp only [h1]
    have : ¬ k ≤ i := by omega
    simp [this]
theorem ByR.mv {W W' : World} {g : Nat} {mem : List Int} (h : ByR W g mem) (he : W'.heap[g]? = W.heap[g]?) : ByR W' g mem := by
  obtain ⟨arr, k, h1, h2⟩ := h; exact ⟨arr, k, he.trans h1, h2⟩
theorem ByR.lt {W : World} {g : Nat} {mem : List Int} (h : ByR W g mem) : g < W.heap.size := by
  obtain ⟨arr, k, h1, h2⟩ := h; exact (Array.getElem?_eq_some_iff.1 h1).1
theorem ByR.set {W : World} {g : Nat} {mem : List Int} (h : ByR W g mem) (i : Nat) (v : Int) : ByR (W.setCell ⟨g, i, none⟩ (.int .u8 v)) g (mem.set i v) := by
  obtain ⟨arr, k, h1, h2, h3, h4⟩ := h
  refine ⟨arr.setIfInBounds i (.int .u8 v), k, ?_, by simpa using h2, by simpa using h3, fun j hj => ?_⟩
  · have hlt := (Array.getElem?_eq_some_iff.1 h1).1
    have hx := (Array.getElem?_eq_some_iff.1 h1).2
    unfold World.setCell
    simp only [Array.getElem?_modify]
    rw [h1]
    simp
  · have hj' : j < mem.length := by simpa using hj
    rw [Array.getElem?_setIfInBounds]
    simp only [List.getElem_set]
    by_cases e : i = j
    · subst e
      rw [if_pos rfl, if_pos (by omega), if_pos rfl]
    · rw [if_neg e, if_neg e]; exact h4 j hj'
/-- The machine in block g: its registers in block gr, its memory in block gm. -/
def MI (lo g gr gm : Nat) (r : Int) (v1 v2 v3 : Value) (s : MS) (W : World) : Prop := ∃ Ao co cm,
  W.heap[g]? = some (.cells #[.int .i64 r, v1, v2, v3, .slice (some ⟨gr, 0, none⟩) r.toNat r.toNat, .slice (some ⟨gm, 0, none⟩) 32 cm, .slice Ao s.out.length co] 75 (0, 0)) ∧
  W.ownsRow lo 2 1 (.slice (some ⟨gr, 0, none⟩) r.toNat r.toNat) r.toNat (s.regs.map (Value.int .i64)) ∧ ByR W gm s.mem ∧
  (∃ lo2, W.ownsRow lo2 2 1 (.slice Ao s.out.length co) s.out.length (s.out.map (Value.int .i64)) ∧ g < lo2 ∧ gm < lo2 ∧ gr < lo2 ∧ lo2 ≤ W.heap.size) ∧ lo ≤ g ∧ lo ≤ gm ∧ g ≠ gm ∧ g ≠ gr ∧ gm ≠ gr ∧ lo ≤ gr
theorem MI.mv {lo g gr gm : Nat} {r : Int} {v1 v2 v3 : Value} {s : MS} {W W' : World} (h : MI lo g gr gm r v1 v2 v3 s W) (hb : Below W.heap.size W W') : MI lo g gr gm r v1 v2 v3 s W' := by
  obtain ⟨Ao, co, cm, h1, h2, h3, ⟨lo2, h4, i1, i2, i3, i4⟩, h5⟩ := h
  exact ⟨Ao, co, cm, (hb.block g (Array.getElem?_eq_some_iff.1 h1).1).trans h1, own_mv h2 hb, h3.mv (hb.block gm h3.lt), ⟨lo2, own_mv h4 hb, i1, i2, i3, Nat.le_trans i4 hb.size⟩, h5⟩
theorem MI.drew {lo g gr gm : Nat} {r : Int} {v1 v2 v3 : Value} {s : MS} {W : World} (h : MI lo g gr gm r v1 v2 v3 s W) (n : Nat) : MI lo g gr gm r v1 v2 v3 s (W.drewN n) := h
theorem reg_cell {lo g gr gm : Nat} {r : Int} {v1 v2 v3 : Value} {s : MS} {W : World} (h : MI lo g gr gm r v1 v2 v3 s W) (hs : MOk r s) (k : Int) (hk : 0 ≤ k ∧ k < r) : W.cell? ⟨gr, k.toNat, none⟩ = some (.int .i64 (rg s k)) := by
  obtain ⟨Ao, co, cm, h1, h2, -⟩ := h
  have hl := hs.regs
  have hkl : k.toNat < s.regs.length := by omega
  rw [World.ownsRow.cellAt h2 k.toNat (by omega), List.getElem?_map, List.getElem?_eq_getElem hkl]
  unfold rg
  rw [List.getD_eq_getElem?_getD, List.getElem?_eq_getElem hkl]; rfl
set_option maxHeartbeats 1000000 in
theorem c_masked (lo g gr gm : Nat) (r : Int) (v1 v2 v3 : Value) (s : MS) (W : World) (w k : Int) (h : MI lo g gr gm r v1 v2 v3 s W) (hs : MOk r s) (hk : 0 ≤ k ∧ k < r) (hr : r ≤ 130) : Calls Try.prog 75 #[.pointer (some ⟨g, 0, none⟩), .int .i64 w, .int .i64 k] W (Same (.int .i64 (mskd w (rg s k))) W) := by
  have hc := reg_cell h hs k hk
  have hm := fun W => c_Masked w (rg s k) W
  obtain ⟨Ao, co, cm, h1, -⟩ := h
  obtain ⟨c0, -⟩ := row_facts h1
  have k4 := c0 4
  simp at k4
  clear c0 h1
  obtain ⟨y0, y1⟩ := hk
  have y2 : k < (r.toNat : Int) := by omega
  have y3 : k < max r 0 := by omega
  generalize rg s k = v at *
  go_enter Try.func75, Try.ntmps75
  go_wp2_with fail
  refine (hm _).mono ?_; rintro e w1 ⟨rfl, rfl⟩
  go_wp2
  go_ret
  exact ⟨rfl, rfl⟩
def Xc (W : World) (b : Nat) (x : XMIns) : Prop := W.cell? ⟨b, 0, none⟩ = some (.int .i64 x.op) ∧ W.cell? ⟨b, 1, none⟩ = some (.int .i64 x.w) ∧ W.cell? ⟨b, 2, none⟩ = some (.int .i64 x.d) ∧ W.cell? ⟨b, 3, none⟩ = some (.int .i64 x.a) ∧
  W.cell? ⟨b, 4, none⟩ = some (.int .i64 x.b) ∧ W.cell? ⟨b, 5, none⟩ = some (.int .i64 x.c) ∧ W.cell? ⟨b, 6, none⟩ = some (.int .i64 x.imm)
theorem MI.cells {lo g gr gm : Nat} {r : Int} {v1 v2 v3 : Value} {s : MS} {W : World} (h : MI lo g gr gm r v1 v2 v3 s W) : ∃ Ao co cm, W.cell? ⟨g, 0, none⟩ = some (.int .i64 r) ∧ W.cell? ⟨g, 1, none⟩ = some v1 ∧ W.cell? ⟨g, 2, none⟩ = some v2 ∧ W.cell? ⟨g, 3, none⟩ = some v3 ∧
    W.cell? ⟨g, 4, none⟩ = some (.slice (some ⟨gr, 0, none⟩) r.toNat r.toNat) ∧ W.cell? ⟨g, 5, none⟩ = some (.slice (some ⟨gm, 0, none⟩) 32 cm) ∧ W.cell? ⟨g, 6, none⟩ = some (.slice Ao s.out.length co) := by
  obtain ⟨Ao, co, cm, h1, -⟩ := h
  obtain ⟨c0, -⟩ := row_facts h1
  exact ⟨Ao, co, cm, c0 0, c0 1, c0 2, c0 3, c0 4, c0 5, c0 6⟩
set_option maxHeartbeats 4000000 in
theorem c_value (lo g gr gm : Nat) (r n : Int) (v1 v2 v3 : Value) (s : MS) (W : World) (x : XMIns) (h : MI lo g gr gm r v1 v2 v3 s W) (hs : MOk r s) (hr : r ≤ 130) (hx : minsOk r n x = true) (hend : x.op ≠ 24 ∧ x.op ≠ 25) :
    Calls Try.prog 110 #[.pointer (some ⟨g, 0, none⟩), minsV x] W (Ret (.tuple #[.int .i64 (valM x s).1, .int .i64 (valM x s).2]) W) := by
  obtain ⟨rd, ra, rb, rc, -, -⟩ := mins_regs hx
  obtain ⟨op, wd, d, a, b, c, imm⟩ := x
  simp only at rd ra rb rc hend
  obtain ⟨W0, hW0⟩ : ∃ W0 : World, W0 = W.alloc (.cells #[.int .i64 op, .int .i64 wd, .int .i64 d, .int .i64 a, .int .i64 b, .int .i64 c, .int .i64 imm] 71) := ⟨_, rfl⟩
  have hb0 : Below W.heap.size W W0 := by rw [hW0]; exact (Below.refl _ _).al (Nat.le_refl _) _
  have hM := h.mv hb0
  have hxc : Xc W0 W.heap.size ⟨op, wd, d, a, b, c, imm⟩ := by
    rw [hW0]
    refine ⟨?_, ?_, ?_, ?_, ?_, ?_, ?_⟩ <;> simp
  have hmk := fun w k hk n => c_masked lo g gr gm r v1 v2 v3 s (W0.drewN n) w k (hM.drew n) hs hk hr
  have hbn := fun W => c_Binary op wd (mskd wd (rg s a)) (mskd wd (rg s b)) W
  have hct := fun W => c_Casted op c wd (mskd c (rg s a)) W
  have hib := fun W => c_isBinary op W
  have hic := fun W => c_isCast op W
  have hrga := reg_cell hM hs a ra
  have hrng := rg_rng hs a
  obtain ⟨Ao, co, cm, k0, k1, k2, k3, k4, k5, k6⟩ := hM.cells
  have hM' := Hd.mk hM
  have hb0' := Hd.mk hb0
  have hW0' := Hd.mk hW0
  obtain ⟨x0, x1, x2, x3, x4, x5, x6⟩ := hxc
  have hm := Hd.mk (show valM ⟨op, wd, d, a, b, c, imm⟩ s = _ from rfl)
  generalize hV : valM ⟨op, wd, d, a, b, c, imm⟩ s = V at hm ⊢
  have hV' := Hd.mk hV
  clear hV hM h hb0 hW0 hm
  unfold valM at hV'
  unfold minsV
  simp only at *
  cases hq : bin op
  rotate_left
  · rw [hq] at hib hV'
    rw [if_pos rfl] at hV'
    have ha := hmk wd a ra
    have hbb := hmk wd b rb
    clear hmk hct hic hq
    generalize binV op wd (mskd wd (rg s a)) (mskd wd (rg s b)) = R at *
    by_cases h0 : R.2 = 0
    · rw [if_pos h0] at hV'
      have d0 : (R.2 != 0) = false := by simpa using h0
      go_enter Try.func110, Try.ntmps110
      go_wp2_with fail
      rw [← hW0'.out]
      refine (hib _).mono ?_; rintro e w1 ⟨rfl, rfl⟩
      go_wp2
      go_quiet (first | (go_at_call_of 75 (a); exact quietS (ha _)) | (go_at_call 75; exact quietS (hbb _)) | (go_at_call 132; exact quietS (hbn _)))
      go_wp2
      go_ret2
      exact ⟨by rw [← hV'.out]; rfl, drewN_below hb0'.out _⟩
    · rw [if_neg h0] at hV'
      have d0 := bneT h0
      go_enter Try.func110, Try.ntmps110
      go_wp2_with fail
      rw [← hW0'.out]
      refine (hib _).mono ?_; rintro e w1 ⟨rfl, rfl⟩
      go_wp2
      go_quiet (first | (go_at_call_of 75 (a); exact quietS (ha _)) | (go_at_call 75; exact quietS (hbb _)) | (go_at_call 132; exact quietS (hbn _)))
      go_wp2
      go_ret2
      exact ⟨by rw [← hV'.out]; rfl, drewN_below hb0'.out _⟩
  rw [hq] at hib hV'
  rw [if_neg (by decide)] at hV'
  clear hbn hq
  cases hq : cst op
  rotate_left
  · rw [hq] at hic hV'
    rw [if_pos rfl] at hV'
    have ha := hmk c a ra
    clear hmk hq
    generalize castV op c wd (mskd c (rg s a)) = R at *
    go_enter Try.func110, Try.ntmps110
    go_wp2_with fail
    rw [← hW0'.out]
    refine (hib _).mono ?_; rintro e w1 ⟨rfl, rfl⟩
    go_wp2_with fail
    refine (hic _).mono ?_; rintro e w1 ⟨rfl, rfl⟩
    go_wp2
    go_quiet (first | (go_at_call 75; exact quietS (ha _)) | (go_at_call 133; exact quietS (hct _)))
    go_wp2
    go_ret2
    exact ⟨by rw [← hV'.out]; rfl, drewN_below hb0'.out _⟩
  rw [hq] at hic hV'
  have rc' := rc hq
  rw [if_neg (by decide)] at hV'
  clear hct hq
  by_cases o1 : op = 21
  · subst o1
    rw [if_pos rfl] at hV'
    go_enter Try.func110, Try.ntmps110
    go_wp2_with fail
    rw [← hW0'.out]
    refine (hib _).mono ?_; rintro e w1 ⟨rfl, rfl⟩
    go_wp2_with fail
    refine (hic _).mono ?_; rintro e w1 ⟨rfl, rfl⟩
    go_wp2
    go_ret2
    exact ⟨by rw [← hV'.out]; rfl, hb0'.out⟩
  rw [if_neg o1] at hV'
  have t1 := beqF o1
  by_cases o2 : op = 22
  · subst o2
    rw [if_pos rfl] at hV'
    have hbb := hmk wd b rb
    have hcc := hmk wd c rc'
    have y2 : a < (r.toNat : Int) := by omega
    have y3 : 0 ≤ a := ra.1
    have y4 : a < max r 0 := by omega
    clear hmk
    by_cases hodd : rg s a % 2 = 1
    · rw [if_pos hodd] at hV'
      generalize rg s a = ga at *
      have t2 : (ga % 2 == 1) = true := by simpa using hodd
      go_enter Try.func110, Try.ntmps110
      go_wp2_with fail
      rw [← hW0'.out]
      refine (hib _).mono ?_; rintro e w1 ⟨rfl, rfl⟩
      go_wp2_with fail
      refine (hic _).mono ?_; rintro e w1 ⟨rfl, rfl⟩
      go_wp2
      go_quiet (fail)
      go_wp2_with fail
      refine (hbb _).mono ?_; rintro e w1 ⟨rfl, rfl⟩
      go_wp2
      go_ret2
      exact ⟨by rw [← hV'.out]; rfl, drewN_below hb0'.out _⟩
    · rw [if_neg hodd] at hV'
      generalize rg s a = ga at *
      have t2 : (ga % 2 == 1) = false := by simpa using hodd
      go_enter Try.func110, Try.ntmps110
      go_wp2_with fail
      rw [← hW0'.out]
      refine (hib _).mono ?_; rintro e w1 ⟨rfl, rfl⟩
      go_wp2_with fail
      refine (hic _).mono ?_; rintro e w1 ⟨rfl, rfl⟩
      go_wp2
      go_quiet (fail)
      go_wp2_with fail
      refine (hcc _).mono ?_; rintro e w1 ⟨rfl, rfl⟩
      go_wp2
      go_ret2
      exact ⟨by rw [← hV'.out]; rfl, drewN_below hb0'.out _⟩
  rw [if_neg o2] at hV'
  have t2 := beqF o2
  by_cases o3 : op = 23
  · subst o3
    rw [if_pos rfl] at hV'
    have y2 : a < (r.toNat : Int) := by omega
    have y3 : 0 ≤ a := ra.1
    have y4 : a < max r 0 := by omega
    clear hmk
    obtain ⟨Ao', co', cm', -, -, hby, -⟩ := hM'.out
    have hml := hs.mem
    by_cases h32 : 32 ≤ rg s a
    · rw [if_pos h32] at hV'
      generalize rg s a = ga at *
      have d3 : decide (32 ≤ ga) = true := by simpa using h32
      go_enter Try.func110, Try.ntmps110
      go_wp2_with fail
      rw [← hW0'.out]
      refine (hib _).mono ?_; rintro e w1 ⟨rfl, rfl⟩
      go_wp2_with fail
      refine (hic _).mono ?_; rintro e w1 ⟨rfl, rfl⟩
      go_wp2
      go_quiet (fail)
      go_wp2
      go_ret2
      exact ⟨by rw [← hV'.out]; rfl, drewN_below hb0'.out _⟩
    · rw [if_neg h32] at hV'
      have hby' := (hby.cell (rg s a).toNat (by omega)).1
      have hgd : s.mem.getD (rg s a).toNat 0 = s.mem[(rg s a).toNat]'(by omega) := by rw [List.getD_eq_getElem?_getD, List.getElem?_eq_getElem (by omega)]; rfl
      rw [hgd] at hV'
      have hbv := hs.byt (rg s a).toNat (by omega)
      generalize s.mem[(rg s a).toNat]'(by omega) = bv at *
      generalize rg s a = ga at *
      have d3 : decide (32 ≤ ga) = false := by simpa using h32
      have y5 : 0 ≤ ga := hrng.1
      have y6 : ga < 32 := by omega
      go_enter Try.func110, Try.ntmps110
      go_wp2_with fail
      rw [← hW0'.out]
      refine (hib _).mono ?_; rintro e w1 ⟨rfl, rfl⟩
      go_wp2_with fail
      refine (hic _).mono ?_; rintro e w1 ⟨rfl, rfl⟩
      go_wp2
      go_quiet (fail)
      go_wp2
      go_quiet (fail)
      go_wp2
      go_ret2
      exact ⟨by rw [← hV'.out]; rfl, drewN_below (drewN_below hb0'.out _) _⟩
  rw [if_neg o3] at hV'
  have t3 := beqF o3
  have ha := hmk wd a ra 0
  clear hmk
  go_enter Try.func110, Try.ntmps110
  go_wp2_with fail
  rw [← hW0'.out]
  refine (hib _).mono ?_; rintro e w1 ⟨rfl, rfl⟩
  go_wp2_with fail
  refine (hic _).mono ?_; rintro e w1 ⟨rfl, rfl⟩
  go_wp2_with fail
  refine ha.mono ?_; rintro e w1 ⟨rfl, rfl⟩
  go_wp2
  go_ret2
  exact ⟨by rw [← hV'.out]; rfl, drewN_below hb0'.out _⟩
end Go.Proofs.Ytdnbiohohbnhgaa
