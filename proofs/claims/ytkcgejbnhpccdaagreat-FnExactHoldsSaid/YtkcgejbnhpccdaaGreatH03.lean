import Derived.Test.YtkcgejbnhpccdaaGreatJ43
import Derived.Test.YtkcgejbnhpccdaaGreatH02
import Derived.Test.YtkcgejbnhpccdaaGreatJ24
import Derived.Test.YtkcgejbnhpccdaaGreatJ44
import Derived.Deep.RegionHeld3
set_option linter.unusedSimpArgs false
set_option linter.unusedVariables false
namespace Go.Proofs.YtkcgejbnhpccdaaGreat
open Go.RowKit
def wRes (x : XRes) : Nat := x.out.length + x.mem.size
def wOra (x : XOra) : Nat := x.args.length + (x.mem.size + wRes x.want)
def KResW (w : World) (x : XRes) (cs : List Value) : Prop := ∃ v, cs = [.int .i64 x.code, .int .i64 x.value, v, .string x.mem, .int .i64 x.steps] ∧ RI lw w v x.out ∧ (x.mem.size : Int) ≤ 9223372036854775807
def KOraW (w : World) (x : XOra) (cs : List Value) : Prop := KOracle lw w x cs ∧ (x.mem.size : Int) ≤ 9223372036854775807 ∧ (x.want.mem.size : Int) ≤ 9223372036854775807
set_option maxHeartbeats 1000000 in
theorem z_Res (x : XRes) (cs : List Value) (left : Int) (w : World) (hk : KResW w x cs) (h0 : 0 ≤ left) (h1 : left ≤ 1048576) : Calls Tryz.prog 69 #[.agg cs.toArray, .int .i64 left] w (Ret (.int .i64 (sub left (wRes x))) w) := by
  obtain ⟨v1, rfl, r1, hn⟩ := hk
  obtain ⟨xc, xv, xo, xm, xs⟩ := x
  have hbl := fun o => (Below.refl w.heap.size w).al (Nat.le_refl _) o
  have z1 := fun W hW => z_I v1 xo left W (r1.mv hW) h0 h1
  unfold wRes
  simp only at *
  clear r1
  generalize xo.length = n1 at *
  rcases sub_cases left n1 h0 with ⟨e1, q1⟩ | ⟨e1, q1, q1'⟩
  · rw [e1] at z1
    rw [sub_lt left (n1 + xm.size) (by omega)]
    clear e1
    go_enter Tryz.func69, Tryz.ntmps69
    go_wp2_with fail
    refine (z1 _ (hbl _)).mono ?_; rintro e w1 ⟨rfl, hb1⟩
    go_wp2
    go_ret
    exact ⟨rfl, (hbl _).then hb1⟩
  · rw [e1] at z1
    rw [← sub_add left n1 xm.size q1']
    clear e1
    have q9 : left - (n1 : Int) ≤ 1048576 := by omega
    generalize left - (n1 : Int) = l1 at *
    rcases sub_cases l1 xm.size q1 with ⟨e2, q2⟩ | ⟨e2, q2, q2'⟩
    all_goals
      rw [e2]
      clear e2
      go_enter Tryz.func69, Tryz.ntmps69
      go_wp2_with fail
      refine (z1 _ (hbl _)).mono ?_; rintro e w1 ⟨rfl, hb1⟩
      have k0 := bat hb1 w.heap.size (by simp)
      simp at k0
      have hbw := Hd.mk ((hbl _).then hb1)
      go_wp2
      go_ret
      exact ⟨rfl, hbw.out⟩
set_option maxHeartbeats 1000000 in
theorem z_Ora (x : XOra) (cs : List Value) (left : Int) (w : World) (hk : KOraW w x cs) (h0 : 0 ≤ left) (h1 : left ≤ 1048576) : Calls Tryz.prog 38 #[.agg cs.toArray, .int .i64 left] w (Ret (.int .i64 (sub left (wOra x))) w) := by
  obtain ⟨⟨v1, v2, rfl, r1, r2⟩, hn, hn2⟩ := hk
  obtain ⟨xf, xa, xm, ⟨yc, yv, yo, ym, ys⟩⟩ := x
  have hbl := fun o => (Below.refl w.heap.size w).al (Nat.le_refl _) o
  have z1 := fun W hW => z_I v1 xa left W (r1.mv hW) h0 h1
  have z3 := fun W hW left h0 h1 => z_Res ⟨yc, yv, yo, ym, ys⟩ _ left W ⟨v2, rfl, r2.mv hW, hn2⟩ h0 h1
  unfold wOra
  simp only at *
  clear r1 r2
  generalize wRes ⟨yc, yv, yo, ym, ys⟩ = n3 at *
  generalize xa.length = n1 at *
  rcases sub_cases left n1 h0 with ⟨e1, q1⟩ | ⟨e1, q1, q1'⟩
  · rw [e1] at z1
    rw [sub_lt left (n1 + (xm.size + n3)) (by omega)]
    clear e1 z3
    go_enter Tryz.func38, Tryz.ntmps38
    go_wp2_with fail
    refine (z1 _ (hbl _)).mono ?_; rintro e w1 ⟨rfl, hb1⟩
    go_wp2
    go_ret
    exact ⟨rfl, (hbl _).then hb1⟩
  · rw [e1] at z1
    rw [← sub_add left n1 (xm.size + n3) q1']
    clear e1
    have q9 : left - (n1 : Int) ≤ 1048576 := by omega
    generalize left - (n1 : Int) = l1 at *
    rcases sub_cases l1 xm.size q1 with ⟨e2, q2⟩ | ⟨e2, q2, q2'⟩
    · rw [sub_lt l1 (xm.size + n3) (by omega)]
      clear e2 z3
      go_enter Tryz.func38, Tryz.ntmps38
      go_wp2_with fail
      refine (z1 _ (hbl _)).mono ?_; rintro e w1 ⟨rfl, hb1⟩
      have hbw := Hd.mk ((hbl _).then hb1)
      have k0 := bat hb1 w.heap.size (by simp)
      simp at k0
      go_wp2
      go_ret
      exact ⟨rfl, hbw.out⟩
    · rw [← sub_add l1 xm.size n3 q2']
      clear e2
      have d1 : decide (l1 - (xm.size : Int) < 0) = false := by simpa using q2
      replace z3 := fun W hW => z3 W hW (l1 - xm.size) q2 (by omega)
      rcases sub_cases (l1 - xm.size) n3 q2 with ⟨e3, q3⟩ | ⟨e3, q3, q3'⟩
      all_goals
        rw [e3] at z3 ⊢
        clear e3
        go_enter Tryz.func38, Tryz.ntmps38
        go_wp2_with fail
        refine (z1 _ (hbl _)).mono ?_; rintro e w1 ⟨rfl, hb1⟩
        have hbw := Hd.mk ((hbl _).then hb1)
        have k0 := bat hb1 w.heap.size (by simp)
        simp at k0
        go_wp2_with fail
        refine (z3 _ hbw.out).mono ?_; rintro e w2 ⟨rfl, hb2⟩
        go_wp2
        go_ret
        exact ⟨rfl, hbw.out.then hb2⟩
end Go.Proofs.YtkcgejbnhpccdaaGreat
set_option linter.unusedSimpArgs false
set_option linter.unusedVariables false
namespace Go.Proofs.YtkcgejbnhpccdaaGreat
open Go.RowKit
def ORes (lo : Nat) (w : World) (x : XRes) (cs : List Value) : Prop := ∃ v, cs = [.int .i64 x.code, .int .i64 x.value, v, .string x.mem, .int .i64 x.steps] ∧ OwI lo w v x.out
instance : KA ORes := ⟨fun ⟨v, h, r⟩ hb => ⟨v, h, r.abv hb⟩, fun ⟨v, h, r⟩ hl => ⟨v, h, r.low hl⟩⟩
def OOra (lo : Nat) (w : World) (x : XOra) (cs : List Value) : Prop := ∃ va vo, cs = [.int .i64 x.func, va, .string x.mem, .int .i64 x.want.code, .int .i64 x.want.value, vo, .string x.want.mem, .int .i64 x.want.steps] ∧ OwI lo w va x.args ∧ OwI lo w vo x.want.out
instance : KA OOra := ⟨fun ⟨v, v', h, r, s⟩ hb => ⟨v, v', h, r.abv hb, s.abv hb⟩, fun ⟨v, v', h, r, s⟩ hl => ⟨v, v', h, r.low hl, s.low hl⟩⟩
theorem o_ora {lo : Nat} {w : World} {p : XOra} {cs : List Value} (h : OOra lo w p cs) (hw : wOra p ≤ lm) : KOracle lm w p cs := by
  obtain ⟨v, v', rfl, r, s⟩ := h
  unfold wOra wRes at hw
  exact ⟨v, v', rfl, r.rd (by omega), s.rd (by omega)⟩
theorem nar_ora {w : World} {p : XOra} {cs : List Value} (h : KOracle lw w p cs) (hw : wOra p ≤ lm) : KOracle lm w p cs := by
  obtain ⟨v, v', rfl, r, s⟩ := h
  unfold wOra wRes at hw
  exact ⟨v, v', rfl, r.nar (by omega) fun _ _ _ hk => hk, s.nar (by omega) fun _ _ _ hk => hk⟩
set_option maxHeartbeats 4000000 in
theorem t_Res (x : XRes) (cs : List Value) (w : World) (hx : KRes w x cs) : Calls Tryz.prog 70 #[.agg cs.toArray] w (RetX ORes x w) := by
  obtain ⟨vout, rfl, hout⟩ := hx
  have tcout := fun W hW => t_I vout x.out W (hout.mv hW)
  obtain ⟨Aout, cout, rfl, -, hlout, hr0⟩ := hout.sm
  clear hout hr0
  have hbl := fun o o' o'' => (((Below.refl w.heap.size w).al (Nat.le_refl _) o).al (by first | (simp; done) | (simp; omega)) o').al (by first | (simp; done) | (simp; omega)) o''
  go_enter Tryz.func70, Tryz.ntmps70
  go_wp2_with fail
  refine (tcout _ (hbl _ _ _)).mono ?_; rintro e w1 ⟨v, rfl, ho, hb1⟩
  have hB1 := (hbl _ _ _).then hb1
  have k0_1 := bat hb1 w.heap.size (by first | (simp; done) | (simp; omega))
  have f0_1 := fat hb1 w.heap.size (by first | (simp; done) | (simp; omega))
  have k1_1 := bat hb1 (w.heap.size + 1) (by first | (simp; done) | (simp; omega))
  have f1_1 := fat hb1 (w.heap.size + 1) (by first | (simp; done) | (simp; omega))
  have k2_1 := bat hb1 (w.heap.size + 2) (by first | (simp; done) | (simp; omega))
  have f2_1 := fat hb1 (w.heap.size + 2) (by first | (simp; done) | (simp; omega))
  have hz1 := hb1.size
  simp at k0_1 f0_1 k1_1 f1_1 k2_1 f2_1 hz1
  obtain ⟨Bout, dout, rfl, pout⟩ := own_sw ho
  clear ho
  go_wp2
  refine bodyPost_ret (v := .agg #[.int .i64 x.code, .int .i64 x.value, .slice Bout x.out.length dout, .string x.mem, .int .i64 x.steps]) (by simp [results, Tryz.results70, go_sem, k1_1]) rfl ⟨_, rfl, ⟨_, rfl, (Own.abv pout.out ?pout).low (by first | (simp; done) | (simp; omega))⟩, ?h2⟩
  case pout =>
    repeat (refine Abv.setCell ?_ (by first | (simp; done) | (simp; omega)) _)
    exact Abv.refl _ _
  case h2 =>
    repeat (refine Below.setCell ?_ (by first | (simp; done) | (simp; omega)) _)
    exact hB1
set_option maxHeartbeats 4000000 in
theorem t_Ora (x : XOra) (cs : List Value) (w : World) (hx : KOracle lm w x cs) : Calls Tryz.prog 39 #[.agg cs.toArray] w (RetX OOra x w) := by
  obtain ⟨vargs, vwant, rfl, hargs, hwant⟩ := hx
  have tcargs := fun W hW => t_I vargs x.args W (hargs.mv hW)
  have tcwant := fun W hW => t_Res x.want _ W ⟨_, rfl, hwant.mv hW⟩
  obtain ⟨Aargs, cargs, rfl, -, hlargs, hr0⟩ := hargs.sm
  clear hargs hr0
  obtain ⟨Awant, cwant, rfl, -, hlwant, hr0⟩ := hwant.sm
  clear hwant hr0
  have hbl := fun o o' o'' => (((Below.refl w.heap.size w).al (Nat.le_refl _) o).al (by first | (simp; done) | (simp; omega)) o').al (by first | (simp; done) | (simp; omega)) o''
  go_enter Tryz.func39, Tryz.ntmps39
  go_wp2_with fail
  refine (tcargs _ (hbl _ _ _)).mono ?_; rintro e w1 ⟨v, rfl, ho, hb1⟩
  have hB1 := (hbl _ _ _).then hb1
  have k0_1 := bat hb1 w.heap.size (by first | (simp; done) | (simp; omega))
  have f0_1 := fat hb1 w.heap.size (by first | (simp; done) | (simp; omega))
  have k1_1 := bat hb1 (w.heap.size + 1) (by first | (simp; done) | (simp; omega))
  have f1_1 := fat hb1 (w.heap.size + 1) (by first | (simp; done) | (simp; omega))
  have k2_1 := bat hb1 (w.heap.size + 2) (by first | (simp; done) | (simp; omega))
  have f2_1 := fat hb1 (w.heap.size + 2) (by first | (simp; done) | (simp; omega))
  have hz1 := hb1.size
  simp at k0_1 f0_1 k1_1 f1_1 k2_1 f2_1 hz1
  obtain ⟨Bargs, dargs, rfl, pargs⟩ := own_sw ho
  clear ho
  go_wp2_with fail
  refine (tcwant _ ?hB).mono ?_
  case hB =>
    repeat (refine Below.setCell ?_ (by first | (simp; done) | (simp; omega)) _)
    exact hB1
  rintro e w2 ⟨cs2, rfl, ⟨v, rfl, ho⟩, hb2⟩
  have hB2 : Below w.heap.size w w2 := by
    refine Below.then ?_ hb2
    repeat (refine Below.setCell ?_ (by first | (simp; done) | (simp; omega)) _)
    exact hB1
  have k0_2 := bat hb2 w.heap.size (by first | (simp; done) | (simp; omega))
  have f0_2 := fat hb2 w.heap.size (by first | (simp; done) | (simp; omega))
  have k1_2 := bat hb2 (w.heap.size + 1) (by first | (simp; done) | (simp; omega))
  have f1_2 := fat hb2 (w.heap.size + 1) (by first | (simp; done) | (simp; omega))
  have k2_2 := bat hb2 (w.heap.size + 2) (by first | (simp; done) | (simp; omega))
  have f2_2 := fat hb2 (w.heap.size + 2) (by first | (simp; done) | (simp; omega))
  have hz2 := hb2.size
  simp at k0_2 f0_2 k1_2 f1_2 k2_2 f2_2 hz2
  obtain ⟨Bwant, dwant, rfl, pwant⟩ := own_sw ho
  clear ho
  go_wp2
  refine bodyPost_ret (v := .agg #[.int .i64 x.func, .slice Bargs x.args.length dargs, .string x.mem, .int .i64 x.want.code, .int .i64 x.want.value, .slice Bwant x.want.out.length dwant, .string x.want.mem, .int .i64 x.want.steps]) (by simp [results, Tryz.results39, go_sem, k1_1, k1_2]) rfl ⟨_, rfl, ⟨_, _, rfl, (Own.abv pargs.out ?pargs).low (by first | (simp; done) | (simp; omega)), (Own.abv pwant.out ?pwant).low (by first | (simp; done) | (simp; omega))⟩, ?h2⟩
  case pargs =>
    repeat (refine Abv.setCell ?_ (by first | (simp; done) | (simp; omega)) _)
    refine Abv.below ?_ hb2
    repeat (refine Abv.setCell ?_ (by first | (simp; done) | (simp; omega)) _)
    exact Abv.refl _ _
  case pwant =>
    repeat (refine Abv.setCell ?_ (by first | (simp; done) | (simp; omega)) _)
    exact Abv.refl _ _
  case h2 =>
    repeat (refine Below.setCell ?_ (by first | (simp; done) | (simp; omega)) _)
    exact hB2
end Go.Proofs.YtkcgejbnhpccdaaGreat
set_option linter.unusedSimpArgs false
set_option linter.unusedVariables false
namespace Go.Proofs.YtkcgejbnhpccdaaGreat
open Go.RowKit
deriving instance DecidableEq for XOra
theorem ora_ext (a b c d a' b' c' d') : XOra.mk a b c d = XOra.mk a' b' c' d' ↔ a = a' ∧ b = b' ∧ c = c' ∧ d = d' := by
  constructor
  · intro h; injection h with h1 h2 h3 h4; exact ⟨h1, h2, h3, h4⟩
  · rintro ⟨rfl, rfl, rfl, rfl⟩; rfl
set_option maxHeartbeats 4000000 in
theorem e_Ora (x y : XOra) (cs ds : List Value) (w : World) (hx : KOracle lm w x cs) (hy : KOracle lm w y ds) : Calls Tryz.prog 40 #[.agg cs.toArray, .agg ds.toArray] w (Ret (.bool (decide (x = y))) w) := by
  obtain ⟨v1, v2, rfl, r1, r2⟩ := hx
  obtain ⟨u1, u2, rfl, s1, s2⟩ := hy
  have hbl := fun o o' => ((Below.refl w.heap.size w).al (Nat.le_refl _) o).al (by simp) o'
  obtain ⟨xf, xa, xm, xw⟩ := x
  obtain ⟨yf, ya, ym, yw⟩ := y
  simp only at *
  have z1 := fun W hW => e_I v1 u1 xa ya W (r1.mv hW) (s1.mv hW)
  have z2 := fun W hW => e_Res xw yw _ _ W ⟨v2, rfl, r2.mv hW⟩ ⟨u2, rfl, s2.mv hW⟩
  simp only [ora_ext]
  by_cases hf : xf = yf
  rotate_left
  · rw [decide_eq_false (fun e => hf e.1)]
    have d := bneT hf
    clear z1 z2
    go_enter Tryz.func40, Tryz.ntmps40
    go_wp2
    go_ret
    exact ⟨rfl, hbl _ _⟩
  subst hf
  by_cases ha : xa = ya
  rotate_left
  · rw [decide_eq_false (fun e => ha e.2.1)]
    simp only [decide_eq_false ha] at z1
    clear ha z2
    go_enter Tryz.func40, Tryz.ntmps40
    go_wp2_with fail
    refine (z1 _ (hbl _ _)).mono ?_; rintro e w1 ⟨rfl, hb1⟩
    have hbw1 := Hd.mk ((hbl _ _).then hb1)
    go_wp2
    go_ret
    exact ⟨rfl, hbw1.out⟩
  simp only [decide_eq_true ha] at z1
  by_cases hm : xm = ym
  rotate_left
  · rw [decide_eq_false (fun e => hm e.2.2.1)]
    have d : (xm.toList == ym.toList) = false := by rw [bytes_beq', decide_eq_false hm]
    clear ha z2
    go_enter Tryz.func40, Tryz.ntmps40
    go_wp2_with fail
    refine (z1 _ (hbl _ _)).mono ?_; rintro e w1 ⟨rfl, hb1⟩
    have k0 := bat hb1 w.heap.size (by simp; omega)
    have k1 := bat hb1 (w.heap.size + 1) (by simp)
    have hz1 := hb1.size
    simp at k0 k1 hz1
    have hbw1 := Hd.mk ((hbl _ _).then hb1)
    go_wp2
    go_ret
    exact ⟨rfl, hbw1.out⟩
  subst hm
  have hd : decide (xf = xf ∧ xa = ya ∧ xm = xm ∧ xw = yw) = decide (xw = yw) := by
    by_cases h : xw = yw
    · rw [decide_eq_true h, decide_eq_true ⟨rfl, ha, rfl, h⟩]
    · rw [decide_eq_false h, decide_eq_false fun e => h e.2.2.2]
  rw [hd]
  clear hd ha
  generalize decide (xw = yw) = T at *
  cases T
  all_goals
    go_enter Tryz.func40, Tryz.ntmps40
    go_wp2_with fail
    refine (z1 _ (hbl _ _)).mono ?_; rintro e w1 ⟨rfl, hb1⟩
    have k0 := bat hb1 w.heap.size (by simp; omega)
    have k1 := bat hb1 (w.heap.size + 1) (by simp)
    have hz1 := hb1.size
    simp at k0 k1 hz1
    have hbw1 := Hd.mk ((hbl _ _).then hb1)
    go_wp2_with fail
    refine (z2 _ hbw1.out).mono ?_; rintro e w2 ⟨rfl, hb2⟩
    go_wp2
    go_ret
    exact ⟨rfl, hbw1.out.then hb2⟩
end Go.Proofs.YtkcgejbnhpccdaaGreat
set_option linter.unusedSimpArgs false
set_option linter.unusedVariables false
namespace Go.Proofs.YtkcgejbnhpccdaaGreat
open Go.RowKit
def RetT7 (w : World) (e : Ending) (w' : World) : Prop := e = .returned (.bool true) ∧ Below w.heap.size w w'
theorem undrew7 {w w' : World} (h : Below w.drew.heap.size w.drew w') : Below w.heap.size w w' := ⟨h.os, h.tape, h.output, h.size, h.block⟩
theorem redrew7 {B : Nat} {w w' : World} (h : Below B w w') : Below B w w'.drew := ⟨h.os, h.tape, h.output, h.size, h.block⟩
set_option maxRecDepth 20000 in
set_option maxHeartbeats 8000000 in
theorem f_ExactHolds (x : XMod) (cs : List Value) (o : XOra) (co : List Value) (w : World) (hx : KMod lw w x cs) (ho : KOraW w o co) : Calls Tryz.prog 11 #[.agg cs.toArray, .agg co.toArray] w (RetT7 w) := by
  have hbl := fun o o' => ((Below.refl w.heap.size w).al (Nat.le_refl _) o).al (by simp) o'
  have hz := fun W hW => z_Mod x cs 1048576 W (KM.mv hx hW) (by omega) (by omega)
  rcases sub_cases 1048576 (wMod x) (by omega) with ⟨e, h⟩ | ⟨e, h, h'⟩
  · rw [e] at hz
    obtain ⟨v1, rfl, -⟩ := hx
    obtain ⟨⟨u1, u2, rfl, -, -⟩, -, -⟩ := ho
    clear e
    go_enter Tryz.func11, Tryz.ntmps11
    go_wp2_with fail
    refine (hz _ (hbl _ _)).mono ?_; rintro e w1 ⟨rfl, hb1⟩
    go_wp2
    go_ret
    exact ⟨rfl, (hbl _ _).then hb1⟩
  have hw : wMod x ≤ lm := by show _ ≤ 1048576; omega
  rw [e] at hz
  clear e
  have hx' := nar_mod hx hw
  have hneg : decide ((1048576 : Int) - wMod x < 0) = false := by simp; omega
  have hle : (1048576 : Int) - wMod x ≤ 1048576 := by omega
  generalize (1048576 : Int) - wMod x = left at *
  have hz2 := fun W hW => z_Ora o co left W ⟨KM.mv ho.1 hW, ho.2⟩ h hle
  rcases sub_cases left (wOra o) h with ⟨e, h2⟩ | ⟨e, h2, h2'⟩
  · rw [e] at hz2
    obtain ⟨v1, rfl, -⟩ := hx
    obtain ⟨⟨u1, u2, rfl, -, -⟩, -, -⟩ := ho
    clear e hx'
    go_enter Tryz.func11, Tryz.ntmps11
    go_wp2_with fail
    refine (hz _ (hbl _ _)).mono ?_; rintro e w1 ⟨rfl, hb1⟩
    have hbw := Hd.mk ((hbl _ _).then hb1)
    have k1 := bat hb1 (w.heap.size + 1) (by simp)
    simp at k1
    go_wp2_with fail
    refine (hz2 _ hbw.out).mono ?_; rintro e w2 ⟨rfl, hb2⟩
    go_wp2
    go_ret
    exact ⟨rfl, hbw.out.then hb2⟩
  have hneg2 : decide (left - wOra o < 0) = false := by simp; omega
  have hwo : wOra o ≤ lm := by show _ ≤ 1048576; omega
  rw [e] at hz2
  clear e
  have ho' := nar_ora ho.1 hwo
  have hms : o.mem.size ≤ 1048576 := by have h9 := hwo; unfold wOra at h9; have : lm = 1048576 := rfl; omega
  have ht := fun W (hW : Below w.heap.size w W) => t_Mod x cs W (KM.mv hx' hW)
  have hto := fun W (hW : Below w.heap.size w W) => t_Ora o co W (KM.mv ho' hW)
  have hsM := fun W cs co hp ha => s_Holds x cs o co W hp ha hms
  have hcM := fun W cs co hp ha => c_Holds x cs o co W hp ha hms
  generalize holdsB x o = T at *
  obtain ⟨v1, rfl, r1⟩ := hx
  obtain ⟨A1, c1, rfl, -, -, -⟩ := r1.sh
  obtain ⟨⟨u1, u2, rfl, s1, s2⟩, -, -⟩ := ho
  obtain ⟨A2, c2, rfl, -, -, -⟩ := s1.sh
  obtain ⟨A3, c3, rfl, -, -, -⟩ := s2.sh
  clear hx' ho' r1 s1 s2 hms h h' h2 h2' hle
  generalize left - (wOra o : Int) = left2 at *
  go_enter Tryz.func11, Tryz.ntmps11
  go_wp2_with fail
  refine (hz _ (hbl _ _)).mono ?_; rintro e w0 ⟨rfl, hb0⟩
  have hB0 := (hbl _ _).then hb0
  have z0 := hb0.size
  have a0_0 := bat hb0 w.heap.size (by first | (simp; done) | (simp; omega)) 0
  have o0_0 := bat hb0 (w.heap.size + 1) (by first | (simp; done) | (simp; omega)) 0
  have o1_0 := bat hb0 (w.heap.size + 1) (by first | (simp; done) | (simp; omega)) 1
  have o2_0 := bat hb0 (w.heap.size + 1) (by first | (simp; done) | (simp; omega)) 2
  have o3_0 := bat hb0 (w.heap.size + 1) (by first | (simp; done) | (simp; omega)) 3
  have o4_0 := bat hb0 (w.heap.size + 1) (by first | (simp; done) | (simp; omega)) 4
  have o5_0 := bat hb0 (w.heap.size + 1) (by first | (simp; done) | (simp; omega)) 5
  have o6_0 := bat hb0 (w.heap.size + 1) (by first | (simp; done) | (simp; omega)) 6
  have o7_0 := bat hb0 (w.heap.size + 1) (by first | (simp; done) | (simp; omega)) 7
  simp at a0_0 o0_0 o1_0 o2_0 o3_0 o4_0 o5_0 o6_0 o7_0 z0
  go_wp2_with fail
  refine (hz2 _ hB0).mono ?_; rintro e w1 ⟨rfl, hb1⟩
  have hB1 := hB0.then hb1
  have z1 := hb1.size
  have a0_1 := (bat hb1 w.heap.size (by omega) 0).trans a0_0
  have o0_1 := (bat hb1 (w.heap.size + 1) (by omega) 0).trans o0_0
  have o1_1 := (bat hb1 (w.heap.size + 1) (by omega) 1).trans o1_0
  have o2_1 := (bat hb1 (w.heap.size + 1) (by omega) 2).trans o2_0
  have o3_1 := (bat hb1 (w.heap.size + 1) (by omega) 3).trans o3_0
  have o4_1 := (bat hb1 (w.heap.size + 1) (by omega) 4).trans o4_0
  have o5_1 := (bat hb1 (w.heap.size + 1) (by omega) 5).trans o5_0
  have o6_1 := (bat hb1 (w.heap.size + 1) (by omega) 6).trans o6_0
  have o7_1 := (bat hb1 (w.heap.size + 1) (by omega) 7).trans o7_0
  have hC1 := redrew7 hB1
  go_wp2_with fail
  go_region_held3 (fun W => W.cell? ⟨w.heap.size, 0, none⟩ = some (.slice A1 x.funcs.length c1) ∧ W.cell? ⟨w.heap.size + 1, 0, none⟩ = some (.int .i64 o.func) ∧ W.cell? ⟨w.heap.size + 1, 1, none⟩ = some (.slice A2 o.args.length c2) ∧ W.cell? ⟨w.heap.size + 1, 2, none⟩ = some (.string o.mem) ∧ W.cell? ⟨w.heap.size + 1, 3, none⟩ = some (.int .i64 o.want.code) ∧ W.cell? ⟨w.heap.size + 1, 4, none⟩ = some (.int .i64 o.want.value) ∧ W.cell? ⟨w.heap.size + 1, 5, none⟩ = some (.slice A3 o.want.out.length c3) ∧ W.cell? ⟨w.heap.size + 1, 6, none⟩ = some (.string o.want.mem) ∧ W.cell? ⟨w.heap.size + 1, 7, none⟩ = some (.int .i64 o.want.steps))
    (first | exact ⟨a0_1, o0_1, o1_1, o2_1, o3_1, o4_1, o5_1, o6_1, o7_1⟩ | exact ⟨a0_2, o0_2, o1_2, o2_2, o3_2, o4_2, o5_2, o6_2, o7_2⟩ | exact ⟨a0_3, o0_3, o1_3, o2_3, o3_3, o4_3, o5_3, o6_3, o7_3⟩ | exact ⟨a0_4, o0_4, o1_4, o2_4, o3_4, o4_4, o5_4, o6_4, o7_4⟩)
    (first
      | (go_at_call 29
         refine (ht _ hC1).mono ?_; rintro e w2 ⟨cs2, rfl, ho2, hb2⟩
         replace hb2 := undrew7 hb2
         have hk2 := o_mod ho2 hw
         obtain ⟨u2, rfl, p2⟩ := ho2
         clear p2
         have hB2 := hB1.then hb2
         have z2 := hb2.size
         have a0_2 := (bat hb2 w.heap.size (by omega) 0).trans a0_1
         have o0_2 := (bat hb2 (w.heap.size + 1) (by omega) 0).trans o0_1
         have o1_2 := (bat hb2 (w.heap.size + 1) (by omega) 1).trans o1_1
         have o2_2 := (bat hb2 (w.heap.size + 1) (by omega) 2).trans o2_1
         have o3_2 := (bat hb2 (w.heap.size + 1) (by omega) 3).trans o3_1
         have o4_2 := (bat hb2 (w.heap.size + 1) (by omega) 4).trans o4_1
         have o5_2 := (bat hb2 (w.heap.size + 1) (by omega) 5).trans o5_1
         have o6_2 := (bat hb2 (w.heap.size + 1) (by omega) 6).trans o6_1
         have o7_2 := (bat hb2 (w.heap.size + 1) (by omega) 7).trans o7_1)
      | (go_at_call 39
         refine (hto _ hB2).mono ?_; rintro e w3 ⟨cs3, rfl, ho3, hb3⟩
         have hk3 := o_ora ho3 hwo
         obtain ⟨u3, u3', rfl, p3, p3'⟩ := ho3
         clear p3 p3'
         have hB3 := hB2.then hb3
         have z3 := hb3.size
         have hs4 := hsM _ _ _ (KM.mv hk2 hb3) hk3
         have a0_3 := (bat hb3 w.heap.size (by omega) 0).trans a0_2
         have o0_3 := (bat hb3 (w.heap.size + 1) (by omega) 0).trans o0_2
         have o1_3 := (bat hb3 (w.heap.size + 1) (by omega) 1).trans o1_2
         have o2_3 := (bat hb3 (w.heap.size + 1) (by omega) 2).trans o2_2
         have o3_3 := (bat hb3 (w.heap.size + 1) (by omega) 3).trans o3_2
         have o4_3 := (bat hb3 (w.heap.size + 1) (by omega) 4).trans o4_2
         have o5_3 := (bat hb3 (w.heap.size + 1) (by omega) 5).trans o5_2
         have o6_3 := (bat hb3 (w.heap.size + 1) (by omega) 6).trans o6_2
         have o7_3 := (bat hb3 (w.heap.size + 1) (by omega) 7).trans o7_2)
      | (go_at_call 23
         refine hs4.mono ?_; rintro e w4 ⟨rfl, hb4⟩
         have hB4 := hB3.then hb4
         have z4 := hb4.size
         have a0_4 := (bat hb4 w.heap.size (by omega) 0).trans a0_3
         have o0_4 := (bat hb4 (w.heap.size + 1) (by omega) 0).trans o0_3
         have o1_4 := (bat hb4 (w.heap.size + 1) (by omega) 1).trans o1_3
         have o2_4 := (bat hb4 (w.heap.size + 1) (by omega) 2).trans o2_3
         have o3_4 := (bat hb4 (w.heap.size + 1) (by omega) 3).trans o3_3
         have o4_4 := (bat hb4 (w.heap.size + 1) (by omega) 4).trans o4_3
         have o5_4 := (bat hb4 (w.heap.size + 1) (by omega) 5).trans o5_3
         have o6_4 := (bat hb4 (w.heap.size + 1) (by omega) 6).trans o6_3
         have o7_4 := (bat hb4 (w.heap.size + 1) (by omega) 7).trans o7_3))
  clear hs4 hk2 hk3
  go_wp2_with fail
  refine (ht _ hB4).mono ?_; rintro e w5 ⟨cs5, rfl, ho5, hb5⟩
  have hk5 := o_mod ho5 hw
  obtain ⟨u5, rfl, p5⟩ := ho5
  obtain ⟨D5, d5, rfl, -⟩ := own_sw p5
  clear p5
  have hB5 := hB4.then hb5
  have z5 := hb5.size
  have zz5 : w.heap.size + 1 < w5.heap.size := by omega
  have hbx5 := fun o => (Below.refl w5.heap.size w5).al (Nat.le_refl _) o
  have a0_5 := (bat hb5 w.heap.size (by omega) 0).trans a0_4
  have o0_5 := (bat hb5 (w.heap.size + 1) (by omega) 0).trans o0_4
  have o1_5 := (bat hb5 (w.heap.size + 1) (by omega) 1).trans o1_4
  have o2_5 := (bat hb5 (w.heap.size + 1) (by omega) 2).trans o2_4
  have o3_5 := (bat hb5 (w.heap.size + 1) (by omega) 3).trans o3_4
  have o4_5 := (bat hb5 (w.heap.size + 1) (by omega) 4).trans o4_4
  have o5_5 := (bat hb5 (w.heap.size + 1) (by omega) 5).trans o5_4
  have o6_5 := (bat hb5 (w.heap.size + 1) (by omega) 6).trans o6_4
  have o7_5 := (bat hb5 (w.heap.size + 1) (by omega) 7).trans o7_4
  go_wp2_with fail
  refine (hto _ (hB5.then (hbx5 _))).mono ?_; rintro e w6 ⟨cs6, rfl, ho6, hb6⟩
  have hk6 := o_ora ho6 hwo
  obtain ⟨u6, u6', rfl, p6, p6'⟩ := ho6
  obtain ⟨D6, d6, rfl, -⟩ := own_sw p6
  obtain ⟨F6, f6, rfl, -⟩ := own_sw p6'
  clear p6 p6'
  have h56 := (hbx5 _).then hb6
  have hB6 := hB5.then h56
  have z6 := hb6.size
  have hbx6 := fun o => (Below.refl w6.heap.size w6).al (Nat.le_refl _) o
  have x0_6 := bat hb6 w5.heap.size (by first | (simp; done) | (simp; omega)) 0
  simp at x0_6 z6
  have zx6 : w5.heap.size < w6.heap.size := by omega
  have zz6 : w.heap.size + 1 < w6.heap.size := by omega
  have a0_6 := (bat h56 w.heap.size (by omega) 0).trans a0_5
  have o0_6 := (bat h56 (w.heap.size + 1) (by omega) 0).trans o0_5
  have o1_6 := (bat h56 (w.heap.size + 1) (by omega) 1).trans o1_5
  have o2_6 := (bat h56 (w.heap.size + 1) (by omega) 2).trans o2_5
  have o3_6 := (bat h56 (w.heap.size + 1) (by omega) 3).trans o3_5
  have o4_6 := (bat h56 (w.heap.size + 1) (by omega) 4).trans o4_5
  have o5_6 := (bat h56 (w.heap.size + 1) (by omega) 5).trans o5_5
  have o6_6 := (bat h56 (w.heap.size + 1) (by omega) 6).trans o6_5
  have o7_6 := (bat h56 (w.heap.size + 1) (by omega) 7).trans o7_5
  go_wp2_with fail
  refine (hcM _ _ _ (KM.mv hk5 (h56.then (hbx6 _))) (KM.mv hk6 (hbx6 _))).mono ?_; rintro e w7 ⟨rfl, hb7⟩
  have h67 := (hbx6 _).then hb7
  have h57 := h56.then h67
  have hB7 := hB6.then h67
  have z7 := hb7.size
  have y0_7 := bat hb7 w6.heap.size (by first | (simp; done) | (simp; omega)) 0
  have y1_7 := bat hb7 w6.heap.size (by first | (simp; done) | (simp; omega)) 1
  have y2_7 := bat hb7 w6.heap.size (by first | (simp; done) | (simp; omega)) 2
  have y3_7 := bat hb7 w6.heap.size (by first | (simp; done) | (simp; omega)) 3
  have y4_7 := bat hb7 w6.heap.size (by first | (simp; done) | (simp; omega)) 4
  have y5_7 := bat hb7 w6.heap.size (by first | (simp; done) | (simp; omega)) 5
  have y6_7 := bat hb7 w6.heap.size (by first | (simp; done) | (simp; omega)) 6
  have y7_7 := bat hb7 w6.heap.size (by first | (simp; done) | (simp; omega)) 7
  simp at y0_7 y1_7 y2_7 y3_7 y4_7 y5_7 y6_7 y7_7 z7
  have a0_7 := (bat h67 w.heap.size (by omega) 0).trans a0_6
  have o0_7 := (bat h67 (w.heap.size + 1) (by omega) 0).trans o0_6
  have o1_7 := (bat h67 (w.heap.size + 1) (by omega) 1).trans o1_6
  have o2_7 := (bat h67 (w.heap.size + 1) (by omega) 2).trans o2_6
  have o3_7 := (bat h67 (w.heap.size + 1) (by omega) 3).trans o3_6
  have o4_7 := (bat h67 (w.heap.size + 1) (by omega) 4).trans o4_6
  have o5_7 := (bat h67 (w.heap.size + 1) (by omega) 5).trans o5_6
  have o6_7 := (bat h67 (w.heap.size + 1) (by omega) 6).trans o6_6
  have o7_7 := (bat h67 (w.heap.size + 1) (by omega) 7).trans o7_6
  have x0_7 := (bat h67 w5.heap.size (by omega) 0).trans x0_6
  have hdT : (T != T) = false := by cases T <;> rfl
  have hk5' := fun W hW => KM.mv hk5 (h57.then (w2 := W) hW)
  have hk6' := fun W hW => KM.mv hk6 (h67.then (w2 := W) hW)
  have hC7 := redrew7 hB7
  go_wp2_with fail
  go_region_held3 (fun W => W.cell? ⟨w.heap.size, 0, none⟩ = some (.slice A1 x.funcs.length c1) ∧ W.cell? ⟨w5.heap.size, 0, none⟩ = some (.slice D5 x.funcs.length d5))
    (first | exact ⟨a0_7, x0_7⟩ | exact ⟨a0_8, x0_8⟩ | exact ⟨a0_9, x0_9⟩)
    (first
      | (go_at_call 29
         refine (ht _ hC7).mono ?_; rintro e w8 ⟨cs8, rfl, ho8, hb8⟩
         replace hb8 := undrew7 hb8
         have hk8 := o_mod ho8 hw
         obtain ⟨t8, rfl, p8⟩ := ho8
         obtain ⟨E8, e8, rfl, -⟩ := own_sw p8
         clear p8
         have z8 := hb8.size
         have a0_8 := (bat hb8 w.heap.size (by omega) 0).trans a0_7
         have x0_8 := (bat hb8 w5.heap.size (by omega) 0).trans x0_7
         have he := e_Mod x x _ _ w8 (hk5' _ hb8) hk8
         rw [decide_eq_true rfl] at he)
      | (go_at_call 32
         refine he.mono ?_; rintro e w9 ⟨rfl, hb9⟩
         have a0_9 := (bat hb9 w.heap.size (by omega) 0).trans a0_8
         have x0_9 := (bat hb9 w5.heap.size (by omega) 0).trans x0_8))
  have h79 := hb8.then hb9
  clear he hk8 hk5 hk5' a0_8 x0_8 a0_9 x0_9
  have z9 := h79.size
  have hB9 := hB7.then h79
  have o0_9 := (bat h79 (w.heap.size + 1) (by omega) 0).trans o0_7
  have o1_9 := (bat h79 (w.heap.size + 1) (by omega) 1).trans o1_7
  have o2_9 := (bat h79 (w.heap.size + 1) (by omega) 2).trans o2_7
  have o3_9 := (bat h79 (w.heap.size + 1) (by omega) 3).trans o3_7
  have o4_9 := (bat h79 (w.heap.size + 1) (by omega) 4).trans o4_7
  have o5_9 := (bat h79 (w.heap.size + 1) (by omega) 5).trans o5_7
  have o6_9 := (bat h79 (w.heap.size + 1) (by omega) 6).trans o6_7
  have o7_9 := (bat h79 (w.heap.size + 1) (by omega) 7).trans o7_7
  have y0_9 := (bat h79 w6.heap.size (by omega) 0).trans y0_7
  have y1_9 := (bat h79 w6.heap.size (by omega) 1).trans y1_7
  have y2_9 := (bat h79 w6.heap.size (by omega) 2).trans y2_7
  have y3_9 := (bat h79 w6.heap.size (by omega) 3).trans y3_7
  have y4_9 := (bat h79 w6.heap.size (by omega) 4).trans y4_7
  have y5_9 := (bat h79 w6.heap.size (by omega) 5).trans y5_7
  have y6_9 := (bat h79 w6.heap.size (by omega) 6).trans y6_7
  have y7_9 := (bat h79 w6.heap.size (by omega) 7).trans y7_7
  have hC9 := redrew7 hB9
  have hk6'' := fun W hW => hk6' _ (h79.then (w2 := W) hW)
  go_wp2_with fail
  go_region_held3 (fun W => W.cell? ⟨w.heap.size + 1, 0, none⟩ = some (.int .i64 o.func) ∧ W.cell? ⟨w.heap.size + 1, 1, none⟩ = some (.slice A2 o.args.length c2) ∧ W.cell? ⟨w.heap.size + 1, 2, none⟩ = some (.string o.mem) ∧ W.cell? ⟨w.heap.size + 1, 3, none⟩ = some (.int .i64 o.want.code) ∧ W.cell? ⟨w.heap.size + 1, 4, none⟩ = some (.int .i64 o.want.value) ∧ W.cell? ⟨w.heap.size + 1, 5, none⟩ = some (.slice A3 o.want.out.length c3) ∧ W.cell? ⟨w.heap.size + 1, 6, none⟩ = some (.string o.want.mem) ∧ W.cell? ⟨w.heap.size + 1, 7, none⟩ = some (.int .i64 o.want.steps) ∧ W.cell? ⟨w6.heap.size, 0, none⟩ = some (.int .i64 o.func) ∧ W.cell? ⟨w6.heap.size, 1, none⟩ = some (.slice D6 o.args.length d6) ∧ W.cell? ⟨w6.heap.size, 2, none⟩ = some (.string o.mem) ∧ W.cell? ⟨w6.heap.size, 3, none⟩ = some (.int .i64 o.want.code) ∧ W.cell? ⟨w6.heap.size, 4, none⟩ = some (.int .i64 o.want.value) ∧ W.cell? ⟨w6.heap.size, 5, none⟩ = some (.slice F6 o.want.out.length f6) ∧ W.cell? ⟨w6.heap.size, 6, none⟩ = some (.string o.want.mem) ∧ W.cell? ⟨w6.heap.size, 7, none⟩ = some (.int .i64 o.want.steps))
    (first | exact ⟨o0_9, o1_9, o2_9, o3_9, o4_9, o5_9, o6_9, o7_9, y0_9, y1_9, y2_9, y3_9, y4_9, y5_9, y6_9, y7_9⟩ | exact ⟨o0_10, o1_10, o2_10, o3_10, o4_10, o5_10, o6_10, o7_10, y0_10, y1_10, y2_10, y3_10, y4_10, y5_10, y6_10, y7_10⟩ | exact ⟨o0_11, o1_11, o2_11, o3_11, o4_11, o5_11, o6_11, o7_11, y0_11, y1_11, y2_11, y3_11, y4_11, y5_11, y6_11, y7_11⟩)
    (first
      | (go_at_call 39
         refine (hto _ hC9).mono ?_; rintro e w10 ⟨cs10, rfl, ho10, hb10⟩
         replace hb10 := undrew7 hb10
         have hk10 := o_ora ho10 hwo
         obtain ⟨t10, t10', rfl, p10, p10'⟩ := ho10
         obtain ⟨E10, e10, rfl, -⟩ := own_sw p10
         obtain ⟨G10, g10, rfl, -⟩ := own_sw p10'
         clear p10 p10'
         have z10 := hb10.size
         have o0_10 := (bat hb10 (w.heap.size + 1) (by omega) 0).trans o0_9
         have o1_10 := (bat hb10 (w.heap.size + 1) (by omega) 1).trans o1_9
         have o2_10 := (bat hb10 (w.heap.size + 1) (by omega) 2).trans o2_9
         have o3_10 := (bat hb10 (w.heap.size + 1) (by omega) 3).trans o3_9
         have o4_10 := (bat hb10 (w.heap.size + 1) (by omega) 4).trans o4_9
         have o5_10 := (bat hb10 (w.heap.size + 1) (by omega) 5).trans o5_9
         have o6_10 := (bat hb10 (w.heap.size + 1) (by omega) 6).trans o6_9
         have o7_10 := (bat hb10 (w.heap.size + 1) (by omega) 7).trans o7_9
         have y0_10 := (bat hb10 w6.heap.size (by omega) 0).trans y0_9
         have y1_10 := (bat hb10 w6.heap.size (by omega) 1).trans y1_9
         have y2_10 := (bat hb10 w6.heap.size (by omega) 2).trans y2_9
         have y3_10 := (bat hb10 w6.heap.size (by omega) 3).trans y3_9
         have y4_10 := (bat hb10 w6.heap.size (by omega) 4).trans y4_9
         have y5_10 := (bat hb10 w6.heap.size (by omega) 5).trans y5_9
         have y6_10 := (bat hb10 w6.heap.size (by omega) 6).trans y6_9
         have y7_10 := (bat hb10 w6.heap.size (by omega) 7).trans y7_9
         have he := e_Ora o o _ _ w10 (hk6'' _ hb10) hk10
         rw [decide_eq_true rfl] at he)
      | (go_at_call 40
         refine he.mono ?_; rintro e w11 ⟨rfl, hb11⟩
         have o0_11 := (bat hb11 (w.heap.size + 1) (by omega) 0).trans o0_10
         have o1_11 := (bat hb11 (w.heap.size + 1) (by omega) 1).trans o1_10
         have o2_11 := (bat hb11 (w.heap.size + 1) (by omega) 2).trans o2_10
         have o3_11 := (bat hb11 (w.heap.size + 1) (by omega) 3).trans o3_10
         have o4_11 := (bat hb11 (w.heap.size + 1) (by omega) 4).trans o4_10
         have o5_11 := (bat hb11 (w.heap.size + 1) (by omega) 5).trans o5_10
         have o6_11 := (bat hb11 (w.heap.size + 1) (by omega) 6).trans o6_10
         have o7_11 := (bat hb11 (w.heap.size + 1) (by omega) 7).trans o7_10
         have y0_11 := (bat hb11 w6.heap.size (by omega) 0).trans y0_10
         have y1_11 := (bat hb11 w6.heap.size (by omega) 1).trans y1_10
         have y2_11 := (bat hb11 w6.heap.size (by omega) 2).trans y2_10
         have y3_11 := (bat hb11 w6.heap.size (by omega) 3).trans y3_10
         have y4_11 := (bat hb11 w6.heap.size (by omega) 4).trans y4_10
         have y5_11 := (bat hb11 w6.heap.size (by omega) 5).trans y5_10
         have y6_11 := (bat hb11 w6.heap.size (by omega) 6).trans y6_10
         have y7_11 := (bat hb11 w6.heap.size (by omega) 7).trans y7_10))
  go_wp2
  go_ret
  exact ⟨rfl, hB9.then (hb10.then hb11)⟩
end Go.Proofs.YtkcgejbnhpccdaaGreat
