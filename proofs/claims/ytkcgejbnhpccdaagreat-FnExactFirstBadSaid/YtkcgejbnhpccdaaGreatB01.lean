import Derived.Test.YtkcgejbnhpccdaaGreatJ43
import Derived.Test.YtkcgejbnhpccdaaGreatJ42
import Derived.Test.YtkcgejbnhpccdaaGreatJ37
import Derived.Test.YtkcgejbnhpccdaaGreatJ44
set_option linter.unusedSimpArgs false
set_option linter.unusedVariables false
namespace Go.Proofs.YtkcgejbnhpccdaaGreat
open Go.RowKit
/-! ### what is seen of two results -/
def sameR (x y : XRes) : Bool := x.code == y.code && x.value == y.value && x.mem.toList == y.mem.toList && decide (x.out = y.out)
set_option maxHeartbeats 1000000 in
theorem c_Equal (v u : Value) (xs ys : List Int) (w : World) (hv : RI lm w v xs) (hu : RI lm w u ys) : Calls Tryz.prog 84 #[v, u] w (Ret (.bool (decide (xs = ys))) w) := by
  obtain ⟨A1, c1, rfl, -, hl1, hv0⟩ := hv.sm
  obtain ⟨A2, c2, rfl, -, hl2, hu0⟩ := hu.sm
  clear hv hu
  by_cases hlen : xs.length = ys.length
  rotate_left
  · rw [decide_eq_false (len_ne hlen)]
    have d : ((xs.length : Int) != (ys.length : Int)) = true := by simp; omega
    go_enter Tryz.func84, Tryz.ntmps84
    go_wp2
    go_ret
    exact ⟨rfl, Below.refl _ _⟩
  obtain ⟨n, hn⟩ : ∃ n, n = xs.length := ⟨_, rfl⟩
  have hn2 : n = ys.length := hn.trans hlen
  rw [← hn, ← hn2]
  rw [← hn] at hv0 hl1
  rw [← hn2] at hu0
  have hn' := Hd.mk hn
  have hn2' := Hd.mk hn2
  clear hn hn2 hlen hl2
  go_enter Tryz.func84, Tryz.ntmps84
  go_wp2
  go_loopw [13] (fun s13 wr => ∃ k : Nat, k ≤ n ∧ s13 = .int .i64 k ∧ Hd (xs.take k = ys.take k) ∧ Hd (Below w.heap.size w wr)) (fun s13 _ => n - (intOf s13).toNat)
  case atStart => exact ⟨0, Nat.zero_le _, rfl, ⟨by simp⟩, ⟨Below.refl _ _⟩⟩
  case round =>
    obtain ⟨k, hk, rfl, hall, hbr⟩ := hrel
    by_cases hlt : k < n
    · obtain ⟨b, off, cs, hA, hbl, hk1, hat⟩ := hv0.out.in0 hbr.out k (by have := hn'.out; omega)
      cases hA
      cases hk1
      have g0 := hat 0 _ rfl
      simp at g0
      clear hat
      obtain ⟨b2, off2, cs, hA, hbl2, hk1, hat⟩ := hu0.out.in0 hbr.out k (by have := hn2'.out; omega)
      cases hA
      cases hk1
      have f0 := hat 0 _ rfl
      simp at f0
      clear hat
      have hz : (k : Int) < (n : Int) := by omega
      have hz0 : (0 : Int) ≤ (k : Int) := by omega
      by_cases he : xs[k]'(by have := hn'.out; omega) = ys[k]'(by have := hn2'.out; omega)
      · have ht := Hd.mk (take_eq hall.out (by have := hn'.out; omega) (by have := hn2'.out; omega) he)
        generalize xs[k]'_ = x at *
        subst he
        go_wp2
        go_quiet (fail)
        go_wp2
        go_roundw
        case rel => exact ⟨k + 1, by omega, by go_num, ht, ⟨pw_drewN hbr.out _⟩⟩
        case measure => simp [intOf]; omega
      · have hne := Hd.mk (el_ne _ _ he)
        have d := bneT he
        generalize xs[k]'_ = x at *
        generalize ys[k]'_ = y at *
        clear he
        go_wp2
        go_quiet (fail)
        go_wp2
        go_ret
        exact ⟨by rw [decide_eq_false hne.out]; rfl, pw_drewN hbr.out _⟩
    · have e : k = n := by omega
      subst e
      go_wp2
      go_ret
      exact ⟨by rw [decide_eq_true (take_all hall.out hn'.out hn2'.out)]; rfl, hbr.out⟩

set_option maxHeartbeats 4000000 in
theorem c_isSeenAs (x y : XRes) (cs ds : List Value) (w : World) (hx : KRes w x cs) (hy : KRes w y ds) : Calls Tryz.prog 59 #[.agg cs.toArray, .agg ds.toArray] w (Ret (.bool (sameR x y)) w) := by
  obtain ⟨v1, rfl, r1⟩ := hx
  obtain ⟨u1, rfl, s1⟩ := hy
  have hbl := fun o o' => ((Below.refl w.heap.size w).al (Nat.le_refl _) o).al (by simp) o'
  obtain ⟨xcode, xvalue, xout, xmem, xsteps⟩ := x
  obtain ⟨ycode, yvalue, yout, ymem, ysteps⟩ := y
  simp only at *
  unfold sameR
  simp only
  have z1 := fun W hW => c_Equal v1 u1 xout yout W (r1.mv hW) (s1.mv hW)
  generalize decide (xout = yout) = b4 at *
  cases h1 : xcode == ycode with
  | false =>
    go_enter Tryz.func59, Tryz.ntmps59
    go_wp2
    go_ret
    exact ⟨rfl, hbl _ _⟩
  | true =>
    cases h2 : xvalue == yvalue with
    | false =>
      go_enter Tryz.func59, Tryz.ntmps59
      go_wp2
      go_ret
      exact ⟨rfl, hbl _ _⟩
    | true =>
      cases h3 : xmem.toList == ymem.toList with
      | false =>
        go_enter Tryz.func59, Tryz.ntmps59
        go_wp2
        go_ret
        exact ⟨rfl, hbl _ _⟩
      | true =>
        go_enter Tryz.func59, Tryz.ntmps59
        go_wp2_with fail
        refine (z1 _ (hbl _ _)).mono ?_; rintro e w1 ⟨rfl, hb1⟩
        go_wp2
        go_ret
        exact ⟨by simp, (hbl _ _).then hb1⟩
end Go.Proofs.YtkcgejbnhpccdaaGreat
set_option linter.unusedSimpArgs false
set_option linter.unusedVariables false
namespace Go.Proofs.YtkcgejbnhpccdaaGreat
open Go.RowKit
set_option maxRecDepth 20000 in
set_option maxHeartbeats 4000000 in
theorem s_l19Same (x y : XRes) (cs ds : List Value) (w : World) (hx : KRes w x cs) (hy : KRes w y ds) : Calls Tryz.prog 60 #[.agg cs.toArray, .agg ds.toArray] w (Ret (.bool (sameR x y)) w) := by
  obtain ⟨v1, rfl, r1⟩ := hx
  obtain ⟨u1, rfl, s1⟩ := hy
  have hbl := fun o o' => ((Below.refl w.heap.size w).al (Nat.le_refl _) o).al (by simp) o'
  obtain ⟨xcode, xvalue, xout, xmem, xsteps⟩ := x
  obtain ⟨ycode, yvalue, yout, ymem, ysteps⟩ := y
  simp only at *
  unfold sameR
  simp only
  obtain ⟨A1, c1, rfl, -, hl1, hv0⟩ := r1.sm
  obtain ⟨A2, c2, rfl, -, hl2, hu0⟩ := s1.sm
  clear r1 s1
  cases h1 : xcode == ycode with
  | false =>
    have d1 : (xcode != ycode) = true := by unfold bne; rw [h1]; rfl
    go_enter Tryz.func60, Tryz.ntmps60
    go_wp2
    go_ret
    exact ⟨by simp, hbl _ _⟩
  | true =>
    have d1 : (xcode != ycode) = false := by unfold bne; rw [h1]; rfl
    cases h2 : xvalue == yvalue with
    | false =>
      have d2 : (xvalue != yvalue) = true := by unfold bne; rw [h2]; rfl
      go_enter Tryz.func60, Tryz.ntmps60
      go_wp2
      go_ret
      exact ⟨by simp, hbl _ _⟩
    | true =>
      have d2 : (xvalue != yvalue) = false := by unfold bne; rw [h2]; rfl
      cases h3 : xmem.toList == ymem.toList with
      | false =>
        have d3 : (xmem.toList != ymem.toList) = true := by unfold bne; rw [h3]; rfl
        go_enter Tryz.func60, Tryz.ntmps60
        go_wp2
        go_ret
        exact ⟨by simp, hbl _ _⟩
      | true =>
        have d3 : (xmem.toList != ymem.toList) = false := by unfold bne; rw [h3]; rfl
        by_cases hlen : xout.length = yout.length
        rotate_left
        · have d : ((xout.length : Int) != (yout.length : Int)) = true := by simp; omega
          rw [decide_eq_false (len_ne hlen)]
          go_enter Tryz.func60, Tryz.ntmps60
          go_wp2
          go_ret
          exact ⟨by simp, hbl _ _⟩
        obtain ⟨n, hn⟩ : ∃ n, n = xout.length := ⟨_, rfl⟩
        have hn2 : n = yout.length := hn.trans hlen
        rw [← hn, ← hn2]
        rw [← hn] at hv0 hl1
        rw [← hn2] at hu0
        have hn' := Hd.mk hn
        have hn2' := Hd.mk hn2
        obtain ⟨W0, hW0⟩ : ∃ W0 : World, W0 = (w.alloc (.cells #[.int .i64 xcode, .int .i64 xvalue, .slice A1 n c1, .string xmem, .int .i64 xsteps] 40)).alloc (.cells #[.int .i64 ycode, .int .i64 yvalue, .slice A2 n c2, .string ymem, .int .i64 ysteps] 40) := ⟨_, rfl⟩
        have hB0 : Hd (Below w.heap.size w W0) := ⟨by rw [hW0]; exact hbl _ _⟩
        have hz0 : w.heap.size + 1 < W0.heap.size := by rw [hW0]; simp
        have hz00 : w.heap.size < W0.heap.size := by omega
        have x2 : Hd (W0.cell? ⟨w.heap.size, 2, none⟩ = some (.slice A1 n c1)) := ⟨by rw [hW0]; simp⟩
        have y2 : Hd (W0.cell? ⟨w.heap.size + 1, 2, none⟩ = some (.slice A2 n c2)) := ⟨by rw [hW0]; simp⟩
        have hW0' := Hd.mk hW0
        generalize hRR : decide (xout = yout) = RR
        have hRR' := Hd.mk hRR
        clear hn hn2 hlen hl2 hW0 hbl hRR
        go_enter Tryz.func60, Tryz.ntmps60
        go_wp2
        rw [← hW0'.out]
        go_loopw [5] (fun s5 wr => ∃ k : Nat, k ≤ n ∧ s5 = .int .i64 k ∧ Hd (xout.take k = yout.take k) ∧ Hd (Below W0.heap.size W0 wr)) (fun s5 _ => n - (intOf s5).toNat)
        case atStart => exact ⟨0, Nat.zero_le _, rfl, ⟨by simp⟩, ⟨Below.refl _ _⟩⟩
        case round =>
          obtain ⟨k, hk, rfl, hall, hbr0⟩ := hrel
          have hbr := Hd.mk (hB0.out.then hbr0.out)
          have x2w := (bat hbr0.out w.heap.size hz00 2).trans x2.out
          have y2w := (bat hbr0.out (w.heap.size + 1) hz0 2).trans y2.out
          by_cases hlt : k < n
          · obtain ⟨b, off, cs, hA, hbl, hk1, hat⟩ := hv0.out.in0 hbr.out k (by have := hn'.out; omega)
            cases hA
            cases hk1
            have g0 := hat 0 _ rfl
            simp at g0
            clear hat
            obtain ⟨b2, off2, cs, hA, hbl2, hk1, hat⟩ := hu0.out.in0 hbr.out k (by have := hn2'.out; omega)
            cases hA
            cases hk1
            have f0 := hat 0 _ rfl
            simp at f0
            clear hat
            have hz : (k : Int) < (n : Int) := by omega
            have hzz : (0 : Int) ≤ (k : Int) := by omega
            by_cases he : xout[k]'(by have := hn'.out; omega) = yout[k]'(by have := hn2'.out; omega)
            · have ht := Hd.mk (take_eq hall.out (by have := hn'.out; omega) (by have := hn2'.out; omega) he)
              generalize xout[k]'_ = x at *
              subst he
              go_wp2
              go_quiet (fail)
              go_wp2
              go_roundw
              case rel => exact ⟨k + 1, by omega, by go_num, ht, ⟨pw_drewN hbr0.out _⟩⟩
              case measure => simp [intOf]; omega
            · have hne := Hd.mk (el_ne _ _ he)
              have hv : RR = false := by rw [← hRR'.out, decide_eq_false hne.out]
              subst hv
              have d := bneT he
              generalize xout[k]'_ = x at *
              generalize yout[k]'_ = y at *
              clear he
              go_wp2
              go_quiet (fail)
              go_wp2
              go_ret
              exact ⟨by simp, pw_drewN hbr.out _⟩
          · have e : k = n := by omega
            subst e
            have hv : RR = true := by rw [← hRR'.out, decide_eq_true (take_all hall.out hn'.out hn2'.out)]
            subst hv
            go_wp2
            go_ret
            exact ⟨by simp, hbr.out⟩
end Go.Proofs.YtkcgejbnhpccdaaGreat
set_option linter.unusedSimpArgs false
set_option linter.unusedVariables false
namespace Go.Proofs.YtkcgejbnhpccdaaGreat
open Go.RowKit
structure XOra where
  func : Int
  args : List Int
  mem : ByteArray
  want : XRes
def KOracle (L : Nat) (w : World) (x : XOra) (cs : List Value) : Prop := ∃ va vo, cs = [.int .i64 x.func, va, .string x.mem, .int .i64 x.want.code, .int .i64 x.want.value, vo, .string x.want.mem, .int .i64 x.want.steps] ∧ RI L w va x.args ∧ RI L w vo x.want.out
instance {L : Nat} : KM (KOracle L) := ⟨fun ⟨v, v', h, r, s⟩ hb => ⟨v, v', h, r.mv hb, s.mv hb⟩⟩
def holdsB (m : XMod) (o : XOra) : Bool := (resR m o.func o.args o.mem 2000).code != 6 && sameR (resR m o.func o.args o.mem 2000) o.want
set_option maxRecDepth 20000 in
set_option maxHeartbeats 4000000 in
theorem c_Holds (m : XMod) (cm : List Value) (o : XOra) (co : List Value) (w : World) (hm : KMod lm w m cm) (ho : KOracle lm w o co) (hms : o.mem.size ≤ 1048576) : Calls Tryz.prog 22 #[.agg cm.toArray, .agg co.toArray] w (Ret (.bool (holdsB m o)) w) := by
  have hm' := Hd.mk hm
  obtain ⟨vm, rfl, hrm⟩ := hm
  obtain ⟨Am, cmm, rfl, -, -, -⟩ := hrm.sm
  obtain ⟨va, vo, rfl, ra, ro⟩ := ho
  have hra := Hd.mk ra
  have hro := Hd.mk ro
  obtain ⟨Aa, ca, rfl, -, -, -⟩ := ra.sm
  obtain ⟨Ao, coo, rfl, -, -, -⟩ := ro.sm
  obtain ⟨of, oa, om, ⟨oc, ov, oo, omm, os⟩⟩ := o
  simp only at *
  clear hrm ra ro
  have hin := fun W (hW : Below w.heap.size w W) => c_Invoked m _ of (.slice Aa oa.length ca) oa om 2000 W (KM.mv hm'.out hW) (hra.out.mv hW) hms
  have hrl := resR_out m of oa om 2000
  unfold holdsB
  simp only
  generalize resR m of oa om 2000 = R at *
  obtain ⟨W0, hW0⟩ : ∃ W0 : World, W0 = (w.alloc (.cells #[.slice Am m.funcs.length cmm] 38)).alloc (.cells #[.int .i64 of, .slice Aa oa.length ca, .string om, .int .i64 oc, .int .i64 ov, .slice Ao oo.length coo, .string omm, .int .i64 os] 48) := ⟨_, rfl⟩
  have hB0 : Hd (Below w.heap.size w W0) := ⟨by rw [hW0]; exact ((Below.refl w.heap.size w).al (Nat.le_refl _) _).al (by simp) _⟩
  have hz0 : w.heap.size + 1 < W0.heap.size := by rw [hW0]; simp
  have x0 : W0.cell? ⟨w.heap.size, 0, none⟩ = some (.slice Am m.funcs.length cmm) := by rw [hW0]; simp
  have hzo : Hd (∀ j u, [Value.int .i64 of, .slice Aa oa.length ca, .string om, .int .i64 oc, .int .i64 ov, .slice Ao oo.length coo, .string omm, .int .i64 os][j]? = some u → W0.cell? ⟨w.heap.size + 1, j, none⟩ = some u) := ⟨fun j u hu => by rw [hW0]; exact new_cell _ _ _ (by simp) j u (by simpa using hu)⟩
  have y0 := hzo.out 0 _ rfl
  have y1 := hzo.out 1 _ rfl
  have y2 := hzo.out 2 _ rfl
  have hW0' := Hd.mk hW0
  clear hW0
  go_enter Tryz.func22, Tryz.ntmps22
  go_wp2_with fail
  rw [← hW0'.out]
  go_wp2_with fail
  refine (hin _ hB0.out).mono ?_; rintro e w1 ⟨v1, rfl, hown, hb1⟩
  have hB1 := Hd.mk (hB0.out.then hb1)
  have hb1' := Hd.mk hb1
  have hz1 := hb1.size
  have hri := Hd.mk ((OwI.of hown).rd hrl)
  obtain ⟨A1, c1, rfl, -, -⟩ := own_shape hown
  have q3 := (bat hb1 (w.heap.size + 1) hz0 3).trans (hzo.out 3 _ rfl)
  have q4 := (bat hb1 (w.heap.size + 1) hz0 4).trans (hzo.out 4 _ rfl)
  have q5 := (bat hb1 (w.heap.size + 1) hz0 5).trans (hzo.out 5 _ rfl)
  have q6 := (bat hb1 (w.heap.size + 1) hz0 6).trans (hzo.out 6 _ rfl)
  have q7 := (bat hb1 (w.heap.size + 1) hz0 7).trans (hzo.out 7 _ rfl)
  have ql : w.heap.size + 1 < w1.heap.size := by omega
  have hal := Hd.mk fun (o : Obj) => (Below.refl w1.heap.size w1).al (Nat.le_refl _) o
  have hsm := fun W (hW : Below w1.heap.size w1 W) => c_isSeenAs R ⟨oc, ov, oo, omm, os⟩ _ _ W ⟨_, rfl, hri.out.mv hW⟩ ⟨_, rfl, hro.out.mv (hB1.out.then hW)⟩
  clear hb1 hown hin x0 y0 y1 y2
  unfold resV
  cases h6 : R.code != 6 with
  | false =>
    go_wp2
    go_ret
    exact ⟨by rw [h6]; rfl, hB1.out.then (hal.out _)⟩
  | true =>
    go_wp2_with fail
    refine (hsm _ (hal.out _)).mono ?_; rintro e w2 ⟨rfl, hb2⟩
    go_wp2
    go_ret
    exact ⟨by rw [h6]; rfl, (hB1.out.then (hal.out _)).then hb2⟩
set_option maxRecDepth 20000 in
set_option maxHeartbeats 4000000 in
theorem s_Holds (m : XMod) (cm : List Value) (o : XOra) (co : List Value) (w : World) (hm : KMod lm w m cm) (ho : KOracle lm w o co) (hms : o.mem.size ≤ 1048576) : Calls Tryz.prog 23 #[.agg cm.toArray, .agg co.toArray] w (Ret (.bool (holdsB m o)) w) := by
  have hm' := Hd.mk hm
  obtain ⟨vm, rfl, hrm⟩ := hm
  obtain ⟨Am, cmm, rfl, -, -, -⟩ := hrm.sm
  obtain ⟨va, vo, rfl, ra, ro⟩ := ho
  have hra := Hd.mk ra
  have hro := Hd.mk ro
  obtain ⟨Aa, ca, rfl, -, -, -⟩ := ra.sm
  obtain ⟨Ao, coo, rfl, -, -, -⟩ := ro.sm
  obtain ⟨of, oa, om, ⟨oc, ov, oo, omm, os⟩⟩ := o
  simp only at *
  clear hrm ra ro
  have hin := fun W (hW : Below w.heap.size w W) => s_Invoked m _ of (.slice Aa oa.length ca) oa om 2000 W (KM.mv hm'.out hW) (hra.out.mv hW) hms
  have hrl := resR_out m of oa om 2000
  unfold holdsB
  simp only
  generalize resR m of oa om 2000 = R at *
  obtain ⟨W0, hW0⟩ : ∃ W0 : World, W0 = (w.alloc (.cells #[.slice Am m.funcs.length cmm] 38)).alloc (.cells #[.int .i64 of, .slice Aa oa.length ca, .string om, .int .i64 oc, .int .i64 ov, .slice Ao oo.length coo, .string omm, .int .i64 os] 48) := ⟨_, rfl⟩
  have hB0 : Hd (Below w.heap.size w W0) := ⟨by rw [hW0]; exact ((Below.refl w.heap.size w).al (Nat.le_refl _) _).al (by simp) _⟩
  have hz0 : w.heap.size + 1 < W0.heap.size := by rw [hW0]; simp
  have x0 : W0.cell? ⟨w.heap.size, 0, none⟩ = some (.slice Am m.funcs.length cmm) := by rw [hW0]; simp
  have hzo : Hd (∀ j u, [Value.int .i64 of, .slice Aa oa.length ca, .string om, .int .i64 oc, .int .i64 ov, .slice Ao oo.length coo, .string omm, .int .i64 os][j]? = some u → W0.cell? ⟨w.heap.size + 1, j, none⟩ = some u) := ⟨fun j u hu => by rw [hW0]; exact new_cell _ _ _ (by simp) j u (by simpa using hu)⟩
  have y0 := hzo.out 0 _ rfl
  have y1 := hzo.out 1 _ rfl
  have y2 := hzo.out 2 _ rfl
  have hW0' := Hd.mk hW0
  clear hW0
  go_enter Tryz.func23, Tryz.ntmps23
  go_wp2_with fail
  rw [← hW0'.out]
  go_wp2_with fail
  refine (hin _ hB0.out).mono ?_; rintro e w1 ⟨v1, rfl, hown, hb1⟩
  have hB1 := Hd.mk (hB0.out.then hb1)
  have hb1' := Hd.mk hb1
  have hz1 := hb1.size
  have hri := Hd.mk ((OwI.of hown).rd hrl)
  obtain ⟨A1, c1, rfl, -, -⟩ := own_shape hown
  have q3 := (bat hb1 (w.heap.size + 1) hz0 3).trans (hzo.out 3 _ rfl)
  have q4 := (bat hb1 (w.heap.size + 1) hz0 4).trans (hzo.out 4 _ rfl)
  have q5 := (bat hb1 (w.heap.size + 1) hz0 5).trans (hzo.out 5 _ rfl)
  have q6 := (bat hb1 (w.heap.size + 1) hz0 6).trans (hzo.out 6 _ rfl)
  have q7 := (bat hb1 (w.heap.size + 1) hz0 7).trans (hzo.out 7 _ rfl)
  have ql : w.heap.size + 1 < w1.heap.size := by omega
  have hal := Hd.mk fun (o : Obj) => (Below.refl w1.heap.size w1).al (Nat.le_refl _) o
  have hsm := fun W (hW : Below w1.heap.size w1 W) => s_l19Same R ⟨oc, ov, oo, omm, os⟩ _ _ W ⟨_, rfl, hri.out.mv hW⟩ ⟨_, rfl, hro.out.mv (hB1.out.then hW)⟩
  clear hb1 hown hin x0 y0 y1 y2
  unfold resV
  cases h6 : R.code != 6 with
  | false =>
    go_wp2
    go_ret
    exact ⟨by rw [h6]; rfl, hB1.out.then (hal.out _)⟩
  | true =>
    go_wp2_with fail
    refine (hsm _ (hal.out _)).mono ?_; rintro e w2 ⟨rfl, hb2⟩
    go_wp2
    go_ret
    exact ⟨by rw [h6]; rfl, (hB1.out.then (hal.out _)).then hb2⟩
end Go.Proofs.YtkcgejbnhpccdaaGreat
