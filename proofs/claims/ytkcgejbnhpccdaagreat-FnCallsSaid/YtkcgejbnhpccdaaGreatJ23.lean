/- Contracts of the laws' functions that compare. No conditions. -/
import Derived.Test.YtkcgejbnhpccdaaGreatJ13
import Derived.StillTailTactics
import Derived.Deep.QuietTactic
import Derived.BigQuiet
set_option linter.unusedSimpArgs false
set_option linter.unusedVariables false
namespace Go.Proofs.YtkcgejbnhpccdaaGreat
open Go.RowKit

theorem take_eq {α : Type} {xs ys : List α} {k : Nat} (h : xs.take k = ys.take k) (hx : k < xs.length) (hy : k < ys.length) (e : xs[k] = ys[k]) : xs.take (k + 1) = ys.take (k + 1) := by
  rw [List.take_succ_eq_append_getElem hx, List.take_succ_eq_append_getElem hy, h, e]
theorem el_ne {α : Type} {xs ys : List α} {k : Nat} (hx : k < xs.length) (hy : k < ys.length) (e : ¬ xs[k] = ys[k]) : ¬ xs = ys := by
  intro h; subst h; exact e rfl
theorem take_all {α : Type} {xs ys : List α} {k : Nat} (h : xs.take k = ys.take k) (hx : k = xs.length) (hy : k = ys.length) : xs = ys := by
  rw [List.take_of_length_le (by omega), List.take_of_length_le (by omega)] at h; exact h
theorem len_ne {α : Type} {xs ys : List α} (h : ¬ xs.length = ys.length) : ¬ xs = ys := fun e => h (by rw [e])
theorem pw_drewN {B : Nat} {a w : World} (h : Below B a w) (q : Nat) : Below B a (w.drewN q) := ⟨h.os, h.tape, h.output, h.size, h.block⟩
set_option maxHeartbeats 1000000 in
theorem e_I (v u : Value) (xs ys : List Int) (w : World) (hv : RI lm w v xs) (hu : RI lm w u ys) : Calls Tryz.prog 33 #[v, u] w (Ret (.bool (decide (xs = ys))) w) := by
  obtain ⟨A1, c1, rfl, -, hl1, hv0⟩ := hv.sm
  obtain ⟨A2, c2, rfl, -, hl2, hu0⟩ := hu.sm
  clear hv hu
  by_cases hlen : xs.length = ys.length
  rotate_left
  · rw [decide_eq_false (len_ne hlen)]
    have d : ((xs.length : Int) != (ys.length : Int)) = true := by simp; omega
    go_enter Tryz.func33, Tryz.ntmps33
    go_wp2
    go_ret
    exact ⟨rfl, Below.refl _ _⟩
  obtain ⟨n, hn⟩ : ∃ n, n = xs.length := ⟨_, rfl⟩
  have hn2 : n = ys.length := hn.trans hlen
  rw [← hn, ← hn2]
  rw [← hn] at hv0 hl1
  rw [← hn2] at hu0
  have hn' := Hd.mk hn
  have hn2' := Hd.mk hn2
  clear hn hn2 hlen hl2
  go_enter Tryz.func33, Tryz.ntmps33
  go_wp2
  go_loopw [5] (fun s5 wr => ∃ k : Nat, k ≤ n ∧ s5 = .int .i64 k ∧ Hd (xs.take k = ys.take k) ∧ Hd (Below w.heap.size w wr)) (fun s5 _ => n - (intOf s5).toNat)
  case atStart => exact ⟨0, Nat.zero_le _, rfl, ⟨by simp⟩, ⟨Below.refl _ _⟩⟩
  case round =>
    obtain ⟨k, hk, rfl, hall, hbr⟩ := hrel
    by_cases hlt : k < n
    · obtain ⟨b, off, cs, hA, hbl, hk1, hat⟩ := hv0.out.in0 hbr.out k (by have := hn'.out; omega)
      cases hA
      cases hk1
      have g0 := hat 0 _ rfl
      simp at g0
      clear hat
      obtain ⟨b2, off2, cs, hA, hbl2, hk1, hat⟩ := hu0.out.in0 hbr.out k (by have := hn2'.out; omega)
      cases hA
      cases hk1
      have f0 := hat 0 _ rfl
      simp at f0
      clear hat
      have hz : (k : Int) < (n : Int) := by omega
      have hz0 : (0 : Int) ≤ (k : Int) := by omega
      by_cases he : xs[k]'(by have := hn'.out; omega) = ys[k]'(by have := hn2'.out; omega)
      · have ht := Hd.mk (take_eq hall.out (by have := hn'.out; omega) (by have := hn2'.out; omega) he)
        generalize xs[k]'_ = x at *
        subst he
        go_wp2
        go_quiet (fail)
        go_wp2
        go_roundw
        case rel => exact ⟨k + 1, by omega, by go_num, ht, ⟨pw_drewN hbr.out _⟩⟩
        case measure => simp [intOf]; omega
      · have hne := Hd.mk (el_ne _ _ he)
        have d := bneT he
        generalize xs[k]'_ = x at *
        generalize ys[k]'_ = y at *
        clear he
        go_wp2
        go_quiet (fail)
        go_wp2
        go_ret
        exact ⟨by rw [decide_eq_false hne.out]; rfl, pw_drewN hbr.out _⟩
    · have e : k = n := by omega
      subst e
      go_wp2
      go_ret
      exact ⟨by rw [decide_eq_true (take_all hall.out hn'.out hn2'.out)]; rfl, hbr.out⟩

set_option maxHeartbeats 4000000 in
theorem e_Phi (x y : XPhi) (cs ds : List Value) (w : World) (hx : KPhi lm w x cs) (hy : KPhi lm w y ds) : Calls Tryz.prog 224 #[.agg cs.toArray, .agg ds.toArray] w (Ret (.bool (decide (x = y))) w) := by
  obtain ⟨v1, rfl, r1⟩ := hx
  obtain ⟨u1, rfl, s1⟩ := hy
  have hbl := fun o o' => ((Below.refl w.heap.size w).al (Nat.le_refl _) o).al (by simp) o'
  obtain ⟨xw, xins⟩ := x
  obtain ⟨yw, yins⟩ := y
  simp only at *
  have z1 := fun W hW => e_I v1 u1 xins yins W (r1.mv hW) (s1.mv hW)
  by_cases hw : xw = yw
  rotate_left
  · rw [decide_eq_false (by intro e; injection e; contradiction)]
    have d := bneT hw
    go_enter Tryz.func224, Tryz.ntmps224
    go_wp2
    go_ret
    exact ⟨rfl, (hbl _ _)⟩
  subst hw
  by_cases hins : xins = yins
  rotate_left
  · rw [decide_eq_false (by intro e; injection e; contradiction)]
    simp only [decide_eq_false hins] at z1
    clear hins
    go_enter Tryz.func224, Tryz.ntmps224
    go_wp2_with fail
    refine (z1 _ (hbl _ _)).mono ?_; rintro e w1 ⟨rfl, hb1⟩
    have k0 := bat hb1 w.heap.size (by simp; omega)
    have k1 := bat hb1 (w.heap.size + 1) (by simp)
    have hz1 := hb1.size
    simp at k0 k1 hz1
    have hbw1 := Hd.mk ((hbl _ _).then hb1)
    go_wp2
    go_ret
    exact ⟨rfl, hbw1.out⟩
  simp only [decide_eq_true hins] at z1
  rw [decide_eq_true (by rw [hins])]
  clear hins
  go_enter Tryz.func224, Tryz.ntmps224
  go_wp2_with fail
  refine (z1 _ (hbl _ _)).mono ?_; rintro e w1 ⟨rfl, hb1⟩
  have k0 := bat hb1 w.heap.size (by simp; omega)
  have k1 := bat hb1 (w.heap.size + 1) (by simp)
  have hz1 := hb1.size
  simp at k0 k1 hz1
  have hbw1 := Hd.mk ((hbl _ _).then hb1)
  go_wp2
  go_ret
  exact ⟨rfl, hbw1.out⟩
set_option maxHeartbeats 4000000 in
set_option maxRecDepth 100000 in
theorem e_PhiS (v u : Value) (xs ys : List XPhi) (w : World) (hv : Rd lm 2 (KPhi lm) w v xs) (hu : Rd lm 2 (KPhi lm) w u ys) : Calls Tryz.prog 201 #[v, u] w (Ret (.bool (decide (xs = ys))) w) := by
  obtain ⟨A1, c1, rfl, -, hl1, hv0⟩ := hv.sm
  obtain ⟨A2, c2, rfl, -, hl2, hu0⟩ := hu.sm
  clear hv hu
  by_cases hlen : xs.length = ys.length
  rotate_left
  · rw [decide_eq_false (len_ne hlen)]
    have d : ((xs.length : Int) != (ys.length : Int)) = true := by simp; omega
    go_enter Tryz.func201, Tryz.ntmps201
    go_wp2
    go_ret
    exact ⟨rfl, Below.refl _ _⟩
  obtain ⟨n, hn⟩ : ∃ n, n = xs.length := ⟨_, rfl⟩
  have hn2 : n = ys.length := hn.trans hlen
  rw [← hn, ← hn2]
  rw [← hn] at hv0 hl1
  rw [← hn2] at hu0
  have hn' := Hd.mk hn
  have hn2' := Hd.mk hn2
  clear hn hn2 hlen hl2
  go_enter Tryz.func201, Tryz.ntmps201
  go_wp2
  go_loopw [5] (fun s5 wr => ∃ k : Nat, k ≤ n ∧ s5 = .int .i64 k ∧ Hd (xs.take k = ys.take k) ∧ Hd (Below w.heap.size w wr)) (fun s5 _ => n - (intOf s5).toNat)
  case atStart => exact ⟨0, Nat.zero_le _, rfl, ⟨by simp⟩, ⟨Below.refl _ _⟩⟩
  case round =>
    obtain ⟨k, hk, rfl, hall, hbr⟩ := hrel
    by_cases hlt : k < n
    · obtain ⟨b, off, cs, hA, hbl, ⟨v1, rfl, r1⟩, hat⟩ := hv0.out.in0 hbr.out k (by have := hn'.out; omega)
      cases hA
      have g0 := hat 0 _ rfl
      have g1 := hat 1 _ rfl
      simp at g0 g1
      clear hat
      obtain ⟨b2, off2, cs, hA, hbl2, ⟨u1, rfl, s1⟩, hat⟩ := hu0.out.in0 hbr.out k (by have := hn2'.out; omega)
      cases hA
      have f0 := hat 0 _ rfl
      have f1 := hat 1 _ rfl
      simp at f0 f1
      clear hat
      have hz : (k : Int) < (n : Int) := by omega
      have hz0 : (0 : Int) ≤ (k : Int) := by omega
      have hex0 := fun W (hW : Below wr.heap.size wr W) => e_Phi (xs[k]'(by have := hn'.out; omega)) (ys[k]'(by have := hn2'.out; omega)) _ _ W ⟨v1, rfl, r1.mv (hbr.out.then hW)⟩ ⟨u1, rfl, s1.mv (hbr.out.then hW)⟩
      have hdr : Below wr.heap.size wr wr.drew := (Below.refl _ _).drew
      by_cases he : xs[k]'(by have := hn'.out; omega) = ys[k]'(by have := hn2'.out; omega)
      · have ht := Hd.mk (take_eq hall.out (by have := hn'.out; omega) (by have := hn2'.out; omega) he)
        simp only [decide_eq_true he] at hex0
        have hex := Hd.mk hex0
        clear he hex0
        generalize xs[k]'_ = x at *
        generalize ys[k]'_ = y at *
        go_wp2
        go_still_tail 8, (by kernel_rfl)
        change wpList _ _ _ _ _ wr.drew
        go_wp2_with fail
        refine (hex.out _ hdr).mono ?_; rintro e w1 ⟨rfl, hb1⟩
        have hbz := Hd.mk (hbr.out.then (hdr.then hb1))
        clear hb1 hex hdr
        go_wp2
        go_roundw
        case rel => exact ⟨k + 1, by omega, by go_num, ht, hbz⟩
        case measure => simp [intOf]; omega
      · have hne := Hd.mk (el_ne _ _ he)
        simp only [decide_eq_false he] at hex0
        have hex := Hd.mk hex0
        clear he hex0
        generalize xs[k]'_ = x at *
        generalize ys[k]'_ = y at *
        go_wp2
        go_still_tail 8, (by kernel_rfl)
        change wpList _ _ _ _ _ wr.drew
        go_wp2_with fail
        refine (hex.out _ hdr).mono ?_; rintro e w1 ⟨rfl, hb1⟩
        have hbz := Hd.mk (hbr.out.then (hdr.then hb1))
        clear hb1 hex hdr
        go_wp2
        go_ret
        exact ⟨by rw [decide_eq_false hne.out]; rfl, hbz.out⟩
    · have e : k = n := by omega
      subst e
      go_wp2
      go_ret
      exact ⟨by rw [decide_eq_true (take_all hall.out hn'.out hn2'.out)]; rfl, hbr.out⟩

set_option maxHeartbeats 4000000 in
theorem e_Inst (x y : XInst) (cs ds : List Value) (w : World) (hx : KInst lm w x cs) (hy : KInst lm w y ds) : Calls Tryz.prog 225 #[.agg cs.toArray, .agg ds.toArray] w (Ret (.bool (decide (x = y))) w) := by
  obtain ⟨v1, rfl, r1⟩ := hx
  obtain ⟨u1, rfl, s1⟩ := hy
  have hbl := fun o o' => ((Below.refl w.heap.size w).al (Nat.le_refl _) o).al (by simp) o'
  obtain ⟨xop, xwd, xa, xb, xc, ximm, xargs⟩ := x
  obtain ⟨yop, ywd, ya, yb, yc, yimm, yargs⟩ := y
  simp only at *
  have z1 := fun W hW => e_I v1 u1 xargs yargs W (r1.mv hW) (s1.mv hW)
  by_cases hop : xop = yop
  rotate_left
  · rw [decide_eq_false (by intro e; injection e; contradiction)]
    have d := bneT hop
    go_enter Tryz.func225, Tryz.ntmps225
    go_wp2
    go_ret
    exact ⟨rfl, (hbl _ _)⟩
  subst hop
  by_cases hwd : xwd = ywd
  rotate_left
  · rw [decide_eq_false (by intro e; injection e; contradiction)]
    have d := bneT hwd
    go_enter Tryz.func225, Tryz.ntmps225
    go_wp2
    go_ret
    exact ⟨rfl, (hbl _ _)⟩
  subst hwd
  by_cases ha : xa = ya
  rotate_left
  · rw [decide_eq_false (by intro e; injection e; contradiction)]
    have d := bneT ha
    go_enter Tryz.func225, Tryz.ntmps225
    go_wp2
    go_ret
    exact ⟨rfl, (hbl _ _)⟩
  subst ha
  by_cases hb : xb = yb
  rotate_left
  · rw [decide_eq_false (by intro e; injection e; contradiction)]
    have d := bneT hb
    go_enter Tryz.func225, Tryz.ntmps225
    go_wp2
    go_ret
    exact ⟨rfl, (hbl _ _)⟩
  subst hb
  by_cases hc : xc = yc
  rotate_left
  · rw [decide_eq_false (by intro e; injection e; contradiction)]
    have d := bneT hc
    go_enter Tryz.func225, Tryz.ntmps225
    go_wp2
    go_ret
    exact ⟨rfl, (hbl _ _)⟩
  subst hc
  by_cases himm : ximm = yimm
  rotate_left
  · rw [decide_eq_false (by intro e; injection e; contradiction)]
    have d := bneT himm
    go_enter Tryz.func225, Tryz.ntmps225
    go_wp2
    go_ret
    exact ⟨rfl, (hbl _ _)⟩
  subst himm
  by_cases hargs : xargs = yargs
  rotate_left
  · rw [decide_eq_false (by intro e; injection e; contradiction)]
    simp only [decide_eq_false hargs] at z1
    clear hargs
    go_enter Tryz.func225, Tryz.ntmps225
    go_wp2_with fail
    refine (z1 _ (hbl _ _)).mono ?_; rintro e w1 ⟨rfl, hb1⟩
    have k0 := bat hb1 w.heap.size (by simp; omega)
    have k1 := bat hb1 (w.heap.size + 1) (by simp)
    have hz1 := hb1.size
    simp at k0 k1 hz1
    have hbw1 := Hd.mk ((hbl _ _).then hb1)
    go_wp2
    go_ret
    exact ⟨rfl, hbw1.out⟩
  simp only [decide_eq_true hargs] at z1
  rw [decide_eq_true (by rw [hargs])]
  clear hargs
  go_enter Tryz.func225, Tryz.ntmps225
  go_wp2_with fail
  refine (z1 _ (hbl _ _)).mono ?_; rintro e w1 ⟨rfl, hb1⟩
  have k0 := bat hb1 w.heap.size (by simp; omega)
  have k1 := bat hb1 (w.heap.size + 1) (by simp)
  have hz1 := hb1.size
  simp at k0 k1 hz1
  have hbw1 := Hd.mk ((hbl _ _).then hb1)
  go_wp2
  go_ret
  exact ⟨rfl, hbw1.out⟩
set_option maxHeartbeats 4000000 in
set_option maxRecDepth 100000 in
theorem e_InstS (v u : Value) (xs ys : List XInst) (w : World) (hv : Rd lm 7 (KInst lm) w v xs) (hu : Rd lm 7 (KInst lm) w u ys) : Calls Tryz.prog 202 #[v, u] w (Ret (.bool (decide (xs = ys))) w) := by
  obtain ⟨A1, c1, rfl, -, hl1, hv0⟩ := hv.sm
  obtain ⟨A2, c2, rfl, -, hl2, hu0⟩ := hu.sm
  clear hv hu
  by_cases hlen : xs.length = ys.length
  rotate_left
  · rw [decide_eq_false (len_ne hlen)]
    have d : ((xs.length : Int) != (ys.length : Int)) = true := by simp; omega
    go_enter Tryz.func202, Tryz.ntmps202
    go_wp2
    go_ret
    exact ⟨rfl, Below.refl _ _⟩
  obtain ⟨n, hn⟩ : ∃ n, n = xs.length := ⟨_, rfl⟩
  have hn2 : n = ys.length := hn.trans hlen
  rw [← hn, ← hn2]
  rw [← hn] at hv0 hl1
  rw [← hn2] at hu0
  have hn' := Hd.mk hn
  have hn2' := Hd.mk hn2
  clear hn hn2 hlen hl2
  go_enter Tryz.func202, Tryz.ntmps202
  go_wp2
  go_loopw [5] (fun s5 wr => ∃ k : Nat, k ≤ n ∧ s5 = .int .i64 k ∧ Hd (xs.take k = ys.take k) ∧ Hd (Below w.heap.size w wr)) (fun s5 _ => n - (intOf s5).toNat)
  case atStart => exact ⟨0, Nat.zero_le _, rfl, ⟨by simp⟩, ⟨Below.refl _ _⟩⟩
  case round =>
    obtain ⟨k, hk, rfl, hall, hbr⟩ := hrel
    by_cases hlt : k < n
    · obtain ⟨b, off, cs, hA, hbl, ⟨v1, rfl, r1⟩, hat⟩ := hv0.out.in0 hbr.out k (by have := hn'.out; omega)
      cases hA
      have g0 := hat 0 _ rfl
      have g1 := hat 1 _ rfl
      have g2 := hat 2 _ rfl
      have g3 := hat 3 _ rfl
      have g4 := hat 4 _ rfl
      have g5 := hat 5 _ rfl
      have g6 := hat 6 _ rfl
      simp at g0 g1 g2 g3 g4 g5 g6
      clear hat
      obtain ⟨b2, off2, cs, hA, hbl2, ⟨u1, rfl, s1⟩, hat⟩ := hu0.out.in0 hbr.out k (by have := hn2'.out; omega)
      cases hA
      have f0 := hat 0 _ rfl
      have f1 := hat 1 _ rfl
      have f2 := hat 2 _ rfl
      have f3 := hat 3 _ rfl
      have f4 := hat 4 _ rfl
      have f5 := hat 5 _ rfl
      have f6 := hat 6 _ rfl
      simp at f0 f1 f2 f3 f4 f5 f6
      clear hat
      have hz : (k : Int) < (n : Int) := by omega
      have hz0 : (0 : Int) ≤ (k : Int) := by omega
      have hex0 := fun W (hW : Below wr.heap.size wr W) => e_Inst (xs[k]'(by have := hn'.out; omega)) (ys[k]'(by have := hn2'.out; omega)) _ _ W ⟨v1, rfl, r1.mv (hbr.out.then hW)⟩ ⟨u1, rfl, s1.mv (hbr.out.then hW)⟩
      have hdr : Below wr.heap.size wr wr.drew := (Below.refl _ _).drew
      by_cases he : xs[k]'(by have := hn'.out; omega) = ys[k]'(by have := hn2'.out; omega)
      · have ht := Hd.mk (take_eq hall.out (by have := hn'.out; omega) (by have := hn2'.out; omega) he)
        simp only [decide_eq_true he] at hex0
        have hex := Hd.mk hex0
        clear he hex0
        generalize xs[k]'_ = x at *
        generalize ys[k]'_ = y at *
        go_wp2
        go_still_tail 8, (by kernel_rfl)
        change wpList _ _ _ _ _ wr.drew
        go_wp2_with fail
        refine (hex.out _ hdr).mono ?_; rintro e w1 ⟨rfl, hb1⟩
        have hbz := Hd.mk (hbr.out.then (hdr.then hb1))
        clear hb1 hex hdr
        go_wp2
        go_roundw
        case rel => exact ⟨k + 1, by omega, by go_num, ht, hbz⟩
        case measure => simp [intOf]; omega
      · have hne := Hd.mk (el_ne _ _ he)
        simp only [decide_eq_false he] at hex0
        have hex := Hd.mk hex0
        clear he hex0
        generalize xs[k]'_ = x at *
        generalize ys[k]'_ = y at *
        go_wp2
        go_still_tail 8, (by kernel_rfl)
        change wpList _ _ _ _ _ wr.drew
        go_wp2_with fail
        refine (hex.out _ hdr).mono ?_; rintro e w1 ⟨rfl, hb1⟩
        have hbz := Hd.mk (hbr.out.then (hdr.then hb1))
        clear hb1 hex hdr
        go_wp2
        go_ret
        exact ⟨by rw [decide_eq_false hne.out]; rfl, hbz.out⟩
    · have e : k = n := by omega
      subst e
      go_wp2
      go_ret
      exact ⟨by rw [decide_eq_true (take_all hall.out hn'.out hn2'.out)]; rfl, hbr.out⟩

set_option maxHeartbeats 4000000 in
theorem e_Term (x y : XTerm) (cs ds : List Value) (w : World) (hx : KTerm w x cs) (hy : KTerm w y ds) : Calls Tryz.prog 203 #[.agg cs.toArray, .agg ds.toArray] w (Ret (.bool (decide (x = y))) w) := by
  cases hx
  cases hy
  have hbl := fun o o' => ((Below.refl w.heap.size w).al (Nat.le_refl _) o).al (by simp) o'
  obtain ⟨xkind, xa, xx, xy⟩ := x
  obtain ⟨ykind, ya, yx, yy⟩ := y
  simp only at *
  by_cases hkind : xkind = ykind
  rotate_left
  · rw [decide_eq_false (by intro e; injection e; contradiction)]
    have d := bneT hkind
    go_enter Tryz.func203, Tryz.ntmps203
    go_wp2
    go_ret
    exact ⟨rfl, (hbl _ _)⟩
  subst hkind
  by_cases ha : xa = ya
  rotate_left
  · rw [decide_eq_false (by intro e; injection e; contradiction)]
    have d := bneT ha
    go_enter Tryz.func203, Tryz.ntmps203
    go_wp2
    go_ret
    exact ⟨rfl, (hbl _ _)⟩
  subst ha
  by_cases hx : xx = yx
  rotate_left
  · rw [decide_eq_false (by intro e; injection e; contradiction)]
    have d := bneT hx
    go_enter Tryz.func203, Tryz.ntmps203
    go_wp2
    go_ret
    exact ⟨rfl, (hbl _ _)⟩
  subst hx
  by_cases hy : xy = yy
  rotate_left
  · rw [decide_eq_false (by intro e; injection e; contradiction)]
    have d := bneT hy
    go_enter Tryz.func203, Tryz.ntmps203
    go_wp2
    go_ret
    exact ⟨rfl, (hbl _ _)⟩
  subst hy
  rw [decide_eq_true (by rfl)]
  go_enter Tryz.func203, Tryz.ntmps203
  go_wp2
  go_ret
  exact ⟨rfl, (hbl _ _)⟩
set_option maxHeartbeats 4000000 in
theorem e_Block (x y : XBlock) (cs ds : List Value) (w : World) (hx : KBlock lm w x cs) (hy : KBlock lm w y ds) : Calls Tryz.prog 163 #[.agg cs.toArray, .agg ds.toArray] w (Ret (.bool (decide (x = y))) w) := by
  obtain ⟨v1, v2, rfl, r1, r2⟩ := hx
  obtain ⟨u1, u2, rfl, s1, s2⟩ := hy
  have hbl := fun o o' => ((Below.refl w.heap.size w).al (Nat.le_refl _) o).al (by simp) o'
  obtain ⟨xphis, xinsts, xterm⟩ := x
  obtain ⟨yphis, yinsts, yterm⟩ := y
  simp only at *
  have z1 := fun W hW => e_PhiS v1 u1 xphis yphis W (r1.mv hW) (s1.mv hW)
  have z2 := fun W hW => e_InstS v2 u2 xinsts yinsts W (r2.mv hW) (s2.mv hW)
  have zt := fun W => e_Term xterm yterm _ _ W rfl rfl
  by_cases hphis : xphis = yphis
  rotate_left
  · rw [decide_eq_false (by intro e; injection e; contradiction)]
    simp only [decide_eq_false hphis] at z1
    clear hphis
    go_enter Tryz.func163, Tryz.ntmps163
    go_wp2_with fail
    refine (z1 _ (hbl _ _)).mono ?_; rintro e w1 ⟨rfl, hb1⟩
    have k0 := bat hb1 w.heap.size (by simp; omega)
    have k1 := bat hb1 (w.heap.size + 1) (by simp)
    have hz1 := hb1.size
    simp at k0 k1 hz1
    have hbw1 := Hd.mk ((hbl _ _).then hb1)
    go_wp2
    go_ret
    exact ⟨rfl, hbw1.out⟩
  simp only [decide_eq_true hphis] at z1
  by_cases hinsts : xinsts = yinsts
  rotate_left
  · rw [decide_eq_false (by intro e; injection e; contradiction)]
    simp only [decide_eq_false hinsts] at z2
    clear hphis hinsts
    go_enter Tryz.func163, Tryz.ntmps163
    go_wp2_with fail
    refine (z1 _ (hbl _ _)).mono ?_; rintro e w1 ⟨rfl, hb1⟩
    have k0 := bat hb1 w.heap.size (by simp; omega)
    have k1 := bat hb1 (w.heap.size + 1) (by simp)
    have hz1 := hb1.size
    simp at k0 k1 hz1
    have hbw1 := Hd.mk ((hbl _ _).then hb1)
    go_wp2_with fail
    refine (z2 _ hbw1.out).mono ?_; rintro e w2 ⟨rfl, hb2⟩
    replace k0 := fun o => (bat hb2 w.heap.size (by omega) o).trans (k0 o)
    replace k1 := fun o => (bat hb2 (w.heap.size + 1) (by omega) o).trans (k1 o)
    have hz2 := hb2.size
    have hbw2 := Hd.mk (hbw1.out.then hb2)
    go_wp2
    go_ret
    exact ⟨rfl, hbw2.out⟩
  simp only [decide_eq_true hinsts] at z2
  by_cases hterm : xterm = yterm
  rotate_left
  · rw [decide_eq_false (by intro e; injection e; contradiction)]
    simp only [decide_eq_false hterm] at zt
    clear hphis hinsts hterm
    go_enter Tryz.func163, Tryz.ntmps163
    go_wp2_with fail
    refine (z1 _ (hbl _ _)).mono ?_; rintro e w1 ⟨rfl, hb1⟩
    have k0 := bat hb1 w.heap.size (by simp; omega)
    have k1 := bat hb1 (w.heap.size + 1) (by simp)
    have hz1 := hb1.size
    simp at k0 k1 hz1
    have hbw1 := Hd.mk ((hbl _ _).then hb1)
    go_wp2_with fail
    refine (z2 _ hbw1.out).mono ?_; rintro e w2 ⟨rfl, hb2⟩
    replace k0 := fun o => (bat hb2 w.heap.size (by omega) o).trans (k0 o)
    replace k1 := fun o => (bat hb2 (w.heap.size + 1) (by omega) o).trans (k1 o)
    have hz2 := hb2.size
    have hbw2 := Hd.mk (hbw1.out.then hb2)
    go_wp2_with fail
    refine (zt _).mono ?_; rintro e w3 ⟨rfl, hb3⟩
    replace k0 := fun o => (bat hb3 w.heap.size (by omega) o).trans (k0 o)
    replace k1 := fun o => (bat hb3 (w.heap.size + 1) (by omega) o).trans (k1 o)
    have hz3 := hb3.size
    have hbw3 := Hd.mk (hbw2.out.then hb3)
    go_wp2
    go_ret
    exact ⟨rfl, hbw3.out⟩
  simp only [decide_eq_true hterm] at zt
  rw [decide_eq_true (by rw [hphis, hinsts, hterm])]
  clear hphis hinsts hterm
  go_enter Tryz.func163, Tryz.ntmps163
  go_wp2_with fail
  refine (z1 _ (hbl _ _)).mono ?_; rintro e w1 ⟨rfl, hb1⟩
  have k0 := bat hb1 w.heap.size (by simp; omega)
  have k1 := bat hb1 (w.heap.size + 1) (by simp)
  have hz1 := hb1.size
  simp at k0 k1 hz1
  have hbw1 := Hd.mk ((hbl _ _).then hb1)
  go_wp2_with fail
  refine (z2 _ hbw1.out).mono ?_; rintro e w2 ⟨rfl, hb2⟩
  replace k0 := fun o => (bat hb2 w.heap.size (by omega) o).trans (k0 o)
  replace k1 := fun o => (bat hb2 (w.heap.size + 1) (by omega) o).trans (k1 o)
  have hz2 := hb2.size
  have hbw2 := Hd.mk (hbw1.out.then hb2)
  go_wp2_with fail
  refine (zt _).mono ?_; rintro e w3 ⟨rfl, hb3⟩
  replace k0 := fun o => (bat hb3 w.heap.size (by omega) o).trans (k0 o)
  replace k1 := fun o => (bat hb3 (w.heap.size + 1) (by omega) o).trans (k1 o)
  have hz3 := hb3.size
  have hbw3 := Hd.mk (hbw2.out.then hb3)
  go_wp2
  go_ret
  exact ⟨rfl, hbw3.out⟩
set_option maxHeartbeats 4000000 in
set_option maxRecDepth 100000 in
theorem e_BlockS (v u : Value) (xs ys : List XBlock) (w : World) (hv : Rd lm 6 (KBlock lm) w v xs) (hu : Rd lm 6 (KBlock lm) w u ys) : Calls Tryz.prog 123 #[v, u] w (Ret (.bool (decide (xs = ys))) w) := by
  obtain ⟨A1, c1, rfl, -, hl1, hv0⟩ := hv.sm
  obtain ⟨A2, c2, rfl, -, hl2, hu0⟩ := hu.sm
  clear hv hu
  by_cases hlen : xs.length = ys.length
  rotate_left
  · rw [decide_eq_false (len_ne hlen)]
    have d : ((xs.length : Int) != (ys.length : Int)) = true := by simp; omega
    go_enter Tryz.func123, Tryz.ntmps123
    go_wp2
    go_ret
    exact ⟨rfl, Below.refl _ _⟩
  obtain ⟨n, hn⟩ : ∃ n, n = xs.length := ⟨_, rfl⟩
  have hn2 : n = ys.length := hn.trans hlen
  rw [← hn, ← hn2]
  rw [← hn] at hv0 hl1
  rw [← hn2] at hu0
  have hn' := Hd.mk hn
  have hn2' := Hd.mk hn2
  clear hn hn2 hlen hl2
  go_enter Tryz.func123, Tryz.ntmps123
  go_wp2
  go_loopw [5] (fun s5 wr => ∃ k : Nat, k ≤ n ∧ s5 = .int .i64 k ∧ Hd (xs.take k = ys.take k) ∧ Hd (Below w.heap.size w wr)) (fun s5 _ => n - (intOf s5).toNat)
  case atStart => exact ⟨0, Nat.zero_le _, rfl, ⟨by simp⟩, ⟨Below.refl _ _⟩⟩
  case round =>
    obtain ⟨k, hk, rfl, hall, hbr⟩ := hrel
    by_cases hlt : k < n
    · obtain ⟨b, off, cs, hA, hbl, ⟨v1, v2, rfl, r1, r2⟩, hat⟩ := hv0.out.in0 hbr.out k (by have := hn'.out; omega)
      cases hA
      have g0 := hat 0 _ rfl
      have g1 := hat 1 _ rfl
      have g2 := hat 2 _ rfl
      have g3 := hat 3 _ rfl
      have g4 := hat 4 _ rfl
      have g5 := hat 5 _ rfl
      simp at g0 g1 g2 g3 g4 g5
      clear hat
      obtain ⟨b2, off2, cs, hA, hbl2, ⟨u1, u2, rfl, s1, s2⟩, hat⟩ := hu0.out.in0 hbr.out k (by have := hn2'.out; omega)
      cases hA
      have f0 := hat 0 _ rfl
      have f1 := hat 1 _ rfl
      have f2 := hat 2 _ rfl
      have f3 := hat 3 _ rfl
      have f4 := hat 4 _ rfl
      have f5 := hat 5 _ rfl
      simp at f0 f1 f2 f3 f4 f5
      clear hat
      have hz : (k : Int) < (n : Int) := by omega
      have hz0 : (0 : Int) ≤ (k : Int) := by omega
      have hex0 := fun W (hW : Below wr.heap.size wr W) => e_Block (xs[k]'(by have := hn'.out; omega)) (ys[k]'(by have := hn2'.out; omega)) _ _ W ⟨v1, v2, rfl, r1.mv (hbr.out.then hW), r2.mv (hbr.out.then hW)⟩ ⟨u1, u2, rfl, s1.mv (hbr.out.then hW), s2.mv (hbr.out.then hW)⟩
      have hdr : Below wr.heap.size wr wr.drew := (Below.refl _ _).drew
      by_cases he : xs[k]'(by have := hn'.out; omega) = ys[k]'(by have := hn2'.out; omega)
      · have ht := Hd.mk (take_eq hall.out (by have := hn'.out; omega) (by have := hn2'.out; omega) he)
        simp only [decide_eq_true he] at hex0
        have hex := Hd.mk hex0
        clear he hex0
        generalize xs[k]'_ = x at *
        generalize ys[k]'_ = y at *
        go_wp2
        go_still_tail 8, (by kernel_rfl)
        change wpList _ _ _ _ _ wr.drew
        go_wp2_with fail
        refine (hex.out _ hdr).mono ?_; rintro e w1 ⟨rfl, hb1⟩
        have hbz := Hd.mk (hbr.out.then (hdr.then hb1))
        clear hb1 hex hdr
        go_wp2
        go_roundw
        case rel => exact ⟨k + 1, by omega, by go_num, ht, hbz⟩
        case measure => simp [intOf]; omega
      · have hne := Hd.mk (el_ne _ _ he)
        simp only [decide_eq_false he] at hex0
        have hex := Hd.mk hex0
        clear he hex0
        generalize xs[k]'_ = x at *
        generalize ys[k]'_ = y at *
        go_wp2
        go_still_tail 8, (by kernel_rfl)
        change wpList _ _ _ _ _ wr.drew
        go_wp2_with fail
        refine (hex.out _ hdr).mono ?_; rintro e w1 ⟨rfl, hb1⟩
        have hbz := Hd.mk (hbr.out.then (hdr.then hb1))
        clear hb1 hex hdr
        go_wp2
        go_ret
        exact ⟨by rw [decide_eq_false hne.out]; rfl, hbz.out⟩
    · have e : k = n := by omega
      subst e
      go_wp2
      go_ret
      exact ⟨by rw [decide_eq_true (take_all hall.out hn'.out hn2'.out)]; rfl, hbr.out⟩

set_option maxHeartbeats 4000000 in
theorem e_Func (x y : XFunc) (cs ds : List Value) (w : World) (hx : KFunc lm w x cs) (hy : KFunc lm w y ds) : Calls Tryz.prog 87 #[.agg cs.toArray, .agg ds.toArray] w (Ret (.bool (decide (x = y))) w) := by
  obtain ⟨v1, v2, rfl, r1, r2⟩ := hx
  obtain ⟨u1, u2, rfl, s1, s2⟩ := hy
  have hbl := fun o o' => ((Below.refl w.heap.size w).al (Nat.le_refl _) o).al (by simp) o'
  obtain ⟨xparams, xret, xblocks⟩ := x
  obtain ⟨yparams, yret, yblocks⟩ := y
  simp only at *
  have z1 := fun W hW => e_I v1 u1 xparams yparams W (r1.mv hW) (s1.mv hW)
  have z2 := fun W hW => e_BlockS v2 u2 xblocks yblocks W (r2.mv hW) (s2.mv hW)
  by_cases hparams : xparams = yparams
  rotate_left
  · rw [decide_eq_false (by intro e; injection e; contradiction)]
    simp only [decide_eq_false hparams] at z1
    clear hparams
    go_enter Tryz.func87, Tryz.ntmps87
    go_wp2_with fail
    refine (z1 _ (hbl _ _)).mono ?_; rintro e w1 ⟨rfl, hb1⟩
    have k0 := bat hb1 w.heap.size (by simp; omega)
    have k1 := bat hb1 (w.heap.size + 1) (by simp)
    have hz1 := hb1.size
    simp at k0 k1 hz1
    have hbw1 := Hd.mk ((hbl _ _).then hb1)
    go_wp2
    go_ret
    exact ⟨rfl, hbw1.out⟩
  simp only [decide_eq_true hparams] at z1
  by_cases hret : xret = yret
  rotate_left
  · rw [decide_eq_false (by intro e; injection e; contradiction)]
    have d := bneT hret
    clear hparams
    go_enter Tryz.func87, Tryz.ntmps87
    go_wp2_with fail
    refine (z1 _ (hbl _ _)).mono ?_; rintro e w1 ⟨rfl, hb1⟩
    have k0 := bat hb1 w.heap.size (by simp; omega)
    have k1 := bat hb1 (w.heap.size + 1) (by simp)
    have hz1 := hb1.size
    simp at k0 k1 hz1
    have hbw1 := Hd.mk ((hbl _ _).then hb1)
    go_wp2
    go_ret
    exact ⟨rfl, hbw1.out⟩
  subst hret
  by_cases hblocks : xblocks = yblocks
  rotate_left
  · rw [decide_eq_false (by intro e; injection e; contradiction)]
    simp only [decide_eq_false hblocks] at z2
    clear hparams hblocks
    go_enter Tryz.func87, Tryz.ntmps87
    go_wp2_with fail
    refine (z1 _ (hbl _ _)).mono ?_; rintro e w1 ⟨rfl, hb1⟩
    have k0 := bat hb1 w.heap.size (by simp; omega)
    have k1 := bat hb1 (w.heap.size + 1) (by simp)
    have hz1 := hb1.size
    simp at k0 k1 hz1
    have hbw1 := Hd.mk ((hbl _ _).then hb1)
    go_wp2_with fail
    refine (z2 _ hbw1.out).mono ?_; rintro e w2 ⟨rfl, hb2⟩
    replace k0 := fun o => (bat hb2 w.heap.size (by omega) o).trans (k0 o)
    replace k1 := fun o => (bat hb2 (w.heap.size + 1) (by omega) o).trans (k1 o)
    have hz2 := hb2.size
    have hbw2 := Hd.mk (hbw1.out.then hb2)
    go_wp2
    go_ret
    exact ⟨rfl, hbw2.out⟩
  simp only [decide_eq_true hblocks] at z2
  rw [decide_eq_true (by rw [hparams, hblocks])]
  clear hparams hblocks
  go_enter Tryz.func87, Tryz.ntmps87
  go_wp2_with fail
  refine (z1 _ (hbl _ _)).mono ?_; rintro e w1 ⟨rfl, hb1⟩
  have k0 := bat hb1 w.heap.size (by simp; omega)
  have k1 := bat hb1 (w.heap.size + 1) (by simp)
  have hz1 := hb1.size
  simp at k0 k1 hz1
  have hbw1 := Hd.mk ((hbl _ _).then hb1)
  go_wp2_with fail
  refine (z2 _ hbw1.out).mono ?_; rintro e w2 ⟨rfl, hb2⟩
  replace k0 := fun o => (bat hb2 w.heap.size (by omega) o).trans (k0 o)
  replace k1 := fun o => (bat hb2 (w.heap.size + 1) (by omega) o).trans (k1 o)
  have hz2 := hb2.size
  have hbw2 := Hd.mk (hbw1.out.then hb2)
  go_wp2
  go_ret
  exact ⟨rfl, hbw2.out⟩
end Go.Proofs.YtkcgejbnhpccdaaGreat
