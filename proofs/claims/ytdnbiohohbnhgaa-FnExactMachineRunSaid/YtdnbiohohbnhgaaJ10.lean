/- Contract of the law's comparison of results. Condition: both can be read. Contracts of the law's marks on results, and of the look whether they hold. Condition: the row is the call's own. Contracts of the law's comparison of instructions of programs. Condition: both can be read. Contract of the law's comparison of programs. Condition: both can be read. Contracts of the law's sizes of programs. Condition: the program can be read. Programs and results of the call's own, read. Plain Lean. The reference's machine in memory, and contracts of its parts. Condition: the state lies as MX says. Contract of the reference's step at the first of its operations. Condition: the state lies as MX says, and the program is right. Contract of the reference's step at more of its operations. Condition: the state lies as MX says, and the program is right. -/
import Derived.Test.YtdnbiohohbnhgaaJ01
import Derived.Test.YtdnbiohohbnhgaaJ09
import Derived.StillTailTactics
import Derived.Deep.QuietTactic
import Derived.BigQuiet
import Derived.Test.YtdnbiohohbnhgaaJ08
import Derived.Test.YtdnbiohohbnhgaaJ04
set_option linter.unusedSimpArgs false
set_option linter.unusedVariables false
namespace Go.Proofs.Ytdnbiohohbnhgaa
open Go.RowKit
def KRes (w : World) (x : XRes) (cs : List Value) : Prop := ∃ v, cs = [.int .i64 x.code, .int .i64 x.value, v, .string x.mem, .int .i64 x.steps] ∧ RI lm w v x.out
deriving instance DecidableEq for XRes
theorem bytes_beq' (a b : ByteArray) : (a.toList == b.toList) = decide (a = b) := by
  rw [ByteArray.toList_eq, ByteArray.toList_eq]
  by_cases h : a = b
  · subst h; simp
  · have : ¬ a.data.toList = b.data.toList := fun e => h (ByteArray.ext (Array.toList_inj.1 e))
    rw [decide_eq_false h, beq_eq_false_iff_ne]; exact this
set_option maxHeartbeats 4000000 in
theorem e_Res (x y : XRes) (cs ds : List Value) (w : World) (hx : KRes w x cs) (hy : KRes w y ds) : Calls Try.prog 19 #[.agg cs.toArray, .agg ds.toArray] w (Ret (.bool (decide (x = y))) w) := by
  obtain ⟨v1, rfl, r1⟩ := hx
  obtain ⟨u1, rfl, s1⟩ := hy
  have hbl := fun o o' => ((Below.refl w.heap.size w).al (Nat.le_refl _) o).al (by simp) o'
  obtain ⟨xcode, xvalue, xout, xmem, xsteps⟩ := x
  obtain ⟨ycode, yvalue, yout, ymem, ysteps⟩ := y
  simp only at *
  have z1 := fun W hW => e_I v1 u1 xout yout W (r1.mv hW) (s1.mv hW)
  by_cases hcode : xcode = ycode
  rotate_left
  · rw [decide_eq_false (by intro e; injection e; contradiction)]
    have d := bneT hcode
    go_enter Try.func19, Try.ntmps19
    go_wp2
    go_ret
    exact ⟨rfl, hbl _ _⟩
  subst hcode
  by_cases hvalue : xvalue = yvalue
  rotate_left
  · rw [decide_eq_false (by intro e; injection e; contradiction)]
    have d := bneT hvalue
    go_enter Try.func19, Try.ntmps19
    go_wp2
    go_ret
    exact ⟨rfl, hbl _ _⟩
  subst hvalue
  by_cases hout : xout = yout
  rotate_left
  · rw [decide_eq_false (by intro e; injection e; contradiction)]
    simp only [decide_eq_false hout] at z1
    clear hout
    go_enter Try.func19, Try.ntmps19
    go_wp2_with fail
    refine (z1 _ (hbl _ _)).mono ?_; rintro e w1 ⟨rfl, hb1⟩
    have k0 := bat hb1 w.heap.size (by simp; omega)
    have k1 := bat hb1 (w.heap.size + 1) (by simp)
    have hz1 := hb1.size
    simp at k0 k1 hz1
    have hbw1 := Hd.mk ((hbl _ _).then hb1)
    go_wp2
    go_ret
    exact ⟨rfl, hbw1.out⟩
  simp only [decide_eq_true hout] at z1
  by_cases hmem : xmem = ymem
  rotate_left
  · rw [decide_eq_false (by intro e; injection e; contradiction)]
    have d : (xmem.toList == ymem.toList) = false := by rw [bytes_beq', decide_eq_false hmem]
    clear hout
    go_enter Try.func19, Try.ntmps19
    go_wp2_with fail
    refine (z1 _ (hbl _ _)).mono ?_; rintro e w1 ⟨rfl, hb1⟩
    have k0 := bat hb1 w.heap.size (by simp; omega)
    have k1 := bat hb1 (w.heap.size + 1) (by simp)
    have hz1 := hb1.size
    simp at k0 k1 hz1
    have hbw1 := Hd.mk ((hbl _ _).then hb1)
    go_wp2
    go_ret
    exact ⟨rfl, hbw1.out⟩
  subst hmem
  by_cases hsteps : xsteps = ysteps
  rotate_left
  · rw [decide_eq_false (by intro e; injection e; contradiction)]
    have d := bneT hsteps
    clear hout
    go_enter Try.func19, Try.ntmps19
    go_wp2_with fail
    refine (z1 _ (hbl _ _)).mono ?_; rintro e w1 ⟨rfl, hb1⟩
    have k0 := bat hb1 w.heap.size (by simp; omega)
    have k1 := bat hb1 (w.heap.size + 1) (by simp)
    have hz1 := hb1.size
    simp at k0 k1 hz1
    have hbw1 := Hd.mk ((hbl _ _).then hb1)
    go_wp2
    go_ret
    exact ⟨rfl, hbw1.out⟩
  subst hsteps
  rw [decide_eq_true (by rw [hout])]
  clear hout
  go_enter Try.func19, Try.ntmps19
  go_wp2_with fail
  refine (z1 _ (hbl _ _)).mono ?_; rintro e w1 ⟨rfl, hb1⟩
  have k0 := bat hb1 w.heap.size (by simp; omega)
  have k1 := bat hb1 (w.heap.size + 1) (by simp)
  have hz1 := hb1.size
  simp at k0 k1 hz1
  have hbw1 := Hd.mk ((hbl _ _).then hb1)
  go_wp2
  go_ret
  exact ⟨rfl, hbw1.out⟩
end Go.Proofs.Ytdnbiohohbnhgaa
set_option linter.unusedSimpArgs false
set_option linter.unusedVariables false
namespace Go.Proofs.Ytdnbiohohbnhgaa
open Go.RowKit
set_option maxHeartbeats 1000000 in
theorem m_Res (x : XRes) (A : Option Addr) (n c : Nat) (k : Int) (w : World) (hl : n ≤ 1048576) (h : ∀ W, Below w.heap.size w W → Wr W A n) (h0 : 0 ≤ k) (h1 : k ≤ 1099511627776) :
    Calls Try.prog 22 #[resV x (.slice A n c), .int .i64 k] w (fun e w' => e = .returned (.int .i64 (k + n)) ∧ ∃ W0, Below w.heap.size w W0 ∧ w' = setAll W0 (blk A) 0 (marks k n)) := by
  have hbl := fun o => (Below.refl w.heap.size w).al (Nat.le_refl _) o
  have hm := fun W (hW : Below w.heap.size w W) => m_I A n c k W hl (h W hW) h0 h1
  clear h
  unfold resV
  go_enter Try.func22, Try.ntmps22
  go_wp2_with fail
  refine (hm _ (hbl _)).mono ?_; rintro e w1 ⟨rfl, hw1⟩
  go_wp2
  go_ret
  exact ⟨rfl, _, hbl (.cells #[.int .i64 x.code, .int .i64 x.value, .slice A n c, .string x.mem, .int .i64 x.steps] 42), rfl⟩
theorem h_Res (x : XRes) (A : Option Addr) (n c : Nat) (k : Int) (w : World) (hl : n ≤ 1048576) (h : Hld w A n k) (h0 : 0 ≤ k) (h1 : k ≤ 1099511627776) :
    Calls Try.prog 23 #[resV x (.slice A n c), .int .i64 k] w (Ret (.int .i64 (k + n)) w) := by
  have hbl := fun o => (Below.refl w.heap.size w).al (Nat.le_refl _) o
  have hm := fun W (hW : Below w.heap.size w W) => h_I A n c k W hl (h.mv hW) h0 h1
  clear h
  have d : (0 : Int) ≤ k + n := by omega
  unfold resV
  go_enter Try.func23, Try.ntmps23
  go_wp2_with fail
  refine (hm _ (hbl _)).mono ?_; rintro e w1 ⟨rfl, hb1⟩
  go_wp2
  go_ret
  exact ⟨rfl, (hbl _).then hb1⟩
end Go.Proofs.Ytdnbiohohbnhgaa
set_option linter.unusedSimpArgs false
set_option linter.unusedVariables false
namespace Go.Proofs.Ytdnbiohohbnhgaa
open Go.RowKit
set_option maxHeartbeats 4000000 in
theorem e_MIns (x y : XMIns) (cs ds : List Value) (w : World) (hx : KMIns w x cs) (hy : KMIns w y ds) : Calls Try.prog 77 #[.agg cs.toArray, .agg ds.toArray] w (Ret (.bool (decide (x = y))) w) := by
  obtain ⟨rfl, -⟩ := hx
  obtain ⟨rfl, -⟩ := hy
  have hbl := fun o o' => ((Below.refl w.heap.size w).al (Nat.le_refl _) o).al (by simp) o'
  obtain ⟨xop, xw, xd, xa, xb, xc, ximm⟩ := x
  obtain ⟨yop, yw, yd, ya, yb, yc, yimm⟩ := y
  simp only at *
  by_cases hop : xop = yop
  rotate_left
  · rw [decide_eq_false (by intro e; injection e; contradiction)]
    have d := bneT hop
    go_enter Try.func77, Try.ntmps77
    go_wp2
    go_ret
    exact ⟨rfl, (hbl _ _)⟩
  subst hop
  by_cases hw : xw = yw
  rotate_left
  · rw [decide_eq_false (by intro e; injection e; contradiction)]
    have d := bneT hw
    go_enter Try.func77, Try.ntmps77
    go_wp2
    go_ret
    exact ⟨rfl, (hbl _ _)⟩
  subst hw
  by_cases hd : xd = yd
  rotate_left
  · rw [decide_eq_false (by intro e; injection e; contradiction)]
    have d := bneT hd
    go_enter Try.func77, Try.ntmps77
    go_wp2
    go_ret
    exact ⟨rfl, (hbl _ _)⟩
  subst hd
  by_cases ha : xa = ya
  rotate_left
  · rw [decide_eq_false (by intro e; injection e; contradiction)]
    have d := bneT ha
    go_enter Try.func77, Try.ntmps77
    go_wp2
    go_ret
    exact ⟨rfl, (hbl _ _)⟩
  subst ha
  by_cases hb : xb = yb
  rotate_left
  · rw [decide_eq_false (by intro e; injection e; contradiction)]
    have d := bneT hb
    go_enter Try.func77, Try.ntmps77
    go_wp2
    go_ret
    exact ⟨rfl, (hbl _ _)⟩
  subst hb
  by_cases hc : xc = yc
  rotate_left
  · rw [decide_eq_false (by intro e; injection e; contradiction)]
    have d := bneT hc
    go_enter Try.func77, Try.ntmps77
    go_wp2
    go_ret
    exact ⟨rfl, (hbl _ _)⟩
  subst hc
  by_cases himm : ximm = yimm
  rotate_left
  · rw [decide_eq_false (by intro e; injection e; contradiction)]
    have d := bneT himm
    go_enter Try.func77, Try.ntmps77
    go_wp2
    go_ret
    exact ⟨rfl, (hbl _ _)⟩
  subst himm
  rw [decide_eq_true (by rfl)]
  go_enter Try.func77, Try.ntmps77
  go_wp2
  go_ret
  exact ⟨rfl, (hbl _ _)⟩
set_option maxRecDepth 20000 in
set_option maxHeartbeats 4000000 in
theorem e_MInsS (v u : Value) (xs ys : List XMIns) (w : World) (hv : RMIns lm w v xs) (hu : RMIns lm w u ys) : Calls Try.prog 44 #[v, u] w (Ret (.bool (decide (xs = ys))) w) := by
  obtain ⟨A1, c1, rfl, -, hl1, hv0⟩ := hv.sm
  obtain ⟨A2, c2, rfl, -, hl2, hu0⟩ := hu.sm
  clear hv hu
  by_cases hlen : xs.length = ys.length
  rotate_left
  · rw [decide_eq_false (len_ne hlen)]
    have d : ((xs.length : Int) != (ys.length : Int)) = true := by simp; omega
    go_enter Try.func44, Try.ntmps44
    go_wp2
    go_ret
    exact ⟨rfl, Below.refl _ _⟩
  obtain ⟨n, hn⟩ : ∃ n, n = xs.length := ⟨_, rfl⟩
  have hn2 : n = ys.length := hn.trans hlen
  rw [← hn, ← hn2]
  rw [← hn] at hv0 hl1
  rw [← hn2] at hu0
  have hn' := Hd.mk hn
  have hn2' := Hd.mk hn2
  clear hn hn2 hlen hl2
  go_enter Try.func44, Try.ntmps44
  go_wp2
  go_loopw [5] (fun s5 wr => ∃ k : Nat, k ≤ n ∧ s5 = .int .i64 k ∧ Hd (xs.take k = ys.take k) ∧ Hd (Below w.heap.size w wr)) (fun s5 _ => n - (intOf s5).toNat)
  case atStart => exact ⟨0, Nat.zero_le _, rfl, ⟨by simp⟩, ⟨Below.refl _ _⟩⟩
  case round =>
    obtain ⟨k, hk, rfl, hall, hbr⟩ := hrel
    by_cases hlt : k < n
    · obtain ⟨b, off, cs, hA, hbl, ⟨rfl, hop⟩, hat⟩ := hv0.out.in0 hbr.out k (by have := hn'.out; omega)
      cases hA
      have g0 := hat 0 _ rfl
      have g1 := hat 1 _ rfl
      have g2 := hat 2 _ rfl
      have g3 := hat 3 _ rfl
      have g4 := hat 4 _ rfl
      have g5 := hat 5 _ rfl
      have g6 := hat 6 _ rfl
      simp at g0 g1 g2 g3 g4 g5 g6
      clear hat
      obtain ⟨b2, off2, cs, hA, hbl2, ⟨rfl, hoq⟩, hat⟩ := hu0.out.in0 hbr.out k (by have := hn2'.out; omega)
      cases hA
      have f0 := hat 0 _ rfl
      have f1 := hat 1 _ rfl
      have f2 := hat 2 _ rfl
      have f3 := hat 3 _ rfl
      have f4 := hat 4 _ rfl
      have f5 := hat 5 _ rfl
      have f6 := hat 6 _ rfl
      simp at f0 f1 f2 f3 f4 f5 f6
      clear hat
      have hz : (k : Int) < (n : Int) := by omega
      have hz0 : (0 : Int) ≤ (k : Int) := by omega
      have hex0 := fun W (hW : Below wr.heap.size wr W) => e_MIns (xs[k]'(by have := hn'.out; omega)) (ys[k]'(by have := hn2'.out; omega)) _ _ W ⟨rfl, hop⟩ ⟨rfl, hoq⟩
      clear hop hoq
      have hdr : Below wr.heap.size wr wr.drew := (Below.refl _ _).drew
      by_cases he : xs[k]'(by have := hn'.out; omega) = ys[k]'(by have := hn2'.out; omega)
      · have ht := Hd.mk (take_eq hall.out (by have := hn'.out; omega) (by have := hn2'.out; omega) he)
        simp only [decide_eq_true he] at hex0
        have hex := Hd.mk hex0
        clear he hex0
        generalize xs[k]'_ = x at *
        generalize ys[k]'_ = y at *
        go_wp2
        go_still_tail 8, (by kernel_rfl)
        change wpList _ _ _ _ _ wr.drew
        go_wp2_with fail
        refine (hex.out _ hdr).mono ?_; rintro e w1 ⟨rfl, hb1⟩
        have hbz := Hd.mk (hbr.out.then (hdr.then hb1))
        clear hb1 hex hdr
        go_wp2
        go_roundw
        case rel => exact ⟨k + 1, by omega, by go_num, ht, hbz⟩
        case measure => simp [intOf]; omega
      · have hne := Hd.mk (el_ne _ _ he)
        simp only [decide_eq_false he] at hex0
        have hex := Hd.mk hex0
        clear he hex0
        generalize xs[k]'_ = x at *
        generalize ys[k]'_ = y at *
        go_wp2
        go_still_tail 8, (by kernel_rfl)
        change wpList _ _ _ _ _ wr.drew
        go_wp2_with fail
        refine (hex.out _ hdr).mono ?_; rintro e w1 ⟨rfl, hb1⟩
        have hbz := Hd.mk (hbr.out.then (hdr.then hb1))
        clear hb1 hex hdr
        go_wp2
        go_ret
        exact ⟨by rw [decide_eq_false hne.out]; rfl, hbz.out⟩
    · have e : k = n := by omega
      subst e
      go_wp2
      go_ret
      exact ⟨by rw [decide_eq_true (take_all hall.out hn'.out hn2'.out)]; rfl, hbr.out⟩

end Go.Proofs.Ytdnbiohohbnhgaa
set_option linter.unusedSimpArgs false
set_option linter.unusedVariables false
namespace Go.Proofs.Ytdnbiohohbnhgaa
open Go.RowKit
set_option maxHeartbeats 4000000 in
theorem e_Prog (x y : XProg) (cs ds : List Value) (w : World) (hx : KProg lm w x cs) (hy : KProg lm w y ds) : Calls Try.prog 20 #[.agg cs.toArray, .agg ds.toArray] w (Ret (.bool (decide (x = y))) w) := by
  obtain ⟨v1, v2, v3, rfl, r1, r2, r3⟩ := hx
  obtain ⟨u1, u2, u3, rfl, s1, s2, s3⟩ := hy
  have hbl := fun o o' => ((Below.refl w.heap.size w).al (Nat.le_refl _) o).al (by simp) o'
  obtain ⟨xregs, xparams, xwidths, xcode⟩ := x
  obtain ⟨yregs, yparams, ywidths, ycode⟩ := y
  simp only at *
  have z1 := fun W hW => e_I v1 u1 xparams yparams W (r1.mv hW) (s1.mv hW)
  have z2 := fun W hW => e_I v2 u2 xwidths ywidths W (r2.mv hW) (s2.mv hW)
  have z3 := fun W hW => e_MInsS v3 u3 xcode ycode W (r3.mv hW) (s3.mv hW)
  by_cases hregs : xregs = yregs
  rotate_left
  · rw [decide_eq_false (by intro e; injection e; contradiction)]
    have d := bneT hregs
    go_enter Try.func20, Try.ntmps20
    go_wp2
    go_ret
    exact ⟨rfl, hbl _ _⟩
  subst hregs
  by_cases hparams : xparams = yparams
  rotate_left
  · rw [decide_eq_false (by intro e; injection e; contradiction)]
    simp only [decide_eq_false hparams] at z1
    clear hparams
    go_enter Try.func20, Try.ntmps20
    go_wp2_with fail
    refine (z1 _ (hbl _ _)).mono ?_; rintro e w1 ⟨rfl, hb1⟩
    have k0 := bat hb1 w.heap.size (by simp; omega)
    have k1 := bat hb1 (w.heap.size + 1) (by simp)
    have hz1 := hb1.size
    simp at k0 k1 hz1
    have hbw1 := Hd.mk ((hbl _ _).then hb1)
    go_wp2
    go_ret
    exact ⟨rfl, hbw1.out⟩
  simp only [decide_eq_true hparams] at z1
  by_cases hwidths : xwidths = ywidths
  rotate_left
  · rw [decide_eq_false (by intro e; injection e; contradiction)]
    simp only [decide_eq_false hwidths] at z2
    clear hparams hwidths
    go_enter Try.func20, Try.ntmps20
    go_wp2_with fail
    refine (z1 _ (hbl _ _)).mono ?_; rintro e w1 ⟨rfl, hb1⟩
    have k0 := bat hb1 w.heap.size (by simp; omega)
    have k1 := bat hb1 (w.heap.size + 1) (by simp)
    have hz1 := hb1.size
    simp at k0 k1 hz1
    have hbw1 := Hd.mk ((hbl _ _).then hb1)
    go_wp2_with fail
    refine (z2 _ hbw1.out).mono ?_; rintro e w2 ⟨rfl, hb2⟩
    replace k0 := fun o => (bat hb2 w.heap.size (by omega) o).trans (k0 o)
    replace k1 := fun o => (bat hb2 (w.heap.size + 1) (by omega) o).trans (k1 o)
    have hz2 := hb2.size
    have hbw2 := Hd.mk (hbw1.out.then hb2)
    go_wp2
    go_ret
    exact ⟨rfl, hbw2.out⟩
  simp only [decide_eq_true hwidths] at z2
  by_cases hcode : xcode = ycode
  rotate_left
  · rw [decide_eq_false (by intro e; injection e; contradiction)]
    simp only [decide_eq_false hcode] at z3
    clear hparams hwidths hcode
    go_enter Try.func20, Try.ntmps20
    go_wp2_with fail
    refine (z1 _ (hbl _ _)).mono ?_; rintro e w1 ⟨rfl, hb1⟩
    have k0 := bat hb1 w.heap.size (by simp; omega)
    have k1 := bat hb1 (w.heap.size + 1) (by simp)
    have hz1 := hb1.size
    simp at k0 k1 hz1
    have hbw1 := Hd.mk ((hbl _ _).then hb1)
    go_wp2_with fail
    refine (z2 _ hbw1.out).mono ?_; rintro e w2 ⟨rfl, hb2⟩
    replace k0 := fun o => (bat hb2 w.heap.size (by omega) o).trans (k0 o)
    replace k1 := fun o => (bat hb2 (w.heap.size + 1) (by omega) o).trans (k1 o)
    have hz2 := hb2.size
    have hbw2 := Hd.mk (hbw1.out.then hb2)
    go_wp2_with fail
    refine (z3 _ hbw2.out).mono ?_; rintro e w3 ⟨rfl, hb3⟩
    replace k0 := fun o => (bat hb3 w.heap.size (by omega) o).trans (k0 o)
    replace k1 := fun o => (bat hb3 (w.heap.size + 1) (by omega) o).trans (k1 o)
    have hz3 := hb3.size
    have hbw3 := Hd.mk (hbw2.out.then hb3)
    go_wp2
    go_ret
    exact ⟨rfl, hbw3.out⟩
  simp only [decide_eq_true hcode] at z3
  rw [decide_eq_true (by rw [hparams, hwidths, hcode])]
  clear hparams hwidths hcode
  go_enter Try.func20, Try.ntmps20
  go_wp2_with fail
  refine (z1 _ (hbl _ _)).mono ?_; rintro e w1 ⟨rfl, hb1⟩
  have k0 := bat hb1 w.heap.size (by simp; omega)
  have k1 := bat hb1 (w.heap.size + 1) (by simp)
  have hz1 := hb1.size
  simp at k0 k1 hz1
  have hbw1 := Hd.mk ((hbl _ _).then hb1)
  go_wp2_with fail
  refine (z2 _ hbw1.out).mono ?_; rintro e w2 ⟨rfl, hb2⟩
  replace k0 := fun o => (bat hb2 w.heap.size (by omega) o).trans (k0 o)
  replace k1 := fun o => (bat hb2 (w.heap.size + 1) (by omega) o).trans (k1 o)
  have hz2 := hb2.size
  have hbw2 := Hd.mk (hbw1.out.then hb2)
  go_wp2_with fail
  refine (z3 _ hbw2.out).mono ?_; rintro e w3 ⟨rfl, hb3⟩
  replace k0 := fun o => (bat hb3 w.heap.size (by omega) o).trans (k0 o)
  replace k1 := fun o => (bat hb3 (w.heap.size + 1) (by omega) o).trans (k1 o)
  have hz3 := hb3.size
  have hbw3 := Hd.mk (hbw2.out.then hb3)
  go_wp2
  go_ret
  exact ⟨rfl, hbw3.out⟩
end Go.Proofs.Ytdnbiohohbnhgaa
set_option linter.unusedSimpArgs false
set_option linter.unusedVariables false
namespace Go.Proofs.Ytdnbiohohbnhgaa
open Go.RowKit
def wProg (p : XProg) : Nat := p.params.length + p.widths.length + p.code.length
theorem z_MInsS (v : Value) (x : List XMIns) (left : Int) (w : World) (hv : RMIns lw w v x) (h0 : 0 ≤ left) (h1 : left ≤ 1048576) : Calls Try.prog 33 #[v, .int .i64 left] w (Ret (.int .i64 (sub left x.length)) w) := by
  obtain ⟨A, c, rfl, -, hl, -⟩ := hv.sw
  rcases sub_cases left x.length h0 with ⟨e, h⟩ | ⟨e, h, h'⟩
  all_goals
    rw [e]
    clear hv e
    go_enter Try.func33, Try.ntmps33
    go_wp2
    go_ret
    exact ⟨rfl, Below.refl _ _⟩
set_option maxHeartbeats 1000000 in
theorem z_Prog (x : XProg) (cs : List Value) (left : Int) (w : World) (hk : KProg lw w x cs) (h0 : 0 ≤ left) (h1 : left ≤ 1048576) : Calls Try.prog 14 #[.agg cs.toArray, .int .i64 left] w (Ret (.int .i64 (sub left (wProg x))) w) := by
  obtain ⟨v1, v2, v3, rfl, r1, r2, r3⟩ := hk
  have hbl := fun o => (Below.refl w.heap.size w).al (Nat.le_refl _) o
  have z1 := fun W hW => z_I v1 x.params left W (r1.mv hW) h0 h1
  have z2 := fun W hW left h0 h1 => z_I v2 x.widths left W (r2.mv hW) h0 h1
  have z3 := fun W hW left h0 h1 => z_MInsS v3 x.code left W (r3.mv hW) h0 h1
  unfold wProg
  generalize x.params.length = n1 at *
  generalize x.widths.length = n2 at *
  generalize x.code.length = n3 at *
  rcases sub_cases left n1 h0 with ⟨e1, q1⟩ | ⟨e1, q1, q1'⟩
  · rw [e1] at z1
    rw [sub_lt left (n1 + n2 + n3) (by omega)]
    clear e1
    go_enter Try.func14, Try.ntmps14
    go_wp2_with fail
    refine (z1 _ (hbl _)).mono ?_; rintro e w1 ⟨rfl, hb1⟩
    go_wp2
    go_ret
    exact ⟨rfl, (hbl _).then hb1⟩
  · rw [e1] at z1
    rw [Nat.add_assoc, ← sub_add left n1 (n2 + n3) q1']
    replace z2 := fun W hW => z2 W hW (left - n1) q1 (by omega)
    clear e1
    have q9 : left - (n1 : Int) ≤ 1048576 := by omega
    generalize left - (n1 : Int) = l1 at *
    rcases sub_cases l1 n2 q1 with ⟨e2, q2⟩ | ⟨e2, q2, q2'⟩
    · rw [e2] at z2
      rw [sub_lt l1 (n2 + n3) (by omega)]
      clear e2
      go_enter Try.func14, Try.ntmps14
      go_wp2_with fail
      refine (z1 _ (hbl _)).mono ?_; rintro e w1 ⟨rfl, hb1⟩
      have k0 := bat hb1 w.heap.size (by simp)
      simp at k0
      have hbw := Hd.mk ((hbl _).then hb1)
      go_wp2_with fail
      refine (z2 _ hbw.out).mono ?_; rintro e w2 ⟨rfl, hb2⟩
      go_wp2
      go_ret
      exact ⟨rfl, hbw.out.then hb2⟩
    · rw [e2] at z2
      rw [← sub_add l1 n2 n3 q2']
      replace z3 := fun W hW => z3 W hW (l1 - n2) q2 (by omega)
      clear e2
      have q8 : l1 - (n2 : Int) ≤ 1048576 := by omega
      generalize l1 - (n2 : Int) = l2 at *
      rcases sub_cases l2 n3 q2 with ⟨e3, q3⟩ | ⟨e3, q3, q3'⟩
      all_goals
        rw [e3] at z3 ⊢
        clear e3
        go_enter Try.func14, Try.ntmps14
        go_wp2_with fail
        refine (z1 _ (hbl _)).mono ?_; rintro e w1 ⟨rfl, hb1⟩
        have k0 := bat hb1 w.heap.size (by simp)
        simp at k0
        have hbw := Hd.mk ((hbl _).then hb1)
        go_wp2_with fail
        refine (z2 _ hbw.out).mono ?_; rintro e w2 ⟨rfl, hb2⟩
        replace k0 := fun o => (bat hb2 w.heap.size (by have := hbw.out.size; have := hb1.size; simp at this; omega) o).trans (k0 o)
        have hbw2 := Hd.mk (hbw.out.then hb2)
        go_wp2_with fail
        refine (z3 _ hbw2.out).mono ?_; rintro e w3 ⟨rfl, hb3⟩
        go_wp2
        go_ret
        exact ⟨rfl, hbw2.out.then hb3⟩
end Go.Proofs.Ytdnbiohohbnhgaa
set_option linter.unusedSimpArgs false
set_option linter.unusedVariables false
namespace Go.Proofs.Ytdnbiohohbnhgaa
open Go.RowKit
theorem wProg_le {p : XProg} (h : wProg p ≤ lm) : p.params.length ≤ lm ∧ p.widths.length ≤ lm ∧ p.code.length ≤ lm := by unfold wProg at h; omega
theorem o_prog {lo : Nat} {w : World} {p : XProg} {cs : List Value} (h : OProg lo w p cs) (hw : wProg p ≤ lm) : KProg lm w p cs := by
  obtain ⟨v, v', v'', rfl, hr, hs, ht⟩ := h
  obtain ⟨h1, h2, h3⟩ := wProg_le hw
  exact ⟨v, v', v'', rfl, hr.rd h1, hs.rd h2, Own.rd ht (fun _ _ hk => hk) h3⟩
theorem nar_prog {w : World} {p : XProg} {cs : List Value} (h : KProg lw w p cs) (hw : wProg p ≤ lm) : KProg lm w p cs := by
  obtain ⟨v, v', v'', rfl, hr, hs, ht⟩ := h
  obtain ⟨h1, h2, h3⟩ := wProg_le hw
  exact ⟨v, v', v'', rfl, hr.nar h1 fun _ _ _ hk => hk, hs.nar h2 fun _ _ _ hk => hk, ht.nar h3 fun _ _ _ hk => hk⟩
/-- A result with a row of the call's own, read. -/
theorem res_K {base : Nat} {w : World} {x : XRes} {v : Value} (h : w.ownsRow base 2 1 v x.out.length (x.out.map (Value.int .i64))) (hl : x.out.length ≤ lm) : KRes w x [.int .i64 x.code, .int .i64 x.value, v, .string x.mem, .int .i64 x.steps] := ⟨v, rfl, (OwI.of h).rd hl⟩
end Go.Proofs.Ytdnbiohohbnhgaa
set_option linter.unusedSimpArgs false
set_option linter.unusedVariables false
namespace Go.Proofs.Ytdnbiohohbnhgaa
open Go.RowKit
/-- The reference's machine in block g. -/
def MX (lo g gr gm : Nat) (r : Int) (v1 v2 v3 : Value) (s : MS) (pc value code : Int) (done : Bool) (W : World) : Prop := ∃ Ao co cm,
  W.heap[g]? = some (.cells #[.int .i64 r, v1, v2, v3, .slice (some ⟨gr, 0, none⟩) r.toNat r.toNat, .slice (some ⟨gm, 0, none⟩) 32 cm, .slice Ao s.out.length co, .int .i64 pc, .int .i64 value, .int .i64 code, .bool done] 67 (0, 0)) ∧
  W.ownsRow lo 2 1 (.slice (some ⟨gr, 0, none⟩) r.toNat r.toNat) r.toNat (s.regs.map (Value.int .i64)) ∧ ByR W gm s.mem ∧
  (∃ lo2, W.ownsRow lo2 2 1 (.slice Ao s.out.length co) s.out.length (s.out.map (Value.int .i64)) ∧ g < lo2 ∧ gm < lo2 ∧ gr < lo2 ∧ lo2 ≤ W.heap.size) ∧ lo ≤ g ∧ lo ≤ gm ∧ g ≠ gm ∧ g ≠ gr ∧ gm ≠ gr ∧ lo ≤ gr
section
variable {lo g gr gm : Nat} {r : Int} {v1 v2 v3 : Value} {s : MS} {pc value code : Int} {done : Bool} {W W' : World}
theorem MX.mv (h : MX lo g gr gm r v1 v2 v3 s pc value code done W) (hb : Below W.heap.size W W') : MX lo g gr gm r v1 v2 v3 s pc value code done W' := by
  obtain ⟨Ao, co, cm, h1, h2, h3, ⟨lo2, h4, i1, i2, i3, i4⟩, h5⟩ := h
  exact ⟨Ao, co, cm, (hb.block g (Array.getElem?_eq_some_iff.1 h1).1).trans h1, own_mv h2 hb, h3.mv (hb.block gm h3.lt), ⟨lo2, own_mv h4 hb, i1, i2, i3, Nat.le_trans i4 hb.size⟩, h5⟩
theorem MX.drew (h : MX lo g gr gm r v1 v2 v3 s pc value code done W) (n : Nat) : MX lo g gr gm r v1 v2 v3 s pc value code done (W.drewN n) := h
theorem MX.los (h : MX lo g gr gm r v1 v2 v3 s pc value code done W) : lo ≤ g ∧ lo ≤ gm ∧ lo ≤ gr ∧ g ≠ gm ∧ g ≠ gr ∧ gm ≠ gr ∧ g < W.heap.size ∧ gm < W.heap.size ∧ gr < W.heap.size := by
  obtain ⟨Ao, co, cm, h1, h2, h3, ⟨lo2, h4, i1, i2, i3, i4⟩, h6, h7, h8, h9, h10, h11⟩ := h
  exact ⟨h6, h7, h11, h8, h9, h10, by omega, by omega, by omega⟩
theorem MX.reg (h : MX lo g gr gm r v1 v2 v3 s pc value code done W) (hs : MOk r s) (k : Int) (hk : 0 ≤ k ∧ k < r) : W.cell? ⟨gr, k.toNat, none⟩ = some (.int .i64 (rg s k)) ∧ W.frozen? ⟨gr, k.toNat, none⟩ = false := by
  obtain ⟨Ao, co, cm, h1, h2, -⟩ := h
  have hl := hs.regs
  have hkl : k.toNat < s.regs.length := by omega
  refine ⟨?_, World.ownsRow.frozenAt h2 k.toNat⟩
  rw [World.ownsRow.cellAt h2 k.toNat (by omega), List.getElem?_map, List.getElem?_eq_getElem hkl]
  unfold rg
  rw [List.getD_eq_getElem?_getD, List.getElem?_eq_getElem hkl]; rfl
theorem MX.setReg (h : MX lo g gr gm r v1 v2 v3 s pc value code done W) (k : Nat) (v : Int) : MX lo g gr gm r v1 v2 v3 ⟨s.regs.set k v, s.mem, s.out⟩ pc value code done (W.setCell ⟨gr, k, none⟩ (.int .i64 v)) := by
  obtain ⟨Ao, co, cm, h1, h2, h3, ⟨lo2, h4, i1, i2, i3, i4⟩, h6, h7, h8, h9, h10, h11⟩ := h
  refine ⟨Ao, co, cm, heap_off h1 h9, ?_, h3.mv (Below.heap_setCell _ _ _ _ h10), ⟨lo2, own_far h4 i3, i1, i2, i3, by rw [setCell_size]; exact i4⟩, h6, h7, h8, h9, h10, h11⟩
  have := (World.ownsRow.stored h2 k (.int .i64 v)).1
  simpa [List.map_set] using this
theorem MX.setMem (h : MX lo g gr gm r v1 v2 v3 s pc value code done W) (k : Nat) (v : Int) : MX lo g gr gm r v1 v2 v3 ⟨s.regs, s.mem.set k v, s.out⟩ pc value code done (W.setCell ⟨gm, k, none⟩ (.int .u8 v)) := by
  obtain ⟨Ao, co, cm, h1, h2, h3, ⟨lo2, h4, i1, i2, i3, i4⟩, h6, h7, h8, h9, h10, h11⟩ := h
  exact ⟨Ao, co, cm, heap_off h1 h8, own_at h2 (fun e => h10 e.symm), h3.set k v, ⟨lo2, own_far h4 i2, i1, i2, i3, by rw [setCell_size]; exact i4⟩, h6, h7, h8, h9, h10, h11⟩
/-- A field of the machine itself is written: its number, its value, its code, whether it is done. -/
theorem MX.setF {o : Nat} {u : Value} {pc' value' code' : Int} {done' : Bool} (h : MX lo g gr gm r v1 v2 v3 s pc value code done W)
    (hs : ∀ a0 a1 a2 a3 a4 a5 a6 : Value, (#[a0, a1, a2, a3, a4, a5, a6, .int .i64 pc, .int .i64 value, .int .i64 code, .bool done] : Array Value).setIfInBounds o u = #[a0, a1, a2, a3, a4, a5, a6, .int .i64 pc', .int .i64 value', .int .i64 code', .bool done']) : MX lo g gr gm r v1 v2 v3 s pc' value' code' done' (W.setCell ⟨g, o, none⟩ u) := by
  obtain ⟨Ao, co, cm, h1, h2, h3, ⟨lo2, h4, i1, i2, i3, i4⟩, h6, h7, h8, h9, h10, h11⟩ := h
  refine ⟨Ao, co, cm, ?_, own_at h2 (fun e => h9 e.symm), h3.mv (Below.heap_setCell _ _ _ _ (fun e => h8 e.symm)), ⟨lo2, own_far h4 i1, i1, i2, i3, by rw [setCell_size]; exact i4⟩, h6, h7, h8, h9, h10, h11⟩
  have := heap_set (j := o) (u := u) h1
  rw [hs] at this
  exact this
end
/-- Two cells of the machine are written by fail. -/
theorem s_fail (lo g gr gm : Nat) (r : Int) (v1 v2 v3 : Value) (s : MS) (pc value code : Int) (done : Bool) (c : Int) (W : World) (h : MX lo g gr gm r v1 v2 v3 s pc value code done W) (hlo : lo ≤ W.heap.size) : Calls Try.prog 37 #[.pointer (some ⟨g, 0, none⟩), .int .i64 c] W (fun e w' => e = .returned (.tuple #[]) ∧ MX lo g gr gm r v1 v2 v3 s pc value c true w' ∧ Below lo W w') := by
  have hl := h.los
  have h1 := h.setF (o := 9) (u := .int .i64 c) (pc' := pc) (value' := value) (code' := c) (done' := done) (fun _ _ _ _ _ _ _ => rfl)
  have h2 := h1.setF (o := 10) (u := .bool true) (pc' := pc) (value' := value) (code' := c) (done' := true) (fun _ _ _ _ _ _ _ => rfl)
  have hb : Below lo W ((W.setCell ⟨g, 9, none⟩ (.int .i64 c)).setCell ⟨g, 10, none⟩ (.bool true)) := ((Below.refl lo W).setCell (p := ⟨g, 9, none⟩) hl.1 _).setCell (p := ⟨g, 10, none⟩) hl.1 _
  obtain ⟨Ao, co, cm, hh, -⟩ := h
  obtain ⟨cg, fg⟩ := row_facts hh
  have k9 := cg 9
  have k10 := cg 10
  simp at k9 k10
  have h2' := Hd.mk h2
  have hb' := Hd.mk hb
  clear h1 h2 hb cg hh
  go_enter Try.func37, Try.ntmps37
  go_wp2
  go_end0
  exact ⟨rfl, h2'.out, hb'.out⟩
/-- What a step of the reference's machine makes: the state, the place, the value, the code, whether it is done. -/
def stepX (x : XMIns) (s : MS) (pc : Int) : MS × Int × Int × Int × Bool :=
  if x.op = 31 ∨ (x.op = 32 ∧ rg s x.a % 2 = 1) then (s, x.imm, 0, 0, false)
  else if x.op = 32 then (s, pc + 1, 0, 0, false)
  else if x.op = 33 then (s, pc + 1, mskd x.w (rg s x.a), 0, true)
  else if x.op = 34 then (s, pc + 1, 0, 3, true)
  else if (doM x s).2 = 0 then ((doM x s).1, pc + 1, 0, 0, false) else ((doM x s).1, pc + 1, 0, (doM x s).2, true)
def StepD (lo g gr gm : Nat) (r : Int) (v1 v2 v3 : Value) (D : MS × Int × Int × Int × Bool) (w : World) (e : Ending) (w' : World) : Prop := e = .returned (.tuple #[]) ∧ MX lo g gr gm r v1 v2 v3 D.1 D.2.1 D.2.2.1 D.2.2.2.1 D.2.2.2.2 w' ∧ Below lo w w'
end Go.Proofs.Ytdnbiohohbnhgaa
set_option linter.unusedSimpArgs false
set_option linter.unusedVariables false
namespace Go.Proofs.Ytdnbiohohbnhgaa
open Go.RowKit
theorem cell_far (W : World) (g j b o : Nat) (u : Value) (h : b ≠ g) : (W.setCell ⟨g, j, none⟩ u).cell? ⟨b, o, none⟩ = W.cell? ⟨b, o, none⟩ :=
  World.cell?_of_block (w := W) (w' := W.setCell ⟨g, j, none⟩ u) (a := ⟨b, o, none⟩) (Below.heap_setCell _ _ _ _ h)
theorem quietS' {P : Program} {f : FuncId} {args : Array Value} {w : World} {n : Nat} {v : Value} (h : Calls P f args (w.drewN n) (Same v (w.drewN n))) : Calls P f args (w.drewN n) fun e w'' => e = .returned v ∧ ∃ m, w'' = w.drewN m :=
  h.mono fun _ _ ⟨he, hm⟩ => ⟨he, n, hm.symm⟩
set_option maxRecDepth 20000 in
set_option maxHeartbeats 4000000 in
theorem s_step31 (lo g gr gm : Nat) (r n : Int) (v1 v2 v3 : Value) (s : MS) (pc : Int) (W : World) (x : XMIns) (h : MX lo g gr gm r v1 v2 v3 s pc 0 0 false W) (hs : MOk r s) (hr : r ≤ 130) (hx : minsOk r n x = true) (hlo : lo ≤ W.heap.size) (hpc : 0 ≤ pc ∧ pc ≤ 600) (ho : x.op = 31) :
    Calls Try.prog 38 #[.pointer (some ⟨g, 0, none⟩), minsV x] W (StepD lo g gr gm r v1 v2 v3 (stepX x s pc) W) := by
  obtain ⟨rd, ra, rb, rc, -, -⟩ := mins_regs hx
  obtain ⟨W0, hW0⟩ : ∃ W0 : World, W0 = W.alloc (.cells #[.int .i64 x.op, .int .i64 x.w, .int .i64 x.d, .int .i64 x.a, .int .i64 x.b, .int .i64 x.c, .int .i64 x.imm] 71) := ⟨_, rfl⟩
  have hb0 : Below W.heap.size W W0 := by rw [hW0]; exact (Below.refl _ _).al (Nat.le_refl _) _
  have hM := h.mv hb0
  have hxc : Xc W0 W.heap.size x := by
    rw [hW0]
    refine ⟨?_, ?_, ?_, ?_, ?_, ?_, ?_⟩ <;> simp
  have hrga := (hM.reg hs x.a ra).1
  have hrng := rg_rng hs x.a
  have hl := hM.los
  have hgW := h.los.2.2.2.2.2.2.1
  obtain ⟨Ao, co, cm, hh, -⟩ := id hM
  obtain ⟨cg, fg⟩ := row_facts hh
  have k4 := cg 4
  have k5 := cg 5
  have k6 := cg 6
  have k7 := cg 7
  have k8 := cg 8
  have k9 := cg 9
  have k10 := cg 10
  simp at k4 k5 k6 k7 k8 k9 k10
  have hM' := Hd.mk hM
  have hb0' := Hd.mk (hb0.mono hlo)
  have hW0' := Hd.mk hW0
  obtain ⟨op, wd, d, a, b, c, imm⟩ := x
  simp only at rd ra rb rc hrga hrng ho
  obtain ⟨x0, x1, x2, x3, x4, x5, x6⟩ := hxc
  generalize hV : stepX ⟨op, wd, d, a, b, c, imm⟩ s pc = D
  have hV' := Hd.mk hV
  clear hV hM h hb0 hW0 hh cg
  unfold stepX at hV'
  unfold minsV
  simp only at *
  have y2 : a < (r.toNat : Int) := by omega
  have y3 : 0 ≤ a := ra.1
  have y4 : a < max r 0 := by omega
  generalize hga0 : rg s a = ga at *
  have hga := Hd.mk hga0
  clear hga0
  have hi1 : inR op 1 17 = bin op := rfl
  have hi2 : inR op 18 20 = cst op := rfl
  have hin := fun n lo hi W => s_l1In n lo hi W
  subst ho
  rw [if_pos (Or.inl rfl)] at hV'
  go_enter Try.func38, Try.ntmps38
  go_wp2
  rw [← hW0'.out]
  go_quiet (fail)
  go_wp2_with fail
  have hM1 := Hd.mk ((hM'.out.drew nq).setF (o := 7) (u := .int .i64 (pc + 1)) (pc' := pc + 1) (value' := 0) (code' := 0) (done' := false) (fun _ _ _ _ _ _ _ => rfl))
  have hb1 := Hd.mk ((drewN_below hb0'.out nq).setCell (p := ⟨g, 7, none⟩) hl.1 (.int .i64 (pc + 1)))
  have hbx : Below (W.heap.size + 1) W0 ((W0.drewN nq).setCell ⟨g, 7, none⟩ (.int .i64 (pc + 1))) → True := fun _ => trivial
  have hne : W.heap.size ≠ g := by have := hgW; omega
  have w0 : ((W0.drewN nq).setCell ⟨g, 7, none⟩ (.int .i64 (pc + 1))).cell? ⟨W.heap.size, 0, none⟩ = some (.int .i64 31) := (cell_far _ _ _ _ _ _ hne).trans x0
  have w1 : ((W0.drewN nq).setCell ⟨g, 7, none⟩ (.int .i64 (pc + 1))).cell? ⟨W.heap.size, 1, none⟩ = some (.int .i64 wd) := (cell_far _ _ _ _ _ _ hne).trans x1
  have w2 : ((W0.drewN nq).setCell ⟨g, 7, none⟩ (.int .i64 (pc + 1))).cell? ⟨W.heap.size, 2, none⟩ = some (.int .i64 d) := (cell_far _ _ _ _ _ _ hne).trans x2
  have w3 : ((W0.drewN nq).setCell ⟨g, 7, none⟩ (.int .i64 (pc + 1))).cell? ⟨W.heap.size, 3, none⟩ = some (.int .i64 a) := (cell_far _ _ _ _ _ _ hne).trans x3
  have w4 : ((W0.drewN nq).setCell ⟨g, 7, none⟩ (.int .i64 (pc + 1))).cell? ⟨W.heap.size, 4, none⟩ = some (.int .i64 b) := (cell_far _ _ _ _ _ _ hne).trans x4
  have w5 : ((W0.drewN nq).setCell ⟨g, 7, none⟩ (.int .i64 (pc + 1))).cell? ⟨W.heap.size, 5, none⟩ = some (.int .i64 c) := (cell_far _ _ _ _ _ _ hne).trans x5
  have w6 : ((W0.drewN nq).setCell ⟨g, 7, none⟩ (.int .i64 (pc + 1))).cell? ⟨W.heap.size, 6, none⟩ = some (.int .i64 imm) := (cell_far _ _ _ _ _ _ hne).trans x6
  clear hbx x0 x1 x2 x3 x4 x5 x6 k4 k5 k6 k7 k8 k9 k10 fg hM' hb0' hW0' hrga hne
  generalize (W0.drewN nq).setCell ⟨g, 7, none⟩ (.int .i64 (pc + 1)) = W1 at *
  obtain ⟨Ao, co, cm, hh, -⟩ := id hM1.out
  obtain ⟨cg, fg⟩ := row_facts hh
  have k4 := cg 4
  have k5 := cg 5
  have k6 := cg 6
  have k7 := cg 7
  have k8 := cg 8
  have k9 := cg 9
  have k10 := cg 10
  simp at k4 k5 k6 k7 k8 k9 k10
  have hl1 := hM1.out.los
  clear cg hh
  have hst := Hd.mk (hM1.out.setF (o := 7) (u := .int .i64 imm) (pc' := imm) (value' := 0) (code' := 0) (done' := false) (fun _ _ _ _ _ _ _ => rfl))
  go_wp2_with (first | (go_at_call 36; refine (hin _ _ _ _).mono ?_; rintro e wq ⟨rfl, rfl⟩))
  go_end0
  exact ⟨rfl, by rw [← hV'.out]; exact hst.out, hb1.out.setCell (p := ⟨g, 7, none⟩) hl1.1 _⟩
set_option maxRecDepth 20000 in
set_option maxHeartbeats 4000000 in
theorem s_step32a (lo g gr gm : Nat) (r n : Int) (v1 v2 v3 : Value) (s : MS) (pc : Int) (W : World) (x : XMIns) (h : MX lo g gr gm r v1 v2 v3 s pc 0 0 false W) (hs : MOk r s) (hr : r ≤ 130) (hx : minsOk r n x = true) (hlo : lo ≤ W.heap.size) (hpc : 0 ≤ pc ∧ pc ≤ 600) (ho : x.op = 32 ∧ rg s x.a % 2 = 1) :
    Calls Try.prog 38 #[.pointer (some ⟨g, 0, none⟩), minsV x] W (StepD lo g gr gm r v1 v2 v3 (stepX x s pc) W) := by
  obtain ⟨rd, ra, rb, rc, -, -⟩ := mins_regs hx
  obtain ⟨W0, hW0⟩ : ∃ W0 : World, W0 = W.alloc (.cells #[.int .i64 x.op, .int .i64 x.w, .int .i64 x.d, .int .i64 x.a, .int .i64 x.b, .int .i64 x.c, .int .i64 x.imm] 71) := ⟨_, rfl⟩
  have hb0 : Below W.heap.size W W0 := by rw [hW0]; exact (Below.refl _ _).al (Nat.le_refl _) _
  have hM := h.mv hb0
  have hxc : Xc W0 W.heap.size x := by
    rw [hW0]
    refine ⟨?_, ?_, ?_, ?_, ?_, ?_, ?_⟩ <;> simp
  have hrga := (hM.reg hs x.a ra).1
  have hrng := rg_rng hs x.a
  have hl := hM.los
  have hgW := h.los.2.2.2.2.2.2.1
  obtain ⟨Ao, co, cm, hh, -⟩ := id hM
  obtain ⟨cg, fg⟩ := row_facts hh
  have k4 := cg 4
  have k5 := cg 5
  have k6 := cg 6
  have k7 := cg 7
  have k8 := cg 8
  have k9 := cg 9
  have k10 := cg 10
  simp at k4 k5 k6 k7 k8 k9 k10
  have hM' := Hd.mk hM
  have hb0' := Hd.mk (hb0.mono hlo)
  have hW0' := Hd.mk hW0
  obtain ⟨op, wd, d, a, b, c, imm⟩ := x
  simp only at rd ra rb rc hrga hrng ho
  obtain ⟨x0, x1, x2, x3, x4, x5, x6⟩ := hxc
  generalize hV : stepX ⟨op, wd, d, a, b, c, imm⟩ s pc = D
  have hV' := Hd.mk hV
  clear hV hM h hb0 hW0 hh cg
  unfold stepX at hV'
  unfold minsV
  simp only at *
  have y2 : a < (r.toNat : Int) := by omega
  have y3 : 0 ≤ a := ra.1
  have y4 : a < max r 0 := by omega
  generalize hga0 : rg s a = ga at *
  have hga := Hd.mk hga0
  clear hga0
  have hi1 : inR op 1 17 = bin op := rfl
  have hi2 : inR op 18 20 = cst op := rfl
  have hin := fun n lo hi W => s_l1In n lo hi W
  obtain ⟨rfl, ho⟩ := ho
  rw [if_pos (Or.inr ⟨rfl, ho⟩)] at hV'
  have t2 : (ga % 2 == 1) = true := by simpa using ho
  go_enter Try.func38, Try.ntmps38
  go_wp2
  rw [← hW0'.out]
  go_quiet (fail)
  go_wp2_with fail
  have hM1 := Hd.mk ((hM'.out.drew nq).setF (o := 7) (u := .int .i64 (pc + 1)) (pc' := pc + 1) (value' := 0) (code' := 0) (done' := false) (fun _ _ _ _ _ _ _ => rfl))
  have hb1 := Hd.mk ((drewN_below hb0'.out nq).setCell (p := ⟨g, 7, none⟩) hl.1 (.int .i64 (pc + 1)))
  have hbx : Below (W.heap.size + 1) W0 ((W0.drewN nq).setCell ⟨g, 7, none⟩ (.int .i64 (pc + 1))) → True := fun _ => trivial
  have hne : W.heap.size ≠ g := by have := hgW; omega
  have w0 : ((W0.drewN nq).setCell ⟨g, 7, none⟩ (.int .i64 (pc + 1))).cell? ⟨W.heap.size, 0, none⟩ = some (.int .i64 32) := (cell_far _ _ _ _ _ _ hne).trans x0
  have w1 : ((W0.drewN nq).setCell ⟨g, 7, none⟩ (.int .i64 (pc + 1))).cell? ⟨W.heap.size, 1, none⟩ = some (.int .i64 wd) := (cell_far _ _ _ _ _ _ hne).trans x1
  have w2 : ((W0.drewN nq).setCell ⟨g, 7, none⟩ (.int .i64 (pc + 1))).cell? ⟨W.heap.size, 2, none⟩ = some (.int .i64 d) := (cell_far _ _ _ _ _ _ hne).trans x2
  have w3 : ((W0.drewN nq).setCell ⟨g, 7, none⟩ (.int .i64 (pc + 1))).cell? ⟨W.heap.size, 3, none⟩ = some (.int .i64 a) := (cell_far _ _ _ _ _ _ hne).trans x3
  have w4 : ((W0.drewN nq).setCell ⟨g, 7, none⟩ (.int .i64 (pc + 1))).cell? ⟨W.heap.size, 4, none⟩ = some (.int .i64 b) := (cell_far _ _ _ _ _ _ hne).trans x4
  have w5 : ((W0.drewN nq).setCell ⟨g, 7, none⟩ (.int .i64 (pc + 1))).cell? ⟨W.heap.size, 5, none⟩ = some (.int .i64 c) := (cell_far _ _ _ _ _ _ hne).trans x5
  have w6 : ((W0.drewN nq).setCell ⟨g, 7, none⟩ (.int .i64 (pc + 1))).cell? ⟨W.heap.size, 6, none⟩ = some (.int .i64 imm) := (cell_far _ _ _ _ _ _ hne).trans x6
  clear hbx x0 x1 x2 x3 x4 x5 x6 k4 k5 k6 k7 k8 k9 k10 fg hM' hb0' hW0' hrga hne
  generalize (W0.drewN nq).setCell ⟨g, 7, none⟩ (.int .i64 (pc + 1)) = W1 at *
  obtain ⟨Ao, co, cm, hh, -⟩ := id hM1.out
  obtain ⟨cg, fg⟩ := row_facts hh
  have k4 := cg 4
  have k5 := cg 5
  have k6 := cg 6
  have k7 := cg 7
  have k8 := cg 8
  have k9 := cg 9
  have k10 := cg 10
  simp at k4 k5 k6 k7 k8 k9 k10
  have hl1 := hM1.out.los
  clear cg hh
  have hst := Hd.mk (hM1.out.setF (o := 7) (u := .int .i64 imm) (pc' := imm) (value' := 0) (code' := 0) (done' := false) (fun _ _ _ _ _ _ _ => rfl))
  go_wp2_with (first | (go_at_call 36; refine (hin _ _ _ _).mono ?_; rintro e wq ⟨rfl, rfl⟩))
  go_end0
  exact ⟨rfl, by rw [← hV'.out]; exact hst.out, hb1.out.setCell (p := ⟨g, 7, none⟩) hl1.1 _⟩
set_option maxRecDepth 20000 in
set_option maxHeartbeats 4000000 in
theorem s_step32b (lo g gr gm : Nat) (r n : Int) (v1 v2 v3 : Value) (s : MS) (pc : Int) (W : World) (x : XMIns) (h : MX lo g gr gm r v1 v2 v3 s pc 0 0 false W) (hs : MOk r s) (hr : r ≤ 130) (hx : minsOk r n x = true) (hlo : lo ≤ W.heap.size) (hpc : 0 ≤ pc ∧ pc ≤ 600) (ho : x.op = 32 ∧ ¬ rg s x.a % 2 = 1) :
    Calls Try.prog 38 #[.pointer (some ⟨g, 0, none⟩), minsV x] W (StepD lo g gr gm r v1 v2 v3 (stepX x s pc) W) := by
  obtain ⟨rd, ra, rb, rc, -, -⟩ := mins_regs hx
  obtain ⟨W0, hW0⟩ : ∃ W0 : World, W0 = W.alloc (.cells #[.int .i64 x.op, .int .i64 x.w, .int .i64 x.d, .int .i64 x.a, .int .i64 x.b, .int .i64 x.c, .int .i64 x.imm] 71) := ⟨_, rfl⟩
  have hb0 : Below W.heap.size W W0 := by rw [hW0]; exact (Below.refl _ _).al (Nat.le_refl _) _
  have hM := h.mv hb0
  have hxc : Xc W0 W.heap.size x := by
    rw [hW0]
    refine ⟨?_, ?_, ?_, ?_, ?_, ?_, ?_⟩ <;> simp
  have hrga := (hM.reg hs x.a ra).1
  have hrng := rg_rng hs x.a
  have hl := hM.los
  have hgW := h.los.2.2.2.2.2.2.1
  obtain ⟨Ao, co, cm, hh, -⟩ := id hM
  obtain ⟨cg, fg⟩ := row_facts hh
  have k4 := cg 4
  have k5 := cg 5
  have k6 := cg 6
  have k7 := cg 7
  have k8 := cg 8
  have k9 := cg 9
  have k10 := cg 10
  simp at k4 k5 k6 k7 k8 k9 k10
  have hM' := Hd.mk hM
  have hb0' := Hd.mk (hb0.mono hlo)
  have hW0' := Hd.mk hW0
  obtain ⟨op, wd, d, a, b, c, imm⟩ := x
  simp only at rd ra rb rc hrga hrng ho
  obtain ⟨x0, x1, x2, x3, x4, x5, x6⟩ := hxc
  generalize hV : stepX ⟨op, wd, d, a, b, c, imm⟩ s pc = D
  have hV' := Hd.mk hV
  clear hV hM h hb0 hW0 hh cg
  unfold stepX at hV'
  unfold minsV
  simp only at *
  have y2 : a < (r.toNat : Int) := by omega
  have y3 : 0 ≤ a := ra.1
  have y4 : a < max r 0 := by omega
  generalize hga0 : rg s a = ga at *
  have hga := Hd.mk hga0
  clear hga0
  have hi1 : inR op 1 17 = bin op := rfl
  have hi2 : inR op 18 20 = cst op := rfl
  have hin := fun n lo hi W => s_l1In n lo hi W
  obtain ⟨rfl, ho⟩ := ho
  rw [if_neg (by intro h; rcases h with h | h; exact absurd h (by decide); exact ho h.2), if_pos rfl] at hV'
  have t2 : (ga % 2 == 1) = false := by simpa using ho
  go_enter Try.func38, Try.ntmps38
  go_wp2
  rw [← hW0'.out]
  go_quiet (fail)
  go_wp2_with fail
  have hM1 := Hd.mk ((hM'.out.drew nq).setF (o := 7) (u := .int .i64 (pc + 1)) (pc' := pc + 1) (value' := 0) (code' := 0) (done' := false) (fun _ _ _ _ _ _ _ => rfl))
  have hb1 := Hd.mk ((drewN_below hb0'.out nq).setCell (p := ⟨g, 7, none⟩) hl.1 (.int .i64 (pc + 1)))
  have hbx : Below (W.heap.size + 1) W0 ((W0.drewN nq).setCell ⟨g, 7, none⟩ (.int .i64 (pc + 1))) → True := fun _ => trivial
  have hne : W.heap.size ≠ g := by have := hgW; omega
  have w0 : ((W0.drewN nq).setCell ⟨g, 7, none⟩ (.int .i64 (pc + 1))).cell? ⟨W.heap.size, 0, none⟩ = some (.int .i64 32) := (cell_far _ _ _ _ _ _ hne).trans x0
  have w1 : ((W0.drewN nq).setCell ⟨g, 7, none⟩ (.int .i64 (pc + 1))).cell? ⟨W.heap.size, 1, none⟩ = some (.int .i64 wd) := (cell_far _ _ _ _ _ _ hne).trans x1
  have w2 : ((W0.drewN nq).setCell ⟨g, 7, none⟩ (.int .i64 (pc + 1))).cell? ⟨W.heap.size, 2, none⟩ = some (.int .i64 d) := (cell_far _ _ _ _ _ _ hne).trans x2
  have w3 : ((W0.drewN nq).setCell ⟨g, 7, none⟩ (.int .i64 (pc + 1))).cell? ⟨W.heap.size, 3, none⟩ = some (.int .i64 a) := (cell_far _ _ _ _ _ _ hne).trans x3
  have w4 : ((W0.drewN nq).setCell ⟨g, 7, none⟩ (.int .i64 (pc + 1))).cell? ⟨W.heap.size, 4, none⟩ = some (.int .i64 b) := (cell_far _ _ _ _ _ _ hne).trans x4
  have w5 : ((W0.drewN nq).setCell ⟨g, 7, none⟩ (.int .i64 (pc + 1))).cell? ⟨W.heap.size, 5, none⟩ = some (.int .i64 c) := (cell_far _ _ _ _ _ _ hne).trans x5
  have w6 : ((W0.drewN nq).setCell ⟨g, 7, none⟩ (.int .i64 (pc + 1))).cell? ⟨W.heap.size, 6, none⟩ = some (.int .i64 imm) := (cell_far _ _ _ _ _ _ hne).trans x6
  clear hbx x0 x1 x2 x3 x4 x5 x6 k4 k5 k6 k7 k8 k9 k10 fg hM' hb0' hW0' hrga hne
  generalize (W0.drewN nq).setCell ⟨g, 7, none⟩ (.int .i64 (pc + 1)) = W1 at *
  obtain ⟨Ao, co, cm, hh, -⟩ := id hM1.out
  obtain ⟨cg, fg⟩ := row_facts hh
  have k4 := cg 4
  have k5 := cg 5
  have k6 := cg 6
  have k7 := cg 7
  have k8 := cg 8
  have k9 := cg 9
  have k10 := cg 10
  simp at k4 k5 k6 k7 k8 k9 k10
  have hl1 := hM1.out.los
  clear cg hh
  go_wp2_with (first | (go_at_call 36; refine (hin _ _ _ _).mono ?_; rintro e wq ⟨rfl, rfl⟩))
  go_end0
  exact ⟨rfl, by rw [← hV'.out]; exact hM1.out, hb1.out⟩
set_option maxRecDepth 20000 in
set_option maxHeartbeats 4000000 in
theorem s_step33 (lo g gr gm : Nat) (r n : Int) (v1 v2 v3 : Value) (s : MS) (pc : Int) (W : World) (x : XMIns) (h : MX lo g gr gm r v1 v2 v3 s pc 0 0 false W) (hs : MOk r s) (hr : r ≤ 130) (hx : minsOk r n x = true) (hlo : lo ≤ W.heap.size) (hpc : 0 ≤ pc ∧ pc ≤ 600) (ho : x.op = 33) :
    Calls Try.prog 38 #[.pointer (some ⟨g, 0, none⟩), minsV x] W (StepD lo g gr gm r v1 v2 v3 (stepX x s pc) W) := by
  obtain ⟨rd, ra, rb, rc, -, -⟩ := mins_regs hx
  obtain ⟨W0, hW0⟩ : ∃ W0 : World, W0 = W.alloc (.cells #[.int .i64 x.op, .int .i64 x.w, .int .i64 x.d, .int .i64 x.a, .int .i64 x.b, .int .i64 x.c, .int .i64 x.imm] 71) := ⟨_, rfl⟩
  have hb0 : Below W.heap.size W W0 := by rw [hW0]; exact (Below.refl _ _).al (Nat.le_refl _) _
  have hM := h.mv hb0
  have hxc : Xc W0 W.heap.size x := by
    rw [hW0]
    refine ⟨?_, ?_, ?_, ?_, ?_, ?_, ?_⟩ <;> simp
  have hrga := (hM.reg hs x.a ra).1
  have hrng := rg_rng hs x.a
  have hl := hM.los
  have hgW := h.los.2.2.2.2.2.2.1
  obtain ⟨Ao, co, cm, hh, -⟩ := id hM
  obtain ⟨cg, fg⟩ := row_facts hh
  have k4 := cg 4
  have k5 := cg 5
  have k6 := cg 6
  have k7 := cg 7
  have k8 := cg 8
  have k9 := cg 9
  have k10 := cg 10
  simp at k4 k5 k6 k7 k8 k9 k10
  have hM' := Hd.mk hM
  have hb0' := Hd.mk (hb0.mono hlo)
  have hW0' := Hd.mk hW0
  obtain ⟨op, wd, d, a, b, c, imm⟩ := x
  simp only at rd ra rb rc hrga hrng ho
  obtain ⟨x0, x1, x2, x3, x4, x5, x6⟩ := hxc
  generalize hV : stepX ⟨op, wd, d, a, b, c, imm⟩ s pc = D
  have hV' := Hd.mk hV
  clear hV hM h hb0 hW0 hh cg
  unfold stepX at hV'
  unfold minsV
  simp only at *
  have y2 : a < (r.toNat : Int) := by omega
  have y3 : 0 ≤ a := ra.1
  have y4 : a < max r 0 := by omega
  generalize hga0 : rg s a = ga at *
  have hga := Hd.mk hga0
  clear hga0
  have hi1 : inR op 1 17 = bin op := rfl
  have hi2 : inR op 18 20 = cst op := rfl
  have hin := fun n lo hi W => s_l1In n lo hi W
  subst ho
  rw [if_neg (by intro h; rcases h with h | h; exact absurd h (by decide); exact absurd h.1 (by decide)), if_neg (by decide), if_pos rfl] at hV'
  go_enter Try.func38, Try.ntmps38
  go_wp2
  rw [← hW0'.out]
  go_quiet (fail)
  go_wp2_with fail
  have hM1 := Hd.mk ((hM'.out.drew nq).setF (o := 7) (u := .int .i64 (pc + 1)) (pc' := pc + 1) (value' := 0) (code' := 0) (done' := false) (fun _ _ _ _ _ _ _ => rfl))
  have hb1 := Hd.mk ((drewN_below hb0'.out nq).setCell (p := ⟨g, 7, none⟩) hl.1 (.int .i64 (pc + 1)))
  have hbx : Below (W.heap.size + 1) W0 ((W0.drewN nq).setCell ⟨g, 7, none⟩ (.int .i64 (pc + 1))) → True := fun _ => trivial
  have hne : W.heap.size ≠ g := by have := hgW; omega
  have w0 : ((W0.drewN nq).setCell ⟨g, 7, none⟩ (.int .i64 (pc + 1))).cell? ⟨W.heap.size, 0, none⟩ = some (.int .i64 33) := (cell_far _ _ _ _ _ _ hne).trans x0
  have w1 : ((W0.drewN nq).setCell ⟨g, 7, none⟩ (.int .i64 (pc + 1))).cell? ⟨W.heap.size, 1, none⟩ = some (.int .i64 wd) := (cell_far _ _ _ _ _ _ hne).trans x1
  have w2 : ((W0.drewN nq).setCell ⟨g, 7, none⟩ (.int .i64 (pc + 1))).cell? ⟨W.heap.size, 2, none⟩ = some (.int .i64 d) := (cell_far _ _ _ _ _ _ hne).trans x2
  have w3 : ((W0.drewN nq).setCell ⟨g, 7, none⟩ (.int .i64 (pc + 1))).cell? ⟨W.heap.size, 3, none⟩ = some (.int .i64 a) := (cell_far _ _ _ _ _ _ hne).trans x3
  have w4 : ((W0.drewN nq).setCell ⟨g, 7, none⟩ (.int .i64 (pc + 1))).cell? ⟨W.heap.size, 4, none⟩ = some (.int .i64 b) := (cell_far _ _ _ _ _ _ hne).trans x4
  have w5 : ((W0.drewN nq).setCell ⟨g, 7, none⟩ (.int .i64 (pc + 1))).cell? ⟨W.heap.size, 5, none⟩ = some (.int .i64 c) := (cell_far _ _ _ _ _ _ hne).trans x5
  have w6 : ((W0.drewN nq).setCell ⟨g, 7, none⟩ (.int .i64 (pc + 1))).cell? ⟨W.heap.size, 6, none⟩ = some (.int .i64 imm) := (cell_far _ _ _ _ _ _ hne).trans x6
  clear hbx x0 x1 x2 x3 x4 x5 x6 k4 k5 k6 k7 k8 k9 k10 fg hM' hb0' hW0' hrga hne
  generalize (W0.drewN nq).setCell ⟨g, 7, none⟩ (.int .i64 (pc + 1)) = W1 at *
  obtain ⟨Ao, co, cm, hh, -⟩ := id hM1.out
  obtain ⟨cg, fg⟩ := row_facts hh
  have k4 := cg 4
  have k5 := cg 5
  have k6 := cg 6
  have k7 := cg 7
  have k8 := cg 8
  have k9 := cg 9
  have k10 := cg 10
  simp at k4 k5 k6 k7 k8 k9 k10
  have hl1 := hM1.out.los
  clear cg hh
  have hst := Hd.mk ((hM1.out.setF (o := 8) (u := .int .i64 (mskd wd ga)) (pc' := pc + 1) (value' := mskd wd ga) (code' := 0) (done' := false) (fun _ _ _ _ _ _ _ => rfl)).setF (o := 10) (u := .bool true) (pc' := pc + 1) (value' := mskd wd ga) (code' := 0) (done' := true) (fun _ _ _ _ _ _ _ => rfl))
  go_wp2_with (first | (go_at_call 36; refine (hin _ _ _ _).mono ?_; rintro e wq ⟨rfl, rfl⟩) | (go_at_call 62; refine (s_Masked _ _ _).mono ?_; rintro e wq ⟨rfl, rfl⟩))
  go_end0
  exact ⟨rfl, by rw [← hV'.out]; exact hst.out, (hb1.out.setCell (p := ⟨g, 8, none⟩) hl1.1 _).setCell (p := ⟨g, 10, none⟩) hl1.1 _⟩
set_option maxRecDepth 20000 in
set_option maxHeartbeats 4000000 in
theorem s_step34 (lo g gr gm : Nat) (r n : Int) (v1 v2 v3 : Value) (s : MS) (pc : Int) (W : World) (x : XMIns) (h : MX lo g gr gm r v1 v2 v3 s pc 0 0 false W) (hs : MOk r s) (hr : r ≤ 130) (hx : minsOk r n x = true) (hlo : lo ≤ W.heap.size) (hpc : 0 ≤ pc ∧ pc ≤ 600) (ho : x.op = 34) :
    Calls Try.prog 38 #[.pointer (some ⟨g, 0, none⟩), minsV x] W (StepD lo g gr gm r v1 v2 v3 (stepX x s pc) W) := by
  obtain ⟨rd, ra, rb, rc, -, -⟩ := mins_regs hx
  obtain ⟨W0, hW0⟩ : ∃ W0 : World, W0 = W.alloc (.cells #[.int .i64 x.op, .int .i64 x.w, .int .i64 x.d, .int .i64 x.a, .int .i64 x.b, .int .i64 x.c, .int .i64 x.imm] 71) := ⟨_, rfl⟩
  have hb0 : Below W.heap.size W W0 := by rw [hW0]; exact (Below.refl _ _).al (Nat.le_refl _) _
  have hM := h.mv hb0
  have hxc : Xc W0 W.heap.size x := by
    rw [hW0]
    refine ⟨?_, ?_, ?_, ?_, ?_, ?_, ?_⟩ <;> simp
  have hrga := (hM.reg hs x.a ra).1
  have hrng := rg_rng hs x.a
  have hl := hM.los
  have hgW := h.los.2.2.2.2.2.2.1
  obtain ⟨Ao, co, cm, hh, -⟩ := id hM
  obtain ⟨cg, fg⟩ := row_facts hh
  have k4 := cg 4
  have k5 := cg 5
  have k6 := cg 6
  have k7 := cg 7
  have k8 := cg 8
  have k9 := cg 9
  have k10 := cg 10
  simp at k4 k5 k6 k7 k8 k9 k10
  have hM' := Hd.mk hM
  have hb0' := Hd.mk (hb0.mono hlo)
  have hW0' := Hd.mk hW0
  obtain ⟨op, wd, d, a, b, c, imm⟩ := x
  simp only at rd ra rb rc hrga hrng ho
  obtain ⟨x0, x1, x2, x3, x4, x5, x6⟩ := hxc
  generalize hV : stepX ⟨op, wd, d, a, b, c, imm⟩ s pc = D
  have hV' := Hd.mk hV
  clear hV hM h hb0 hW0 hh cg
  unfold stepX at hV'
  unfold minsV
  simp only at *
  have y2 : a < (r.toNat : Int) := by omega
  have y3 : 0 ≤ a := ra.1
  have y4 : a < max r 0 := by omega
  generalize hga0 : rg s a = ga at *
  have hga := Hd.mk hga0
  clear hga0
  have hi1 : inR op 1 17 = bin op := rfl
  have hi2 : inR op 18 20 = cst op := rfl
  have hin := fun n lo hi W => s_l1In n lo hi W
  subst ho
  rw [if_neg (by intro h; rcases h with h | h; exact absurd h (by decide); exact absurd h.1 (by decide)), if_neg (by decide), if_neg (by decide), if_pos rfl] at hV'
  go_enter Try.func38, Try.ntmps38
  go_wp2
  rw [← hW0'.out]
  go_quiet (fail)
  go_wp2_with fail
  have hM1 := Hd.mk ((hM'.out.drew nq).setF (o := 7) (u := .int .i64 (pc + 1)) (pc' := pc + 1) (value' := 0) (code' := 0) (done' := false) (fun _ _ _ _ _ _ _ => rfl))
  have hb1 := Hd.mk ((drewN_below hb0'.out nq).setCell (p := ⟨g, 7, none⟩) hl.1 (.int .i64 (pc + 1)))
  have hbx : Below (W.heap.size + 1) W0 ((W0.drewN nq).setCell ⟨g, 7, none⟩ (.int .i64 (pc + 1))) → True := fun _ => trivial
  have hne : W.heap.size ≠ g := by have := hgW; omega
  have w0 : ((W0.drewN nq).setCell ⟨g, 7, none⟩ (.int .i64 (pc + 1))).cell? ⟨W.heap.size, 0, none⟩ = some (.int .i64 34) := (cell_far _ _ _ _ _ _ hne).trans x0
  have w1 : ((W0.drewN nq).setCell ⟨g, 7, none⟩ (.int .i64 (pc + 1))).cell? ⟨W.heap.size, 1, none⟩ = some (.int .i64 wd) := (cell_far _ _ _ _ _ _ hne).trans x1
  have w2 : ((W0.drewN nq).setCell ⟨g, 7, none⟩ (.int .i64 (pc + 1))).cell? ⟨W.heap.size, 2, none⟩ = some (.int .i64 d) := (cell_far _ _ _ _ _ _ hne).trans x2
  have w3 : ((W0.drewN nq).setCell ⟨g, 7, none⟩ (.int .i64 (pc + 1))).cell? ⟨W.heap.size, 3, none⟩ = some (.int .i64 a) := (cell_far _ _ _ _ _ _ hne).trans x3
  have w4 : ((W0.drewN nq).setCell ⟨g, 7, none⟩ (.int .i64 (pc + 1))).cell? ⟨W.heap.size, 4, none⟩ = some (.int .i64 b) := (cell_far _ _ _ _ _ _ hne).trans x4
  have w5 : ((W0.drewN nq).setCell ⟨g, 7, none⟩ (.int .i64 (pc + 1))).cell? ⟨W.heap.size, 5, none⟩ = some (.int .i64 c) := (cell_far _ _ _ _ _ _ hne).trans x5
  have w6 : ((W0.drewN nq).setCell ⟨g, 7, none⟩ (.int .i64 (pc + 1))).cell? ⟨W.heap.size, 6, none⟩ = some (.int .i64 imm) := (cell_far _ _ _ _ _ _ hne).trans x6
  clear hbx x0 x1 x2 x3 x4 x5 x6 k4 k5 k6 k7 k8 k9 k10 fg hM' hb0' hW0' hrga hne
  generalize (W0.drewN nq).setCell ⟨g, 7, none⟩ (.int .i64 (pc + 1)) = W1 at *
  obtain ⟨Ao, co, cm, hh, -⟩ := id hM1.out
  obtain ⟨cg, fg⟩ := row_facts hh
  have k4 := cg 4
  have k5 := cg 5
  have k6 := cg 6
  have k7 := cg 7
  have k8 := cg 8
  have k9 := cg 9
  have k10 := cg 10
  simp at k4 k5 k6 k7 k8 k9 k10
  have hl1 := hM1.out.los
  clear cg hh
  have hz1 := hb1.out.size
  go_wp2_with (first | (go_at_call 36; refine (hin _ _ _ _).mono ?_; rintro e wq ⟨rfl, rfl⟩))
  refine (s_fail lo g gr gm r v1 v2 v3 s (pc + 1) 0 0 false 3 W1 hM1.out (by omega)).mono ?_; rintro e wf ⟨rfl, hMf, hbf⟩
  go_wp2
  go_end0
  exact ⟨rfl, by rw [← hV'.out]; exact hMf, hb1.out.trans hbf⟩
set_option maxRecDepth 20000 in
set_option maxHeartbeats 4000000 in
theorem s_stepBin (lo g gr gm : Nat) (r n : Int) (v1 v2 v3 : Value) (s : MS) (pc : Int) (W : World) (x : XMIns) (h : MX lo g gr gm r v1 v2 v3 s pc 0 0 false W) (hs : MOk r s) (hr : r ≤ 130) (hx : minsOk r n x = true) (hlo : lo ≤ W.heap.size) (hpc : 0 ≤ pc ∧ pc ≤ 600) (ho : bin x.op = true) :
    Calls Try.prog 38 #[.pointer (some ⟨g, 0, none⟩), minsV x] W (StepD lo g gr gm r v1 v2 v3 (stepX x s pc) W) := by
  obtain ⟨rd, ra, rb, rc, -, -⟩ := mins_regs hx
  obtain ⟨W0, hW0⟩ : ∃ W0 : World, W0 = W.alloc (.cells #[.int .i64 x.op, .int .i64 x.w, .int .i64 x.d, .int .i64 x.a, .int .i64 x.b, .int .i64 x.c, .int .i64 x.imm] 71) := ⟨_, rfl⟩
  have hb0 : Below W.heap.size W W0 := by rw [hW0]; exact (Below.refl _ _).al (Nat.le_refl _) _
  have hM := h.mv hb0
  have hxc : Xc W0 W.heap.size x := by
    rw [hW0]
    refine ⟨?_, ?_, ?_, ?_, ?_, ?_, ?_⟩ <;> simp
  have hrga := (hM.reg hs x.a ra).1
  have hrng := rg_rng hs x.a
  have hl := hM.los
  have hgW := h.los.2.2.2.2.2.2.1
  obtain ⟨Ao, co, cm, hh, -⟩ := id hM
  obtain ⟨cg, fg⟩ := row_facts hh
  have k4 := cg 4
  have k5 := cg 5
  have k6 := cg 6
  have k7 := cg 7
  have k8 := cg 8
  have k9 := cg 9
  have k10 := cg 10
  simp at k4 k5 k6 k7 k8 k9 k10
  have hM' := Hd.mk hM
  have hb0' := Hd.mk (hb0.mono hlo)
  have hW0' := Hd.mk hW0
  obtain ⟨op, wd, d, a, b, c, imm⟩ := x
  simp only at rd ra rb rc hrga hrng ho
  obtain ⟨x0, x1, x2, x3, x4, x5, x6⟩ := hxc
  generalize hV : stepX ⟨op, wd, d, a, b, c, imm⟩ s pc = D
  have hV' := Hd.mk hV
  clear hV hM h hb0 hW0 hh cg
  unfold stepX at hV'
  unfold minsV
  simp only at *
  have y2 : a < (r.toNat : Int) := by omega
  have y3 : 0 ≤ a := ra.1
  have y4 : a < max r 0 := by omega
  generalize hga0 : rg s a = ga at *
  have hga := Hd.mk hga0
  clear hga0
  have hi1 : inR op 1 17 = bin op := rfl
  have hi2 : inR op 18 20 = cst op := rfl
  have hin := fun n lo hi W => s_l1In n lo hi W
  have hbr := bin_not op ho
  have n21 : op ≠ 21 := by omega
  have n22 : op ≠ 22 := by omega
  have n23 : op ≠ 23 := by omega
  have n24 : op ≠ 24 := by omega
  have n25 : op ≠ 25 := by omega
  have n31 : op ≠ 31 := by omega
  have n32 : op ≠ 32 := by omega
  have n33 : op ≠ 33 := by omega
  have n34 : op ≠ 34 := by omega
  have n35 : op ≠ 35 := by omega
  have t21 := beqF n21
  have t22 := beqF n22
  have t23 := beqF n23
  have t24 := beqF n24
  have t25 := beqF n25
  have t31 := beqF n31
  have t32 := beqF n32
  have t33 := beqF n33
  have t34 := beqF n34
  have t35 := beqF n35
  rw [if_neg (by intro h; rcases h with h | h; exact n31 h; exact n32 h.1), if_neg n32, if_neg n33, if_neg n34] at hV'
  have hib : inR op 1 17 = true := ho

  go_enter Try.func38, Try.ntmps38
  go_wp2
  rw [← hW0'.out]
  go_quiet (fail)
  go_wp2_with fail
  have hM1 := Hd.mk ((hM'.out.drew nq).setF (o := 7) (u := .int .i64 (pc + 1)) (pc' := pc + 1) (value' := 0) (code' := 0) (done' := false) (fun _ _ _ _ _ _ _ => rfl))
  have hb1 := Hd.mk ((drewN_below hb0'.out nq).setCell (p := ⟨g, 7, none⟩) hl.1 (.int .i64 (pc + 1)))
  have hbx : Below (W.heap.size + 1) W0 ((W0.drewN nq).setCell ⟨g, 7, none⟩ (.int .i64 (pc + 1))) → True := fun _ => trivial
  have hne : W.heap.size ≠ g := by have := hgW; omega
  have w0 : ((W0.drewN nq).setCell ⟨g, 7, none⟩ (.int .i64 (pc + 1))).cell? ⟨W.heap.size, 0, none⟩ = some (.int .i64 op) := (cell_far _ _ _ _ _ _ hne).trans x0
  have w1 : ((W0.drewN nq).setCell ⟨g, 7, none⟩ (.int .i64 (pc + 1))).cell? ⟨W.heap.size, 1, none⟩ = some (.int .i64 wd) := (cell_far _ _ _ _ _ _ hne).trans x1
  have w2 : ((W0.drewN nq).setCell ⟨g, 7, none⟩ (.int .i64 (pc + 1))).cell? ⟨W.heap.size, 2, none⟩ = some (.int .i64 d) := (cell_far _ _ _ _ _ _ hne).trans x2
  have w3 : ((W0.drewN nq).setCell ⟨g, 7, none⟩ (.int .i64 (pc + 1))).cell? ⟨W.heap.size, 3, none⟩ = some (.int .i64 a) := (cell_far _ _ _ _ _ _ hne).trans x3
  have w4 : ((W0.drewN nq).setCell ⟨g, 7, none⟩ (.int .i64 (pc + 1))).cell? ⟨W.heap.size, 4, none⟩ = some (.int .i64 b) := (cell_far _ _ _ _ _ _ hne).trans x4
  have w5 : ((W0.drewN nq).setCell ⟨g, 7, none⟩ (.int .i64 (pc + 1))).cell? ⟨W.heap.size, 5, none⟩ = some (.int .i64 c) := (cell_far _ _ _ _ _ _ hne).trans x5
  have w6 : ((W0.drewN nq).setCell ⟨g, 7, none⟩ (.int .i64 (pc + 1))).cell? ⟨W.heap.size, 6, none⟩ = some (.int .i64 imm) := (cell_far _ _ _ _ _ _ hne).trans x6
  clear hbx x0 x1 x2 x3 x4 x5 x6 k4 k5 k6 k7 k8 k9 k10 fg hM' hb0' hW0' hrga hne
  generalize (W0.drewN nq).setCell ⟨g, 7, none⟩ (.int .i64 (pc + 1)) = W1 at *
  obtain ⟨Ao, co, cm, hh, -⟩ := id hM1.out
  obtain ⟨cg, fg⟩ := row_facts hh
  have k4 := cg 4
  have k5 := cg 5
  have k6 := cg 6
  have k7 := cg 7
  have k8 := cg 8
  have k9 := cg 9
  have k10 := cg 10
  simp at k4 k5 k6 k7 k8 k9 k10
  have hl1 := hM1.out.los
  clear cg hh
  have hrgb := (hM1.out.reg hs b rb).1
  have zb1 : b < (r.toNat : Int) := by omega
  have zb2 : 0 ≤ b := rb.1
  have zb3 : b < max r 0 := by omega
  have hdo : doM ⟨op, wd, d, a, b, c, imm⟩ s = if (binV op wd (mskd wd ga) (mskd wd (rg s b))).2 = 0 then (⟨s.regs.set d.toNat (binV op wd (mskd wd ga) (mskd wd (rg s b))).1, s.mem, s.out⟩, 0) else (s, 1) := by
    unfold doM valM
    simp only
    rw [if_neg n24, if_neg n25, ho, if_pos rfl, hga.out]
    by_cases h0 : (binV op wd (mskd wd ga) (mskd wd (rg s b))).2 = 0
    · rw [if_pos h0, if_pos h0, if_pos rfl]
    · rw [if_neg h0, if_neg h0, if_neg (by decide)]
  rw [hdo] at hV'
  have hbn := fun W => s_Binary op wd (mskd wd ga) (mskd wd (rg s b)) W
  generalize hR : binV op wd (mskd wd ga) (mskd wd (rg s b)) = R at *
  have hR' := Hd.mk hR
  clear hR hdo
  by_cases h0 : R.2 = 0
  · rw [if_pos h0, if_pos rfl] at hV'
    have d0 : (R.2 != 0) = false := by simpa using h0
    go_wp2_with (first | (go_at_call 36; refine (hin _ _ _ _).mono ?_; rintro e wq ⟨rfl, rfl⟩))
    go_quiet (first | (go_at_call 62; exact quietS' (s_Masked _ _ _)) | (go_at_call 61; exact quietS' (hbn _)) | (go_at_call 63; exact quietS' (hct _)))
    have u0 := show (W1.drewN nq).cell? ⟨W.heap.size, 0, none⟩ = _ from w0
    have u1 := show (W1.drewN nq).cell? ⟨W.heap.size, 1, none⟩ = _ from w1
    have u2 := show (W1.drewN nq).cell? ⟨W.heap.size, 2, none⟩ = _ from w2
    have u3 := show (W1.drewN nq).cell? ⟨W.heap.size, 3, none⟩ = _ from w3
    have u4 := show (W1.drewN nq).cell? ⟨W.heap.size, 4, none⟩ = _ from w4
    have u5 := show (W1.drewN nq).cell? ⟨W.heap.size, 5, none⟩ = _ from w5
    have u6 := show (W1.drewN nq).cell? ⟨W.heap.size, 6, none⟩ = _ from w6
    have hM2 := Hd.mk (hM1.out.drew nq)
    have hb2 := Hd.mk (drewN_below hb1.out nq)
    clear w0 w1 w2 w3 w4 w5 w6 k4 k5 k6 k7 k8 k9 k10 fg hM1 hb1 hl1
    generalize W1.drewN nq = W2 at *
    have w0 := u0
    have w1 := u1
    have w2 := u2
    have w3 := u3
    have w4 := u4
    have w5 := u5
    have w6 := u6
    clear u0 u1 u2 u3 u4 u5 u6
    obtain ⟨Ao2, co2, cm2, hh, -⟩ := id hM2.out
    obtain ⟨cg, fg⟩ := row_facts hh
    have k4 := cg 4
    have k5 := cg 5
    have k6 := cg 6
    have k7 := cg 7
    have k8 := cg 8
    have k9 := cg 9
    have k10 := cg 10
    simp at k4 k5 k6 k7 k8 k9 k10
    have hl2 := hM2.out.los
    have hz2 := hb2.out.size
    clear cg hh
    obtain ⟨rg0, rg1⟩ := hM2.out.reg hs d rd
    have hst := Hd.mk (hM2.out.setReg d.toNat (R.1))
    have zd1 : d < (r.toNat : Int) := by omega
    have zd2 : 0 ≤ d := rd.1
    have zd3 : d < max r 0 := by omega
    go_wp2
    go_still_tail 8, (by kernel_rfl)
    change wpList _ _ _ _ _ W2.drew
    go_wp2
    go_end0
    exact ⟨rfl, by rw [← hV'.out]; exact hst.out, by first | exact (hb2.out.setCell (p := ⟨gr, d.toNat, none⟩) hl2.2.2.1 _).drew | exact (Below.drew hb2.out).setCell (p := ⟨gr, d.toNat, none⟩) hl2.2.2.1 _⟩
  · rw [if_neg h0, if_neg (by simp)] at hV'
    have d0 := bneT h0
    go_wp2_with (first | (go_at_call 36; refine (hin _ _ _ _).mono ?_; rintro e wq ⟨rfl, rfl⟩))
    go_quiet (first | (go_at_call 62; exact quietS' (s_Masked _ _ _)) | (go_at_call 61; exact quietS' (hbn _)) | (go_at_call 63; exact quietS' (hct _)))
    go_wp2_with fail
    refine (s_fail lo g gr gm r v1 v2 v3 s (pc + 1) 0 0 false 1 _ (hM1.out.drew nq) (by show lo ≤ W1.heap.size; have := hb1.out.size; omega)).mono ?_; rintro e wf ⟨rfl, hMf, hbf⟩
    go_wp2
    go_end0
    exact ⟨rfl, by rw [← hV'.out]; exact hMf, (drewN_below hb1.out _).trans hbf⟩
end Go.Proofs.Ytdnbiohohbnhgaa
set_option linter.unusedSimpArgs false
set_option linter.unusedVariables false
namespace Go.Proofs.Ytdnbiohohbnhgaa
open Go.RowKit
set_option maxRecDepth 20000 in
set_option maxHeartbeats 4000000 in
theorem s_stepCast (lo g gr gm : Nat) (r n : Int) (v1 v2 v3 : Value) (s : MS) (pc : Int) (W : World) (x : XMIns) (h : MX lo g gr gm r v1 v2 v3 s pc 0 0 false W) (hs : MOk r s) (hr : r ≤ 130) (hx : minsOk r n x = true) (hlo : lo ≤ W.heap.size) (hpc : 0 ≤ pc ∧ pc ≤ 600) (ho : cst x.op = true) :
    Calls Try.prog 38 #[.pointer (some ⟨g, 0, none⟩), minsV x] W (StepD lo g gr gm r v1 v2 v3 (stepX x s pc) W) := by
  obtain ⟨rd, ra, rb, rc, -, -⟩ := mins_regs hx
  obtain ⟨W0, hW0⟩ : ∃ W0 : World, W0 = W.alloc (.cells #[.int .i64 x.op, .int .i64 x.w, .int .i64 x.d, .int .i64 x.a, .int .i64 x.b, .int .i64 x.c, .int .i64 x.imm] 71) := ⟨_, rfl⟩
  have hb0 : Below W.heap.size W W0 := by rw [hW0]; exact (Below.refl _ _).al (Nat.le_refl _) _
  have hM := h.mv hb0
  have hxc : Xc W0 W.heap.size x := by
    rw [hW0]
    refine ⟨?_, ?_, ?_, ?_, ?_, ?_, ?_⟩ <;> simp
  have hrga := (hM.reg hs x.a ra).1
  have hrng := rg_rng hs x.a
  have hl := hM.los
  have hgW := h.los.2.2.2.2.2.2.1
  obtain ⟨Ao, co, cm, hh, -⟩ := id hM
  obtain ⟨cg, fg⟩ := row_facts hh
  have k4 := cg 4
  have k5 := cg 5
  have k6 := cg 6
  have k7 := cg 7
  have k8 := cg 8
  have k9 := cg 9
  have k10 := cg 10
  simp at k4 k5 k6 k7 k8 k9 k10
  have hM' := Hd.mk hM
  have hb0' := Hd.mk (hb0.mono hlo)
  have hW0' := Hd.mk hW0
  obtain ⟨op, wd, d, a, b, c, imm⟩ := x
  simp only at rd ra rb rc hrga hrng ho
  obtain ⟨x0, x1, x2, x3, x4, x5, x6⟩ := hxc
  generalize hV : stepX ⟨op, wd, d, a, b, c, imm⟩ s pc = D
  have hV' := Hd.mk hV
  clear hV hM h hb0 hW0 hh cg
  unfold stepX at hV'
  unfold minsV
  simp only at *
  have y2 : a < (r.toNat : Int) := by omega
  have y3 : 0 ≤ a := ra.1
  have y4 : a < max r 0 := by omega
  generalize hga0 : rg s a = ga at *
  have hga := Hd.mk hga0
  clear hga0
  have hi1 : inR op 1 17 = bin op := rfl
  have hi2 : inR op 18 20 = cst op := rfl
  have hin := fun n lo hi W => s_l1In n lo hi W
  have hbr := cst_not op ho
  have n21 : op ≠ 21 := by omega
  have n22 : op ≠ 22 := by omega
  have n23 : op ≠ 23 := by omega
  have n24 : op ≠ 24 := by omega
  have n25 : op ≠ 25 := by omega
  have n31 : op ≠ 31 := by omega
  have n32 : op ≠ 32 := by omega
  have n33 : op ≠ 33 := by omega
  have n34 : op ≠ 34 := by omega
  have n35 : op ≠ 35 := by omega
  have t21 := beqF n21
  have t22 := beqF n22
  have t23 := beqF n23
  have t24 := beqF n24
  have t25 := beqF n25
  have t31 := beqF n31
  have t32 := beqF n32
  have t33 := beqF n33
  have t34 := beqF n34
  have t35 := beqF n35
  rw [if_neg (by intro h; rcases h with h | h; exact n31 h; exact n32 h.1), if_neg n32, if_neg n33, if_neg n34] at hV'
  have hib : inR op 18 20 = true := ho
  have hnb : bin op = false := by unfold bin inR; simp; omega
  have hib2 : inR op 1 17 = false := hnb

  go_enter Try.func38, Try.ntmps38
  go_wp2
  rw [← hW0'.out]
  go_quiet (fail)
  go_wp2_with fail
  have hM1 := Hd.mk ((hM'.out.drew nq).setF (o := 7) (u := .int .i64 (pc + 1)) (pc' := pc + 1) (value' := 0) (code' := 0) (done' := false) (fun _ _ _ _ _ _ _ => rfl))
  have hb1 := Hd.mk ((drewN_below hb0'.out nq).setCell (p := ⟨g, 7, none⟩) hl.1 (.int .i64 (pc + 1)))
  have hbx : Below (W.heap.size + 1) W0 ((W0.drewN nq).setCell ⟨g, 7, none⟩ (.int .i64 (pc + 1))) → True := fun _ => trivial
  have hne : W.heap.size ≠ g := by have := hgW; omega
  have w0 : ((W0.drewN nq).setCell ⟨g, 7, none⟩ (.int .i64 (pc + 1))).cell? ⟨W.heap.size, 0, none⟩ = some (.int .i64 op) := (cell_far _ _ _ _ _ _ hne).trans x0
  have w1 : ((W0.drewN nq).setCell ⟨g, 7, none⟩ (.int .i64 (pc + 1))).cell? ⟨W.heap.size, 1, none⟩ = some (.int .i64 wd) := (cell_far _ _ _ _ _ _ hne).trans x1
  have w2 : ((W0.drewN nq).setCell ⟨g, 7, none⟩ (.int .i64 (pc + 1))).cell? ⟨W.heap.size, 2, none⟩ = some (.int .i64 d) := (cell_far _ _ _ _ _ _ hne).trans x2
  have w3 : ((W0.drewN nq).setCell ⟨g, 7, none⟩ (.int .i64 (pc + 1))).cell? ⟨W.heap.size, 3, none⟩ = some (.int .i64 a) := (cell_far _ _ _ _ _ _ hne).trans x3
  have w4 : ((W0.drewN nq).setCell ⟨g, 7, none⟩ (.int .i64 (pc + 1))).cell? ⟨W.heap.size, 4, none⟩ = some (.int .i64 b) := (cell_far _ _ _ _ _ _ hne).trans x4
  have w5 : ((W0.drewN nq).setCell ⟨g, 7, none⟩ (.int .i64 (pc + 1))).cell? ⟨W.heap.size, 5, none⟩ = some (.int .i64 c) := (cell_far _ _ _ _ _ _ hne).trans x5
  have w6 : ((W0.drewN nq).setCell ⟨g, 7, none⟩ (.int .i64 (pc + 1))).cell? ⟨W.heap.size, 6, none⟩ = some (.int .i64 imm) := (cell_far _ _ _ _ _ _ hne).trans x6
  clear hbx x0 x1 x2 x3 x4 x5 x6 k4 k5 k6 k7 k8 k9 k10 fg hM' hb0' hW0' hrga hne
  generalize (W0.drewN nq).setCell ⟨g, 7, none⟩ (.int .i64 (pc + 1)) = W1 at *
  obtain ⟨Ao, co, cm, hh, -⟩ := id hM1.out
  obtain ⟨cg, fg⟩ := row_facts hh
  have k4 := cg 4
  have k5 := cg 5
  have k6 := cg 6
  have k7 := cg 7
  have k8 := cg 8
  have k9 := cg 9
  have k10 := cg 10
  simp at k4 k5 k6 k7 k8 k9 k10
  have hl1 := hM1.out.los
  clear cg hh
  have hdo : doM ⟨op, wd, d, a, b, c, imm⟩ s = (⟨s.regs.set d.toNat (castV op c wd (mskd c ga)).1, s.mem, s.out⟩, 0) := by
    unfold doM valM
    simp only
    rw [if_neg n24, if_neg n25]
    simp only [hnb, ho, Bool.false_eq_true, if_false, if_true, hga.out]
  rw [hdo, if_pos rfl] at hV'
  have hct := fun W => s_Casted op c wd (mskd c ga) W
  have hbn : True := trivial
  generalize hR : castV op c wd (mskd c ga) = R at *
  have hR' := Hd.mk hR
  clear hR hdo
  go_wp2_with (first | (go_at_call 36; refine (hin _ _ _ _).mono ?_; rintro e wq ⟨rfl, rfl⟩))
  go_quiet (first | (go_at_call 62; exact quietS' (s_Masked _ _ _)) | (go_at_call 63; exact quietS' (hct _)))
  have u0 := show (W1.drewN nq).cell? ⟨W.heap.size, 0, none⟩ = _ from w0
  have u1 := show (W1.drewN nq).cell? ⟨W.heap.size, 1, none⟩ = _ from w1
  have u2 := show (W1.drewN nq).cell? ⟨W.heap.size, 2, none⟩ = _ from w2
  have u3 := show (W1.drewN nq).cell? ⟨W.heap.size, 3, none⟩ = _ from w3
  have u4 := show (W1.drewN nq).cell? ⟨W.heap.size, 4, none⟩ = _ from w4
  have u5 := show (W1.drewN nq).cell? ⟨W.heap.size, 5, none⟩ = _ from w5
  have u6 := show (W1.drewN nq).cell? ⟨W.heap.size, 6, none⟩ = _ from w6
  have hM2 := Hd.mk (hM1.out.drew nq)
  have hb2 := Hd.mk (drewN_below hb1.out nq)
  clear w0 w1 w2 w3 w4 w5 w6 k4 k5 k6 k7 k8 k9 k10 fg hM1 hb1 hl1
  generalize W1.drewN nq = W2 at *
  have w0 := u0
  have w1 := u1
  have w2 := u2
  have w3 := u3
  have w4 := u4
  have w5 := u5
  have w6 := u6
  clear u0 u1 u2 u3 u4 u5 u6
  obtain ⟨Ao2, co2, cm2, hh, -⟩ := id hM2.out
  obtain ⟨cg, fg⟩ := row_facts hh
  have k4 := cg 4
  have k5 := cg 5
  have k6 := cg 6
  have k7 := cg 7
  have k8 := cg 8
  have k9 := cg 9
  have k10 := cg 10
  simp at k4 k5 k6 k7 k8 k9 k10
  have hl2 := hM2.out.los
  have hz2 := hb2.out.size
  clear cg hh
  obtain ⟨rg0, rg1⟩ := hM2.out.reg hs d rd
  have hst := Hd.mk (hM2.out.setReg d.toNat (R.1))
  have zd1 : d < (r.toNat : Int) := by omega
  have zd2 : 0 ≤ d := rd.1
  have zd3 : d < max r 0 := by omega
  go_wp2
  go_still_tail 8, (by kernel_rfl)
  change wpList _ _ _ _ _ W2.drew
  go_wp2
  go_end0
  exact ⟨rfl, by rw [← hV'.out]; exact hst.out, by first | exact (hb2.out.setCell (p := ⟨gr, d.toNat, none⟩) hl2.2.2.1 _).drew | exact (Below.drew hb2.out).setCell (p := ⟨gr, d.toNat, none⟩) hl2.2.2.1 _⟩
end Go.Proofs.Ytdnbiohohbnhgaa
