import Derived.Test.YtkcgejbnhpccdaaGreatJ35
import Derived.Test.YtkcgejbnhpccdaaGreatJ43
import Derived.Test.YtkcgejbnhpccdaaGreatJ04
import Derived.Deep.RegionHeld3
set_option linter.unusedSimpArgs false
set_option linter.unusedVariables false
namespace Go.Proofs.YtkcgejbnhpccdaaGreat
open Go.RowKit
/-! ### what the two small modules of FnMemory and FnCalls do -/
def memF : XFunc := ⟨[32, 8], 8, [⟨[], [⟨24, 0, 0, 1, 0, 0, []⟩, ⟨23, 8, 0, 0, 0, 0, []⟩], ⟨1, 3, 0, 0⟩⟩]⟩
def memM : XMod := ⟨[memF]⟩
theorem memM_ok : modOk memM = true := by decide +kernel
theorem mem_run (a b : Int) (s : RS) (ha : 0 ≤ a) (hb : 0 ≤ b ∧ b < 256) (hs : s.steps = 0) (hl : s.mem.length = 32) : callR memM 2000 6 0 [a, b] s = if a < 32 then ((b, 0), ⟨s.mem.set a.toNat b, s.out, 3⟩) else ((0, 2), ⟨s.mem, s.out, 1⟩) := by
  obtain ⟨m, o, st⟩ := s
  simp only at *
  subst hs
  show blocksR (callR memM 2000 5) memF 2000 (2000 + 1) 0 (vals0 memF [a, b]) ⟨m, o, 0⟩ = _
  have hv : vals0 memF [a, b] = [a, b, 0, 0] := rfl
  rw [hv, blocksR]
  have h1 : (blkAt memF 0).insts = [⟨24, 0, 0, 1, 0, 0, []⟩, ⟨23, 8, 0, 0, 0, 0, []⟩] := rfl
  have h2 : (firstOf memF 0 + ((blkAt memF 0).phis.length : Int)).toNat = 2 := rfl
  have h3 : (blkAt memF 0).term = ⟨1, 3, 0, 0⟩ := rfl
  have e24 : bin 24 = false := rfl
  have e24' : cst 24 = false := rfl
  have e23 : bin 23 = false := rfl
  have e23' : cst 23 = false := rfl
  have hbm : b % 256 = b := Int.emod_eq_of_lt hb.1 hb.2
  simp only [h1, h2, h3]
  by_cases h : a < 32
  · have h' : ¬ (32 : Int) ≤ a := by omega
    have hat : a.toNat < m.length := by omega
    simp [instsR, doI, e24, e24', e23, e23', vl, h, h', hbm, hat]
  · have h' : (32 : Int) ≤ a := by omega
    simp [instsR, doI, e24, e24', vl, h, h']
def calF : XFunc := ⟨[8, 8], 8, [⟨[], [⟨3, 8, 0, 1, 0, 0, []⟩], ⟨1, 2, 0, 0⟩⟩]⟩
def calG : XFunc := ⟨[8, 8], 8, [⟨[], [⟨26, 8, 0, 0, 0, 0, [1, 0]⟩], ⟨1, 2, 0, 0⟩⟩]⟩
def calH : XFunc := ⟨[], 8, [⟨[], [⟨26, 8, 0, 0, 0, 2, []⟩], ⟨1, 0, 0, 0⟩⟩]⟩
def calM : XMod := ⟨[calF, calG, calH]⟩
theorem calM_ok : modOk calM = true := by decide +kernel
theorem two_mul (w a b : Int) : two 3 w a b = two 3 w b a := by
  simp [two, Int.mul_comm]
theorem cal_v (a b : Int) (ha : 0 ≤ a ∧ a < 256) (hb : 0 ≤ b ∧ b < 256) : binV 3 8 a b = binV 3 8 b a ∧ (binV 3 8 a b).2 = 0 := by
  have h1 : isVal 8 a = true := by unfold isVal inR; rw [show widthOk 8 = true from rfl]; simp; omega
  have h2 : isVal 8 b = true := by unfold isVal inR; rw [show widthOk 8 = true from rfl]; simp; omega
  unfold binV
  simp [h1, h2, show bin 3 = true from rfl, show inR 3 4 7 = false from rfl, two_mul 8 a b]
theorem cal_f (d : Nat) (a b : Int) (s : RS) (n : Nat) (hn : s.steps + n + 2 = 2000) (ha : 0 ≤ a ∧ a < 256) (hb : 0 ≤ b ∧ b < 256) : callR calM 2000 (d + 1) 0 [a, b] s = (((binV 3 8 a b).1, 0), ⟨s.mem, s.out, s.steps + 2⟩) := by
  obtain ⟨m, o, st⟩ := s
  simp only at *
  show blocksR (callR calM 2000 d) calF 2000 (2000 + 1 - st) 0 (vals0 calF [a, b]) ⟨m, o, st⟩ = _
  have hv : vals0 calF [a, b] = [a, b, 0] := rfl
  have h0 : 2000 + 1 - st = (n + 2) + 1 := by omega
  rw [hv, h0, blocksR]
  have h1 : (blkAt calF 0).insts = [⟨3, 8, 0, 1, 0, 0, []⟩] := rfl
  have h2 : (firstOf calF 0 + ((blkAt calF 0).phis.length : Int)).toNat = 2 := rfl
  have h3 : (blkAt calF 0).term = ⟨1, 2, 0, 0⟩ := rfl
  have e : bin 3 = true := rfl
  have hz := (cal_v a b ha hb).2
  simp only [h1, h2, h3]
  have hs : ¬ st = 2000 := by omega
  have hs2 : ¬ st + 1 = 2000 := by omega
  simp [instsR, doI, e, vl, hz, hs, hs2]
theorem cal_g (a b : Int) (s : RS) (hs : s.steps = 0) (ha : 0 ≤ a ∧ a < 256) (hb : 0 ≤ b ∧ b < 256) : callR calM 2000 6 1 [a, b] s = (((binV 3 8 a b).1, 0), ⟨s.mem, s.out, s.steps + 4⟩) := by
  have hf := cal_f 4 b a ⟨s.mem, s.out, s.steps + 1⟩ 1997 (by simp only; omega) hb ha
  rw [(cal_v b a hb ha).1] at hf
  obtain ⟨m, o, st⟩ := s
  simp only at *
  subst hs
  show blocksR (callR calM 2000 5) calG 2000 (2000 + 1) 0 (vals0 calG [a, b]) ⟨m, o, 0⟩ = _
  have hv : vals0 calG [a, b] = [a, b, 0] := rfl
  rw [hv, blocksR]
  have h1 : (blkAt calG 0).insts = [⟨26, 8, 0, 0, 0, 0, [1, 0]⟩] := rfl
  have h2 : (firstOf calG 0 + ((blkAt calG 0).phis.length : Int)).toNat = 2 := rfl
  have h3 : (blkAt calG 0).term = ⟨1, 2, 0, 0⟩ := rfl
  have e : bin 26 = false := rfl
  have e' : cst 26 = false := rfl
  have hm : [1, 0].map (vl [a, b, 0]) = [b, a] := rfl
  simp only [h1, h2, h3]
  simp [instsR, doI, e, e', hm, hf, vl]
theorem cal_h (s : RS) (hs : s.steps = 0) (hl : s.mem.length = 32) (ho : s.out = []) : (callR calM 2000 6 2 [] s).1 = (0, 5) ∧ (callR calM 2000 6 2 [] s).2.steps = 6 := by
  obtain ⟨m, o, st⟩ := s
  simp only at *
  subst hs ho
  constructor <;> rfl
def zerB : ByteArray := toBytes (List.replicate 32 0)
theorem rs0_zer : rs0 zerB = ⟨List.replicate 32 0, [], 0⟩ := congrArg (fun m => RS.mk m [] 0) (by decide +kernel : zerB.data.toList.map (fun b => (b.toNat : Int)) = List.replicate 32 0)
theorem zer_back : toBytes (List.replicate 32 0) = zerB := rfl
theorem args_mem {a b : Int} (ha : 0 ≤ a ∧ a < 64) (hb : 0 ≤ b ∧ b < 256) : argsOk [32, 8] [a, b] = true := by
  have h1 : isVal 32 a = true := by unfold isVal inR; rw [show widthOk 32 = true from rfl]; simp; omega
  have h2 : isVal 8 b = true := by unfold isVal inR; rw [show widthOk 8 = true from rfl]; simp; omega
  simp [argsOk, h1, h2]
theorem args_cal {a b : Int} (ha : 0 ≤ a ∧ a < 256) (hb : 0 ≤ b ∧ b < 256) : argsOk [8, 8] [a, b] = true := by
  have h1 : isVal 8 a = true := by unfold isVal inR; rw [show widthOk 8 = true from rfl]; simp; omega
  have h2 : isVal 8 b = true := by unfold isVal inR; rw [show widthOk 8 = true from rfl]; simp; omega
  simp [argsOk, h1, h2]
theorem mem_res {a b : Int} (ha : 0 ≤ a ∧ a < 64) (hb : 0 ≤ b ∧ b < 256) : resR memM 0 [a, b] zerB 2000 = if a < 32 then ⟨0, b, [], toBytes ((List.replicate 32 0).set a.toNat b), 3⟩ else ⟨2, 0, [], zerB, 1⟩ := by
  have hi : invOk memM 0 [a, b] zerB 2000 = true := by
    unfold invOk
    rw [show (memM.funcs.getD (0 : Int).toNat func0).params = [32, 8] from rfl, args_mem ha hb]
    rfl
  unfold resR resI
  rw [if_pos memM_ok, if_pos hi, rs0_zer, show (2000 : Int).toNat = 2000 from rfl, mem_run a b _ ha.1 hb rfl rfl]
  split <;> rfl
theorem cal_res0 {a b : Int} (ha : 0 ≤ a ∧ a < 256) (hb : 0 ≤ b ∧ b < 256) : resR calM 0 [a, b] zerB 2000 = ⟨0, (binV 3 8 a b).1, [], zerB, 2⟩ := by
  have hi : invOk calM 0 [a, b] zerB 2000 = true := by
    unfold invOk
    rw [show (calM.funcs.getD (0 : Int).toNat func0).params = [8, 8] from rfl, args_cal ha hb]
    rfl
  unfold resR resI
  rw [if_pos calM_ok, if_pos hi, rs0_zer, show (2000 : Int).toNat = 2000 from rfl, cal_f 5 a b _ 1998 rfl ha hb]
  rfl
theorem cal_res1 {a b : Int} (ha : 0 ≤ a ∧ a < 256) (hb : 0 ≤ b ∧ b < 256) : resR calM 1 [a, b] zerB 2000 = ⟨0, (binV 3 8 a b).1, [], zerB, 4⟩ := by
  have hi : invOk calM 1 [a, b] zerB 2000 = true := by
    unfold invOk
    rw [show (calM.funcs.getD (1 : Int).toNat func0).params = [8, 8] from rfl, args_cal ha hb]
    rfl
  unfold resR resI
  rw [if_pos calM_ok, if_pos hi, rs0_zer, show (2000 : Int).toNat = 2000 from rfl, cal_g a b _ rfl ha hb]
  rfl
theorem cal_res2 : ∃ m o, resR calM 2 [] zerB 2000 = ⟨5, 0, o, m, 6⟩ := by
  have hi : invOk calM 2 [] zerB 2000 = true := by decide +kernel
  obtain ⟨h1, h2⟩ := cal_h (rs0 zerB) (by rw [rs0_zer]) (by rw [rs0_zer]; rfl) (by rw [rs0_zer])
  unfold resR resI
  rw [if_pos calM_ok, if_pos hi, show (2000 : Int).toNat = 2000 from rfl]
  unfold runRes
  rw [h1, h2]
  exact ⟨_, _, rfl⟩
end Go.Proofs.YtkcgejbnhpccdaaGreat
set_option linter.unusedSimpArgs false
set_option linter.unusedVariables false
namespace Go.Proofs.YtkcgejbnhpccdaaGreat
open Go.RowKit
set_option maxHeartbeats 1000000 in
theorem l_sameInts (v u : Value) (xs ys : List Int) (w : World) (hv : RI lm w v xs) (hu : RI lm w u ys) : Calls Tryz.prog 19 #[v, u] w (Ret (.bool (decide (xs = ys))) w) := by
  obtain ⟨A1, c1, rfl, -, hl1, hv0⟩ := hv.sm
  obtain ⟨A2, c2, rfl, -, hl2, hu0⟩ := hu.sm
  clear hv hu
  by_cases hlen : xs.length = ys.length
  rotate_left
  · rw [decide_eq_false (len_ne hlen)]
    have d : ((xs.length : Int) != (ys.length : Int)) = true := by simp; omega
    go_enter Tryz.func19, Tryz.ntmps19
    go_wp2
    go_ret
    exact ⟨rfl, Below.refl _ _⟩
  obtain ⟨n, hn⟩ : ∃ n, n = xs.length := ⟨_, rfl⟩
  have hn2 : n = ys.length := hn.trans hlen
  rw [← hn, ← hn2]
  rw [← hn] at hv0 hl1
  rw [← hn2] at hu0
  have hn' := Hd.mk hn
  have hn2' := Hd.mk hn2
  clear hn hn2 hlen hl2
  go_enter Tryz.func19, Tryz.ntmps19
  go_wp2
  go_loopw [5] (fun s5 wr => ∃ k : Nat, k ≤ n ∧ s5 = .int .i64 k ∧ Hd (xs.take k = ys.take k) ∧ Hd (Below w.heap.size w wr)) (fun s5 _ => n - (intOf s5).toNat)
  case atStart => exact ⟨0, Nat.zero_le _, rfl, ⟨by simp⟩, ⟨Below.refl _ _⟩⟩
  case round =>
    obtain ⟨k, hk, rfl, hall, hbr⟩ := hrel
    by_cases hlt : k < n
    · obtain ⟨b, off, cs, hA, hbl, hk1, hat⟩ := hv0.out.in0 hbr.out k (by have := hn'.out; omega)
      cases hA
      cases hk1
      have g0 := hat 0 _ rfl
      simp at g0
      clear hat
      obtain ⟨b2, off2, cs, hA, hbl2, hk1, hat⟩ := hu0.out.in0 hbr.out k (by have := hn2'.out; omega)
      cases hA
      cases hk1
      have f0 := hat 0 _ rfl
      simp at f0
      clear hat
      have hz : (k : Int) < (n : Int) := by omega
      have hz0 : (0 : Int) ≤ (k : Int) := by omega
      by_cases he : xs[k]'(by have := hn'.out; omega) = ys[k]'(by have := hn2'.out; omega)
      · have ht := Hd.mk (take_eq hall.out (by have := hn'.out; omega) (by have := hn2'.out; omega) he)
        generalize xs[k]'_ = x at *
        subst he
        go_wp2
        go_quiet (fail)
        go_wp2
        go_roundw
        case rel => exact ⟨k + 1, by omega, by go_num, ht, ⟨pw_drewN hbr.out _⟩⟩
        case measure => simp [intOf]; omega
      · have hne := Hd.mk (el_ne _ _ he)
        have d := bneT he
        generalize xs[k]'_ = x at *
        generalize ys[k]'_ = y at *
        clear he
        go_wp2
        go_quiet (fail)
        go_wp2
        go_ret
        exact ⟨by rw [decide_eq_false hne.out]; rfl, pw_drewN hbr.out _⟩
    · have e : k = n := by omega
      subst e
      go_wp2
      go_ret
      exact ⟨by rw [decide_eq_true (take_all hall.out hn'.out hn2'.out)]; rfl, hbr.out⟩

set_option maxHeartbeats 4000000 in
theorem l_sameResult (x y : XRes) (cs ds : List Value) (w : World) (hx : KRes w x cs) (hy : KRes w y ds) : Calls Tryz.prog 16 #[.agg cs.toArray, .agg ds.toArray] w (Ret (.bool (decide (x = y))) w) := by
  obtain ⟨v1, rfl, r1⟩ := hx
  obtain ⟨u1, rfl, s1⟩ := hy
  have hbl := fun o o' => ((Below.refl w.heap.size w).al (Nat.le_refl _) o).al (by simp) o'
  obtain ⟨xcode, xvalue, xout, xmem, xsteps⟩ := x
  obtain ⟨ycode, yvalue, yout, ymem, ysteps⟩ := y
  simp only at *
  have hd : decide (XRes.mk xcode xvalue xout xmem xsteps = XRes.mk ycode yvalue yout ymem ysteps) = (xcode == ycode && xvalue == yvalue && decide (xout = yout) && xmem.toList == ymem.toList && xsteps == ysteps) := by
    rw [bytes_beq']
    by_cases h1 : xcode = ycode
    · by_cases h2 : xvalue = yvalue
      · by_cases h3 : xout = yout
        · by_cases h4 : xmem = ymem
          · by_cases h5 : xsteps = ysteps
            · rw [decide_eq_true (by rw [h1, h2, h3, h4, h5])]; simp [h1, h2, h3, h4, h5]
            · rw [decide_eq_false (by intro e; injection e; contradiction)]; simp [h5]
          · rw [decide_eq_false (by intro e; injection e; contradiction)]; simp [h4]
        · rw [decide_eq_false (by intro e; injection e; contradiction)]; simp [h3]
      · rw [decide_eq_false (by intro e; injection e; contradiction)]; simp [h2]
    · rw [decide_eq_false (by intro e; injection e; contradiction)]; simp [h1]
  rw [hd]
  clear hd
  have z1 := fun W hW => l_sameInts v1 u1 xout yout W (r1.mv hW) (s1.mv hW)
  clear r1 s1
  generalize decide (xout = yout) = b3 at *
  cases h1 : xcode == ycode with
  | false =>
    go_enter Tryz.func16, Tryz.ntmps16
    go_wp2
    go_ret
    exact ⟨by simp, hbl _ _⟩
  | true =>
    cases h2 : xvalue == yvalue with
    | false =>
      go_enter Tryz.func16, Tryz.ntmps16
      go_wp2
      go_ret
      exact ⟨by simp, hbl _ _⟩
    | true =>
      cases b3 with
      | false =>
        go_enter Tryz.func16, Tryz.ntmps16
        go_wp2_with fail
        refine (z1 _ (hbl _ _)).mono ?_; rintro e w1 ⟨rfl, hb1⟩
        have x3 := bat hb1 w.heap.size (by first | (simp; done) | (simp; omega)) 3
        have x4 := bat hb1 w.heap.size (by first | (simp; done) | (simp; omega)) 4
        have y3 := bat hb1 (w.heap.size + 1) (by first | (simp; done) | (simp; omega)) 3
        have y4 := bat hb1 (w.heap.size + 1) (by first | (simp; done) | (simp; omega)) 4
        have hbw := Hd.mk ((hbl _ _).then hb1)
        simp at x3 x4 y3 y4
        go_wp2
        go_ret
        exact ⟨by simp, hbw.out⟩
      | true =>
        cases h4 : xmem.toList == ymem.toList with
        | false =>
          go_enter Tryz.func16, Tryz.ntmps16
          go_wp2_with fail
          refine (z1 _ (hbl _ _)).mono ?_; rintro e w1 ⟨rfl, hb1⟩
          have x3 := bat hb1 w.heap.size (by first | (simp; done) | (simp; omega)) 3
          have x4 := bat hb1 w.heap.size (by first | (simp; done) | (simp; omega)) 4
          have y3 := bat hb1 (w.heap.size + 1) (by first | (simp; done) | (simp; omega)) 3
          have y4 := bat hb1 (w.heap.size + 1) (by first | (simp; done) | (simp; omega)) 4
          have hbw := Hd.mk ((hbl _ _).then hb1)
          simp at x3 x4 y3 y4
          go_wp2
          go_ret
          exact ⟨by simp, hbw.out⟩
        | true =>
          cases h5 : xsteps == ysteps with
          | false =>
            go_enter Tryz.func16, Tryz.ntmps16
            go_wp2_with fail
            refine (z1 _ (hbl _ _)).mono ?_; rintro e w1 ⟨rfl, hb1⟩
            have x3 := bat hb1 w.heap.size (by first | (simp; done) | (simp; omega)) 3
            have x4 := bat hb1 w.heap.size (by first | (simp; done) | (simp; omega)) 4
            have y3 := bat hb1 (w.heap.size + 1) (by first | (simp; done) | (simp; omega)) 3
            have y4 := bat hb1 (w.heap.size + 1) (by first | (simp; done) | (simp; omega)) 4
            have hbw := Hd.mk ((hbl _ _).then hb1)
            simp at x3 x4 y3 y4
            go_wp2
            go_ret
            exact ⟨by simp, hbw.out⟩
          | true =>
            go_enter Tryz.func16, Tryz.ntmps16
            go_wp2_with fail
            refine (z1 _ (hbl _ _)).mono ?_; rintro e w1 ⟨rfl, hb1⟩
            have x3 := bat hb1 w.heap.size (by first | (simp; done) | (simp; omega)) 3
            have x4 := bat hb1 w.heap.size (by first | (simp; done) | (simp; omega)) 4
            have y3 := bat hb1 (w.heap.size + 1) (by first | (simp; done) | (simp; omega)) 3
            have y4 := bat hb1 (w.heap.size + 1) (by first | (simp; done) | (simp; omega)) 4
            have hbw := Hd.mk ((hbl _ _).then hb1)
            simp at x3 x4 y3 y4
            go_wp2
            go_ret
            exact ⟨by simp, hbw.out⟩
def seenR (x : XRes) : XRes := ⟨x.code, x.value, x.out, x.mem, 0⟩
set_option maxHeartbeats 4000000 in
theorem c_Seen (x : XRes) (cs : List Value) (w : World) (hx : KRes w x cs) : Calls Tryz.prog 24 #[.agg cs.toArray] w (RetRes (seenR x) w) := by
  obtain ⟨v1, rfl, r1⟩ := hx
  have hbl := fun o o' => ((Below.refl w.heap.size w).al (Nat.le_refl _) o).al (by simp) o'
  have z1 := fun W hW => c_Clone v1 x.out W (r1.mv hW)
  clear r1
  go_enter Tryz.func24, Tryz.ntmps24
  go_wp2_with fail
  refine (z1 _ (hbl _ _)).mono ?_; rintro e w1 ⟨v, rfl, ho, hb1⟩
  have hB1 := (hbl _ _).then hb1
  have k0_1 := bat hb1 w.heap.size (by first | (simp; done) | (simp; omega))
  have f0_1 := fat hb1 w.heap.size (by first | (simp; done) | (simp; omega))
  have k1_1 := bat hb1 (w.heap.size + 1) (by first | (simp; done) | (simp; omega))
  have f1_1 := fat hb1 (w.heap.size + 1) (by first | (simp; done) | (simp; omega))
  have hz1 := hb1.size
  simp at k0_1 f0_1 k1_1 f1_1 hz1
  obtain ⟨A1, c1, rfl, -, -⟩ := own_shape ho
  have ho' := Hd.mk ho
  clear ho
  go_wp2
  refine bodyPost_ret (v := .agg #[.int .i64 x.code, .int .i64 x.value, .slice A1 x.out.length c1, .string x.mem, .int .i64 0]) (by simp [results, Tryz.results24, go_sem, k1_1]) rfl ⟨_, rfl, own_lower (own_abv ho'.out (Nat.le_refl _) ?h1) (by first | (simp; done) | (simp; omega)), ?h2⟩
  case h1 =>
    repeat (refine Abv.setCell ?_ (by first | (simp; done) | (simp; omega)) _)
    exact Abv.refl _ _
  case h2 =>
    repeat (refine Below.setCell ?_ (by first | (simp; done) | (simp; omega)) _)
    exact hB1
def alikeR (x y : XRes) : Bool := decide (seenR x = seenR y)
theorem KRes.mv7 {w w' : World} {x : XRes} {cs : List Value} (h : KRes w x cs) (hb : Below w.heap.size w w') : KRes w' x cs := by
  obtain ⟨v, rfl, r⟩ := h; exact ⟨v, rfl, r.mv hb⟩
theorem res_K7 {base : Nat} {w : World} {x : XRes} {v : Value} (h : w.ownsRow base 2 1 v x.out.length (x.out.map (Value.int .i64))) (hl : x.out.length ≤ lm) : KRes w x [.int .i64 x.code, .int .i64 x.value, v, .string x.mem, .int .i64 x.steps] := ⟨v, rfl, (OwI.of h).rd hl⟩
theorem unbel7 {a w : World} (h : Below a.heap.size a w.drew) : Below a.heap.size a w := ⟨h.os, h.tape, h.output, h.size, h.block⟩
theorem undrewK {w w' : World} (h : Below w.drew.heap.size w.drew w') : Below w.heap.size w w' := ⟨h.os, h.tape, h.output, h.size, h.block⟩
theorem redrewK {B : Nat} {w w' : World} (h : Below B w w') : Below B w w'.drew := ⟨h.os, h.tape, h.output, h.size, h.block⟩
set_option maxRecDepth 40000 in
set_option maxHeartbeats 8000000 in
theorem l_alike (x y : XRes) (cs ds : List Value) (w : World) (hx : KRes w x cs) (hy : KRes w y ds) : Calls Tryz.prog 17 #[.agg cs.toArray, .agg ds.toArray] w (Ret (.bool (alikeR x y)) w) := by
  have hx' := Hd.mk hx
  have hy' := Hd.mk hy
  obtain ⟨v1, rfl, r1⟩ := hx
  obtain ⟨u1, rfl, s1⟩ := hy
  obtain ⟨A1, c1, rfl, -, hl1, -⟩ := r1.sm
  obtain ⟨A2, c2, rfl, -, hl2, -⟩ := s1.sm
  clear r1 s1
  have hc1 := fun W (hW : Below w.heap.size w W) => c_Seen x _ W (KRes.mv7 hx'.out hW)
  have hc2 := fun W (hW : Below w.heap.size w W) => c_Seen y _ W (KRes.mv7 hy'.out hW)
  unfold alikeR
  have hs := fun W cs ds hx hy => l_sameResult (seenR x) (seenR y) cs ds W hx hy
  generalize decide (seenR x = seenR y) = T at *
  obtain ⟨W0, hW0⟩ : ∃ W0 : World, W0 = (w.alloc (.cells #[.int .i64 x.code, .int .i64 x.value, .slice A1 x.out.length c1, .string x.mem, .int .i64 x.steps] 40)).alloc (.cells #[.int .i64 y.code, .int .i64 y.value, .slice A2 y.out.length c2, .string y.mem, .int .i64 y.steps] 40) := ⟨_, rfl⟩
  have hB0 : Hd (Below w.heap.size w W0) := ⟨by rw [hW0]; exact ((Below.refl w.heap.size w).al (Nat.le_refl _) _).al (by simp) _⟩
  have hz0 : w.heap.size + 1 < W0.heap.size := by rw [hW0]; simp
  have hzo : Hd (∀ j u, [Value.int .i64 x.code, .int .i64 x.value, .slice A1 x.out.length c1, .string x.mem, .int .i64 x.steps][j]? = some u → W0.cell? ⟨w.heap.size, j, none⟩ = some u) := ⟨fun j u hu => by rw [hW0]; exact (World.cell?_alloc_past _ _ _ (by first | omega | (simp; done) | (simp; omega))).trans (new_cell _ _ _ (by simp) j u (by simpa using hu))⟩
  have hzp : Hd (∀ j u, [Value.int .i64 y.code, .int .i64 y.value, .slice A2 y.out.length c2, .string y.mem, .int .i64 y.steps][j]? = some u → W0.cell? ⟨w.heap.size + 1, j, none⟩ = some u) := ⟨fun j u hu => by rw [hW0]; exact new_cell _ _ _ (by simp) j u (by simpa using hu)⟩
  have x0_0 := hzo.out 0 _ rfl
  have y0_0 := hzp.out 0 _ rfl
  have x1_0 := hzo.out 1 _ rfl
  have y1_0 := hzp.out 1 _ rfl
  have x2_0 := hzo.out 2 _ rfl
  have y2_0 := hzp.out 2 _ rfl
  have x3_0 := hzo.out 3 _ rfl
  have y3_0 := hzp.out 3 _ rfl
  have x4_0 := hzo.out 4 _ rfl
  have y4_0 := hzp.out 4 _ rfl
  have hB0' := redrewK hB0.out
  have hW0' := Hd.mk hW0
  clear hW0
  go_enter Tryz.func17, Tryz.ntmps17
  go_wp2_with fail
  rw [← hW0'.out]
  go_region_held3 (fun W => W.cell? ⟨w.heap.size, 0, none⟩ = some (.int .i64 x.code) ∧ W.cell? ⟨w.heap.size, 1, none⟩ = some (.int .i64 x.value) ∧ W.cell? ⟨w.heap.size, 2, none⟩ = some (.slice A1 x.out.length c1) ∧ W.cell? ⟨w.heap.size, 3, none⟩ = some (.string x.mem) ∧ W.cell? ⟨w.heap.size, 4, none⟩ = some (.int .i64 x.steps) ∧ W.cell? ⟨w.heap.size + 1, 0, none⟩ = some (.int .i64 y.code) ∧ W.cell? ⟨w.heap.size + 1, 1, none⟩ = some (.int .i64 y.value) ∧ W.cell? ⟨w.heap.size + 1, 2, none⟩ = some (.slice A2 y.out.length c2) ∧ W.cell? ⟨w.heap.size + 1, 3, none⟩ = some (.string y.mem) ∧ W.cell? ⟨w.heap.size + 1, 4, none⟩ = some (.int .i64 y.steps))
    (first | exact ⟨x0_0, x1_0, x2_0, x3_0, x4_0, y0_0, y1_0, y2_0, y3_0, y4_0⟩ | exact ⟨x0_1, x1_1, x2_1, x3_1, x4_1, y0_1, y1_1, y2_1, y3_1, y4_1⟩ | exact ⟨x0_2, x1_2, x2_2, x3_2, x4_2, y0_2, y1_2, y2_2, y3_2, y4_2⟩ | exact ⟨x0_3, x1_3, x2_3, x3_3, x4_3, y0_3, y1_3, y2_3, y3_3, y4_3⟩)
    (first
      | (go_at_call 24
         first
         | (refine (hc1 _ hB0').mono ?_; rintro e w1 ⟨V1, rfl, ho1, hb1⟩
            replace hb1 := undrewK hb1
            have hB1 := hB0.out.then hb1
            have hk1 := res_K7 ho1 (show (seenR x).out.length ≤ lm from hl1)
            unfold resV
            have z1 := hb1.size
            have x0_1 := (bat hb1 w.heap.size (by omega) 0).trans x0_0
            have x1_1 := (bat hb1 w.heap.size (by omega) 1).trans x1_0
            have x2_1 := (bat hb1 w.heap.size (by omega) 2).trans x2_0
            have x3_1 := (bat hb1 w.heap.size (by omega) 3).trans x3_0
            have x4_1 := (bat hb1 w.heap.size (by omega) 4).trans x4_0
            have y0_1 := (bat hb1 (w.heap.size + 1) (by omega) 0).trans y0_0
            have y1_1 := (bat hb1 (w.heap.size + 1) (by omega) 1).trans y1_0
            have y2_1 := (bat hb1 (w.heap.size + 1) (by omega) 2).trans y2_0
            have y3_1 := (bat hb1 (w.heap.size + 1) (by omega) 3).trans y3_0
            have y4_1 := (bat hb1 (w.heap.size + 1) (by omega) 4).trans y4_0)
         | (refine (hc2 _ hB1).mono ?_; rintro e w2 ⟨V2, rfl, ho2, hb2⟩
            have hk2 := res_K7 ho2 (show (seenR y).out.length ≤ lm from hl2)
            unfold resV
            have z2 := hb2.size
            have hs2 := hs w2 _ _ (KRes.mv7 hk1 hb2) hk2
            have x0_2 := (bat hb2 w.heap.size (by omega) 0).trans x0_1
            have x1_2 := (bat hb2 w.heap.size (by omega) 1).trans x1_1
            have x2_2 := (bat hb2 w.heap.size (by omega) 2).trans x2_1
            have x3_2 := (bat hb2 w.heap.size (by omega) 3).trans x3_1
            have x4_2 := (bat hb2 w.heap.size (by omega) 4).trans x4_1
            have y0_2 := (bat hb2 (w.heap.size + 1) (by omega) 0).trans y0_1
            have y1_2 := (bat hb2 (w.heap.size + 1) (by omega) 1).trans y1_1
            have y2_2 := (bat hb2 (w.heap.size + 1) (by omega) 2).trans y2_1
            have y3_2 := (bat hb2 (w.heap.size + 1) (by omega) 3).trans y3_1
            have y4_2 := (bat hb2 (w.heap.size + 1) (by omega) 4).trans y4_1))
      | (go_at_call 16
         refine hs2.mono ?_; rintro e w3 ⟨rfl, hb3⟩
         have x0_3 := (bat hb3 w.heap.size (by omega) 0).trans x0_2
         have x1_3 := (bat hb3 w.heap.size (by omega) 1).trans x1_2
         have x2_3 := (bat hb3 w.heap.size (by omega) 2).trans x2_2
         have x3_3 := (bat hb3 w.heap.size (by omega) 3).trans x3_2
         have x4_3 := (bat hb3 w.heap.size (by omega) 4).trans x4_2
         have y0_3 := (bat hb3 (w.heap.size + 1) (by omega) 0).trans y0_2
         have y1_3 := (bat hb3 (w.heap.size + 1) (by omega) 1).trans y1_2
         have y2_3 := (bat hb3 (w.heap.size + 1) (by omega) 2).trans y2_2
         have y3_3 := (bat hb3 (w.heap.size + 1) (by omega) 3).trans y3_2
         have y4_3 := (bat hb3 (w.heap.size + 1) (by omega) 4).trans y4_2))
  go_wp2
  go_ret
  exact ⟨rfl, (hB1.then hb2).then hb3⟩
end Go.Proofs.YtkcgejbnhpccdaaGreat
