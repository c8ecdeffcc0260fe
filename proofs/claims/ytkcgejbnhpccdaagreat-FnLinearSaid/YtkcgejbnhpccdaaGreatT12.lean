import Derived.Test.YtkcgejbnhpccdaaGreatT07
import Derived.Test.YtkcgejbnhpccdaaGreatT11
import Derived.Deep.RegionWith
import Derived.Test.YtkcgejbnhpccdaaGreatT08
import Derived.Deep.Upon
import Derived.Deep.LoopGhost
import Derived.Test.YtkcgejbnhpccdaaGreatT03
set_option linter.unusedSimpArgs false
set_option linter.unusedVariables false
namespace Go.Proofs.YtkcgejbnhpccdaaGreat
open Go.RowKit
theorem c_leadsTo (t : XTerm) (w : World) : Calls Tryz.prog 178 #[termV t] w (RetI (leadsTo t) w) := by
  have hbl := fun o => (Below.refl w.heap.size w).al (Nat.le_refl _) o
  obtain ⟨k, a, x, y⟩ := t
  simp only [termV] at *
  by_cases h1 : k = 2
  · subst h1
    rw [show leadsTo ⟨2, a, x, y⟩ = [x] from rfl]
    go_enter Tryz.func178, Tryz.ntmps178
    go_wp2
    go_ret
    exact retI_made (hbl _) [x] 1 _ rfl (by simp) (by omega)
  by_cases h2 : k = 3
  · subst h2
    rw [show leadsTo ⟨3, a, x, y⟩ = [x, y] from rfl]
    go_enter Tryz.func178, Tryz.ntmps178
    go_wp2
    go_ret
    exact retI_made (hbl _) [x, y] 2 _ rfl (by simp) (by omega)
  · rw [show leadsTo ⟨k, a, x, y⟩ = [] by simp [leadsTo, h1, h2]]
    have b1 := beqF h1
    have b2 := beqF h2
    go_enter Tryz.func178, Tryz.ntmps178
    go_wp2
    go_ret
    exact ⟨_, rfl, ownI_nil _ _, hbl _⟩
theorem c_ResultWidth (op wd : Int) (w : World) : Calls Tryz.prog 216 #[.int .i64 op, .int .i64 wd] w (Same (.int .i64 (resW op wd)) w) := by
  have h1 : ∀ W, Calls _ _ _ W _ := fun W => c_isBinary op W
  have h2 : ∀ W, Calls _ _ _ W _ := fun W => c_WidthOk wd W
  generalize hR : resW op wd = R
  have hR' := Hd.mk hR
  clear hR
  cases q1 : bin op
  · have hv : R = 0 := by rw [← hR'.out]; simp [resW, q1]
    subst hv
    clear hR'
    rw [q1] at h1
    clear h2 q1
    go_enter Tryz.func216, Tryz.ntmps216
    go_wp2_with fail
    refine (h1 _).mono ?_; rintro e w' ⟨rfl, rfl⟩
    go_wp2
    go_ret
    exact ⟨rfl, rfl⟩
  cases q2 : widthOk wd
  · have hv : R = 0 := by rw [← hR'.out]; simp [resW, q1, q2]
    subst hv
    clear hR'
    rw [q1] at h1
    rw [q2] at h2
    clear q1 q2
    go_enter Tryz.func216, Tryz.ntmps216
    go_wp2_with fail
    refine (h1 _).mono ?_; rintro e w' ⟨rfl, rfl⟩
    go_wp2_with fail
    refine (h2 _).mono ?_; rintro e w' ⟨rfl, rfl⟩
    go_wp2
    go_ret
    exact ⟨rfl, rfl⟩
  by_cases h3 : 14 ≤ op
  · have hv : R = 1 := by rw [← hR'.out]; unfold resW; rw [if_pos (by rw [q1, q2]; rfl), if_pos h3]
    subst hv
    clear hR'
    have d3 : decide (14 ≤ op) = true := by simpa using h3
    rw [q1] at h1
    rw [q2] at h2
    clear q1 q2 h3
    go_enter Tryz.func216, Tryz.ntmps216
    go_wp2_with fail
    refine (h1 _).mono ?_; rintro e w' ⟨rfl, rfl⟩
    go_wp2_with fail
    refine (h2 _).mono ?_; rintro e w' ⟨rfl, rfl⟩
    go_wp2
    go_ret
    exact ⟨rfl, rfl⟩
  · have hv : R = wd := by rw [← hR'.out]; unfold resW; rw [if_pos (by rw [q1, q2]; rfl), if_neg h3]
    subst hv
    clear hR'
    have d3 : decide (14 ≤ op) = false := by simpa using h3
    rw [q1] at h1
    rw [q2] at h2
    clear q1 q2 h3
    go_enter Tryz.func216, Tryz.ntmps216
    go_wp2_with fail
    refine (h1 _).mono ?_; rintro e w' ⟨rfl, rfl⟩
    go_wp2_with fail
    refine (h2 _).mono ?_; rintro e w' ⟨rfl, rfl⟩
    go_wp2
    go_ret
    exact ⟨rfl, rfl⟩
theorem s_ResultWidth (op wd : Int) (w : World) : Calls Tryz.prog 217 #[.int .i64 op, .int .i64 wd] w (Same (.int .i64 (resW op wd)) w) := by
  have h1 : ∀ W, Calls _ _ _ W _ := fun W => s_l1In op 1 17 W
  have h2 : ∀ W, Calls _ _ _ W _ := fun W => s_WidthOk wd W
  simp only [show inR op 1 17 = bin op from rfl] at h1
  generalize hR : resW op wd = R
  have hR' := Hd.mk hR
  clear hR
  cases q2 : widthOk wd
  · have hv : R = 0 := by rw [← hR'.out]; simp [resW, q2]
    subst hv
    clear hR'
    rw [q2] at h2
    clear h1 q2
    go_enter Tryz.func217, Tryz.ntmps217
    go_wp2_with fail
    refine (h2 _).mono ?_; rintro e w' ⟨rfl, rfl⟩
    go_wp2
    go_ret
    exact ⟨rfl, rfl⟩
  cases q1 : bin op
  · have hv : R = 0 := by rw [← hR'.out]; simp [resW, q1, q2]
    subst hv
    clear hR'
    rw [q2] at h2
    rw [q1] at h1
    clear q2 q1
    go_enter Tryz.func217, Tryz.ntmps217
    go_wp2_with fail
    refine (h2 _).mono ?_; rintro e w' ⟨rfl, rfl⟩
    go_wp2_with fail
    refine (h1 _).mono ?_; rintro e w' ⟨rfl, rfl⟩
    go_wp2
    go_ret
    exact ⟨rfl, rfl⟩
  by_cases h3 : 14 ≤ op
  · have hv : R = 1 := by rw [← hR'.out]; unfold resW; rw [if_pos (by rw [q1, q2]; rfl), if_pos h3]
    subst hv
    clear hR'
    have d3 : decide (14 ≤ op) = true := by simpa using h3
    rw [q2] at h2
    rw [q1] at h1
    clear q2 q1 h3
    go_enter Tryz.func217, Tryz.ntmps217
    go_wp2_with fail
    refine (h2 _).mono ?_; rintro e w' ⟨rfl, rfl⟩
    go_wp2_with fail
    refine (h1 _).mono ?_; rintro e w' ⟨rfl, rfl⟩
    go_wp2
    go_ret
    exact ⟨rfl, rfl⟩
  · have hv : R = wd := by rw [← hR'.out]; unfold resW; rw [if_pos (by rw [q1, q2]; rfl), if_neg h3]
    subst hv
    clear hR'
    have d3 : decide (14 ≤ op) = false := by simpa using h3
    rw [q2] at h2
    rw [q1] at h1
    clear q2 q1 h3
    go_enter Tryz.func217, Tryz.ntmps217
    go_wp2_with fail
    refine (h2 _).mono ?_; rintro e w' ⟨rfl, rfl⟩
    go_wp2_with fail
    refine (h1 _).mono ?_; rintro e w' ⟨rfl, rfl⟩
    go_wp2
    go_ret
    exact ⟨rfl, rfl⟩
theorem c_widthOf (i : XInst) (v : Value) (w : World) : Calls Tryz.prog 186 #[instV i v] w (Ret (.int .i64 (widthOf i)) w) := by
  have hbl := fun o => (Below.refl w.heap.size w).al (Nat.le_refl _) o
  obtain ⟨op, wd, a, b, c, imm, args⟩ := i
  simp only [instV] at *
  have h1 := fun W => c_isBinary op W
  have h2 := fun W => c_ResultWidth op wd W
  unfold widthOf
  simp only
  cases q1 : bin op
  rotate_left
  · rw [q1] at h1
    clear q1
    go_enter Tryz.func186, Tryz.ntmps186
    go_wp2_with fail
    refine (h1 _).mono ?_; rintro e w' ⟨rfl, rfl⟩
    go_wp2_with fail
    refine (h2 _).mono ?_; rintro e w' ⟨rfl, rfl⟩
    go_wp2
    go_ret
    exact ⟨rfl, hbl _⟩
  rw [q1] at h1
  clear q1 h2
  by_cases h24 : op = 24
  · subst h24
    go_enter Tryz.func186, Tryz.ntmps186
    go_wp2_with fail
    refine (h1 _).mono ?_; rintro e w' ⟨rfl, rfl⟩
    go_wp2
    go_ret
    exact ⟨rfl, hbl _⟩
  have b1 := beqF h24
  by_cases h25 : op = 25
  · subst h25
    go_enter Tryz.func186, Tryz.ntmps186
    go_wp2_with fail
    refine (h1 _).mono ?_; rintro e w' ⟨rfl, rfl⟩
    go_wp2
    go_ret
    exact ⟨rfl, hbl _⟩
  have b2 := beqF h25
  go_enter Tryz.func186, Tryz.ntmps186
  go_wp2_with fail
  refine (h1 _).mono ?_; rintro e w' ⟨rfl, rfl⟩
  go_wp2
  go_ret
  exact ⟨by simp [h24, h25], hbl _⟩
theorem s_l2Width (i : XInst) (v : Value) (w : World) (h0 : (i.op = 24 ∨ i.op = 25) → i.w = 0) : Calls Tryz.prog 189 #[instV i v] w (Ret (.int .i64 (widthOf i)) w) := by
  have hbl := fun o => (Below.refl w.heap.size w).al (Nat.le_refl _) o
  obtain ⟨op, wd, a, b, c, imm, args⟩ := i
  simp only [instV] at *
  have h1 := fun W => s_l1In op 1 17 W
  have h2 := fun W => s_ResultWidth op wd W
  simp only [show inR op 1 17 = bin op from rfl] at h1
  have hR : widthOf ⟨op, wd, a, b, c, imm, args⟩ = if bin op then resW op wd else wd := by
    unfold widthOf
    simp only
    split
    · rfl
    split
    · rename_i h
      rw [h0 (by simpa using h)]
    · rfl
  rw [hR]
  clear h0 hR
  cases q1 : bin op
  rotate_left
  · rw [q1] at h1
    clear q1
    go_enter Tryz.func189, Tryz.ntmps189
    go_wp2_with fail
    refine (h1 _).mono ?_; rintro e w' ⟨rfl, rfl⟩
    go_wp2_with fail
    refine (h2 _).mono ?_; rintro e w' ⟨rfl, rfl⟩
    go_wp2
    go_ret
    exact ⟨rfl, hbl _⟩
  · rw [q1] at h1
    clear q1 h2
    go_enter Tryz.func189, Tryz.ntmps189
    go_wp2_with fail
    refine (h1 _).mono ?_; rintro e w' ⟨rfl, rfl⟩
    go_wp2
    go_ret
    exact ⟨rfl, hbl _⟩
set_option maxHeartbeats 1000000 in
theorem c_firstOf (f : XFunc) (cs : List Value) (b : Nat) (w : World) (hf : KFunc lm w f cs) (hb0 : b ≤ f.blocks.length) : Calls Tryz.prog 95 #[.agg cs.toArray, .int .i64 b] w (Ret (.int .i64 (firstOf f b)) w) := by
  obtain ⟨v1, v2, rfl, hp, hb⟩ := hf
  have hbd := Hd.mk hb.blocks
  obtain ⟨A1, c1, rfl, -, hl1, -⟩ := hp.sm
  obtain ⟨A2, c2, rfl, hcap, hl2, hb0'⟩ := hb.sm
  have hcap2 : (b : Int) ≤ (c2 : Int) := by omega
  have hcap3 : b ≤ c2 := by omega
  clear hb hp
  unfold firstOf
  rw [Int.toNat_natCast]
  generalize f.params.length = n at *
  generalize f.blocks = l at *
  generalize f.ret = r at *
  go_enter Tryz.func95, Tryz.ntmps95
  go_wp2
  go_loopw [5, 16] (fun s5 s16 wr => ∃ k : Nat, k ≤ b ∧ s16 = .int .i64 k ∧ s5 = .int .i64 (countIn n (l.take k)) ∧ Hd (Below w.heap.size w wr)) (fun _ s16 _ => b - (intOf s16).toNat)
  case atStart => exact ⟨0, Nat.zero_le _, rfl, by simp [countIn], ⟨(Below.refl _ w).al (Nat.le_refl _) _⟩⟩
  case round =>
    obtain ⟨k, hk, rfl, rfl, hbw⟩ := hrel
    have hc1 := countIn_bd n l k hbd.out (by omega)
    have hc2 := countIn_le n (l.take k)
    by_cases hlt : k < b
    · obtain ⟨b', off, cs, hA, hbl, ⟨v1, v2, rfl, hr, hr2⟩, hat⟩ := hb0'.out.in_ hbw.out k (by omega)
      cases hA
      have g0 := hat 0 _ rfl
      have g1 := hat 1 _ rfl
      have g2 := hat 2 _ rfl
      have g3 := hat 3 _ rfl
      have g4 := hat 4 _ rfl
      have g5 := hat 5 _ rfl
      clear hat
      simp at g0 g1 g2 g3 g4 g5
      obtain ⟨A1, c1, rfl, -, hl3, -⟩ := hr.sm
      obtain ⟨A2, c2, rfl, -, hl4, -⟩ := hr2.sm
      have hsn := Hd.mk (countIn_snoc n l k (by omega))
      generalize countIn n (l.take k) = s at *
      have hb1 := hbw.out.size
      go_wp2
      go_roundw
      case rel => exact ⟨k + 1, by omega, by go_num, by rw [hsn.out]; rfl, ⟨hbw.out.al hb1 _⟩⟩
      case measure => simp [intOf]; omega
    · have e : k = b := by omega
      subst e
      go_wp2
      go_ret
      exact ⟨rfl, hbw.out⟩
set_option maxHeartbeats 1000000 in
theorem s_l2First (f : XFunc) (cs : List Value) (b : Nat) (w : World) (hf : KFunc lm w f cs) (hb0 : b ≤ f.blocks.length) : Calls Tryz.prog 109 #[.agg cs.toArray, .int .i64 b] w (Ret (.int .i64 (firstOf f b)) w) := by
  obtain ⟨v1, v2, rfl, hp, hb⟩ := hf
  have hbd := Hd.mk hb.blocks
  obtain ⟨A1, c1, rfl, -, hl1, -⟩ := hp.sm
  obtain ⟨A2, c2, rfl, hcap, hl2, hb0'⟩ := hb.sm
  clear hb hp
  unfold firstOf
  rw [Int.toNat_natCast]
  generalize f.params.length = n at *
  generalize f.blocks = l at *
  generalize f.ret = r at *
  have hbl := fun o => (Below.refl w.heap.size w).al (Nat.le_refl _) o
  go_enter Tryz.func109, Tryz.ntmps109
  go_wp2
  go_loopw [5, 6] (fun s5 s6 wr => ∃ k : Nat, k ≤ b ∧ s6 = .int .i64 k ∧ s5 = .int .i64 (countIn n (l.take k)) ∧ Hd (Below (w.heap.size + 1) (w.alloc (.cells #[.slice A1 n c1, .int .i64 r, .slice A2 l.length c2] 35)) wr)) (fun _ s6 _ => b - (intOf s6).toNat)
  case atStart => exact ⟨0, Nat.zero_le _, rfl, by simp [countIn], ⟨Below.refl _ _⟩⟩
  case round =>
    obtain ⟨k, hk, rfl, rfl, hbr⟩ := hrel
    have k0 := bat hbr.out w.heap.size (by omega)
    simp at k0
    have hbw : Below w.heap.size w wr := (hbl _).trans (hbr.out.mono (by omega))
    have hc1 := countIn_bd n l k hbd.out (by omega)
    have hc2 := countIn_le n (l.take k)
    by_cases hlt : k < b
    · obtain ⟨eb, eo, ecs, hA_, heb, ⟨bv1, bv2, rfl, hr_, hr2_⟩, hat_⟩ := (hb0'.out).in0 (hbw) (k) (by omega)
      cases hA_
      have hew := Nat.lt_of_lt_of_le heb (hbw).size
      have g0 := hat_ 0 _ rfl
      have g1 := hat_ 1 _ rfl
      have g2 := hat_ 2 _ rfl
      have g3 := hat_ 3 _ rfl
      have g4 := hat_ 4 _ rfl
      have g5 := hat_ 5 _ rfl
      clear hat_
      simp at g0 g1 g2 g3 g4 g5
      obtain ⟨Ap, cp, rfl, hcp, hlp, hrp⟩ := hr_.sm
      obtain ⟨Ai, ci, rfl, hci, hli, hri⟩ := hr2_.sm
      clear hr_ hr2_
      have hsn := Hd.mk (countIn_snoc n l k (by omega))
      have hsz := Hd.mk (show sizeB (l[k]'(by omega)) = (l[k]'(by omega)).phis.length + (l[k]'(by omega)).insts.length from rfl)
      generalize countIn n (l.take k) = s at *
      have hltz : (k : Int) < (l.length : Int) := by omega
      have hk0 : (0 : Int) ≤ (k : Int) := by omega
      generalize l[k]'(by omega) = x at *
      have e1 : IntKind.i64.wrap ((x.phis.length : Int) + (x.insts.length : Int)) = (x.phis.length : Int) + (x.insts.length : Int) := IntWalk.i64_in _ (by omega)
      have e2 : IntKind.i64.wrap (s + ((x.phis.length : Int) + (x.insts.length : Int))) = s + ((x.phis.length : Int) + (x.insts.length : Int)) := IntWalk.i64_in _ (by omega)
      generalize x.phis.length = p1 at *
      generalize x.insts.length = p2 at *
      go_wp2
      go_quiet (fail)
      clear e1 e2
      go_wp2
      go_roundw
      case rel => exact ⟨k + 1, by omega, by go_num, by rw [hsn.out, hsz.out], ⟨pw_drewN hbr.out _⟩⟩
      case measure => simp [intOf]; omega
    · have e : k = b := by omega
      subst e
      go_wp2
      go_ret
      exact ⟨rfl, hbw⟩
theorem any_take_snoc {α : Type} (p : α → Bool) (l : List α) (k : Nat) (h : k < l.length) : (l.take (k + 1)).any p = ((l.take k).any p || p l[k]) := by
  rw [List.take_succ_eq_append_getElem h, List.any_append]; simp
theorem any_true_of {α : Type} (p : α → Bool) (l : List α) (k : Nat) (h : k < l.length) (hp : p l[k] = true) : l.any p = true := by
  rw [List.any_eq_true]; exact ⟨_, List.getElem_mem h, hp⟩
theorem s_l1Has (v : Value) (xs : List Int) (x : Int) (w : World) (hv : RI lm w v xs) : Calls Tryz.prog 147 #[v, .int .i64 x] w (Ret (.bool (hasI xs x)) w) := by
  obtain ⟨A, c, rfl, h1, h2, hv0⟩ := hv.sm
  clear hv
  generalize hR : hasI xs x = R
  have hR' := Hd.mk hR
  clear hR
  unfold hasI at hR'
  go_enter Tryz.func147, Tryz.ntmps147
  go_wp2
  go_loopw [5] (fun s5 wr => ∃ k : Nat, k ≤ xs.length ∧ s5 = .int .i64 k ∧ wr = w ∧ Hd ((xs.take k).any (fun y => x == y) = false)) (fun s5 _ => xs.length - (intOf s5).toNat)
  case atStart => exact ⟨0, Nat.zero_le _, rfl, rfl, ⟨rfl⟩⟩
  case round =>
    obtain ⟨k, hk, rfl, rfl, hn⟩ := hrel
    by_cases hlt : k < xs.length
    · obtain ⟨eb, eo, ecs, hA_, heb, hk_, hat_⟩ := (hv0.out).in0 (Below.refl wr.heap.size wr) (k) (hlt)
      cases hA_
      cases hk_
      have hew := Nat.lt_of_lt_of_le heb (Below.refl wr.heap.size wr).size
      have g0 := hat_ 0 _ rfl
      clear hat_
      simp at g0
      have hsn := Hd.mk (any_take_snoc (fun y => x == y) xs k hlt)
      have htr := fun h => Hd.mk (any_true_of (fun y => x == y) xs k hlt h)
      generalize xs[k] = y at *
      by_cases hq : y = x
      · have hq2 : (y == x) = true := by simpa using hq
        have hv : R = true := by rw [← hR'.out]; exact (htr (by simp [hq])).out
        subst hv
        clear htr hsn hR' hq
        go_wp2
        go_ret
        exact ⟨rfl, Below.refl _ _⟩
      · have hq2 : (y == x) = false := by simpa using hq
        have hq3 : (x == y) = false := by simpa using fun e => hq e.symm
        have hn2 := Hd.mk (show (xs.take (k + 1)).any (fun y => x == y) = false by rw [hsn.out, hn.out, hq3]; rfl)
        clear htr hsn hq hq3
        go_wp2
        go_roundw
        case rel => exact ⟨k + 1, by omega, by go_num, by trivial, hn2⟩
        case measure => simp [intOf]; omega
    · have e : k = xs.length := by omega
      subst e
      have hv : R = false := by rw [← hR'.out]; have := hn.out; rwa [List.take_length] at this
      subst hv
      go_wp2
      go_ret
      exact ⟨rfl, Below.refl _ _⟩
theorem s_l3Succs (f : XFunc) (cs : List Value) (b : Nat) (w : World) (hf : KFunc lm w f cs) (hb : b < f.blocks.length) : Calls Tryz.prog 148 #[.agg cs.toArray, .int .i64 b] w (RetI (leadsTo (blkAt f b).term) w) := by
  rw [blkAt_nat f b hb]
  obtain ⟨v1, v2, rfl, hp, hb'⟩ := hf
  obtain ⟨A1, c1, rfl, -, hl1, -⟩ := hp.sm
  obtain ⟨A2, c2, rfl, hcap, hl2, hb0⟩ := hb'.sm
  clear hp hb'
  have hbl := fun o o' => ((Below.refl w.heap.size w).al (Nat.le_refl _) o).al (by simp) o'
  obtain ⟨eb, eo, ecs, hA_, heb, ⟨bv1, bv2, rfl, hr_, hr2_⟩, hat_⟩ := (hb0.out).in0 (Below.refl w.heap.size w) (b) (hb)
  cases hA_
  have hew := Nat.lt_of_lt_of_le heb (Below.refl w.heap.size w).size
  have g0 := hat_ 0 _ rfl
  have g1 := hat_ 1 _ rfl
  have g2 := hat_ 2 _ rfl
  have g3 := hat_ 3 _ rfl
  have g4 := hat_ 4 _ rfl
  have g5 := hat_ 5 _ rfl
  clear hat_
  simp at g0 g1 g2 g3 g4 g5
  obtain ⟨Ap, cp, rfl, hcp, hlp, hrp⟩ := hr_.sm
  obtain ⟨Ai, ci, rfl, hci, hli, hri⟩ := hr2_.sm
  clear hr_ hr2_
  have h0 : (0 : Int) ≤ (b : Int) := by omega
  have h1 : (b : Int) < (f.blocks.length : Int) := by omega
  generalize f.blocks[b] = x at *
  generalize f.blocks.length = n at *
  generalize x.term = t at *
  obtain ⟨k, ta, tx, ty⟩ := t
  simp only at *
  by_cases h2 : k = 2
  · subst h2
    rw [show leadsTo ⟨2, ta, tx, ty⟩ = [tx] from rfl]
    go_enter Tryz.func148, Tryz.ntmps148
    go_wp2
    go_ret
    exact retI_made (hbl _ _) [tx] 1 _ rfl (by simp) (by omega)
  by_cases h3 : k = 3
  · subst h3
    rw [show leadsTo ⟨3, ta, tx, ty⟩ = [tx, ty] from rfl]
    go_enter Tryz.func148, Tryz.ntmps148
    go_wp2
    go_ret
    exact retI_made (hbl _ _) [tx, ty] 2 _ rfl (by simp) (by omega)
  · rw [show leadsTo ⟨k, ta, tx, ty⟩ = [] by simp [leadsTo, h2, h3]]
    have b1 := beqF h2
    have b2 := beqF h3
    go_enter Tryz.func148, Tryz.ntmps148
    go_wp2
    go_ret
    exact retI_made (hbl _ _) [] 0 _ rfl (by simp) (by omega)
theorem upTo_filter_snoc (p : Int → Bool) (k : Nat) : (upTo (k + 1)).filter p = (upTo k).filter p ++ (if p k then [(k : Int)] else []) := by
  rw [upTo_succ, List.filter_append]
  congr 1
  cases h : p k <;> simp [h]
theorem upTo_filter_len (p : Int → Bool) (k : Nat) : ((upTo k).filter p).length ≤ k := by
  have := List.length_filter_le p (upTo k)
  rwa [upTo_len'] at this
set_option maxHeartbeats 4000000 in
theorem c_predsOf (f : XFunc) (cs : List Value) (b : Int) (w : World) (hf : KFunc lm w f cs) : Calls Tryz.prog 144 #[.agg cs.toArray, .int .i64 b] w (RetI (predsOf f b) w) := by
  obtain ⟨v1, v2, rfl, hp, hb'⟩ := hf
  obtain ⟨A1, c1, rfl, -, hl1, -⟩ := hp.sm
  obtain ⟨A2, c2, rfl, hcap, hl2, hb0⟩ := hb'.sm
  clear hp hb'
  have hbl := fun o o' => ((Below.refl w.heap.size w).al (Nat.le_refl _) o).al (by simp) o'
  unfold predsOf
  have hpk := fun k h => blkAt_nat f k h
  generalize hP : (fun k => hasI (leadsTo (blkAt f k).term) b) = P at *
  have hPk : ∀ (k : Nat) (h : k < f.blocks.length), Hd (P k = hasI (leadsTo f.blocks[k].term) b) := fun k h => ⟨by rw [← hP, ← hpk k h]⟩
  clear hP hpk
  have hlen := fun k => Hd.mk (upTo_filter_len P k)
  have hsn := fun k => Hd.mk (upTo_filter_snoc P k)
  have hown0 : ((w.alloc (.cells #[.slice A1 f.params.length c1, .int .i64 f.ret, .slice A2 f.blocks.length c2] 35)).alloc (.cells #[] 2)).ownsRow (w.heap.size + 1) 2 1 (.slice (some ⟨w.heap.size + 1, 0, none⟩) 0 0) 0 [] := own_empty _ _ _ _ _ (by simp) (by simp)
  have hown := Hd.mk hown0
  clear hown0
  generalize f.params.length = n at *
  generalize f.blocks = l at *
  generalize f.ret = r at *
  go_enter Tryz.func144, Tryz.ntmps144
  go_wp2
  go_loopw [5, 12] (fun s5 s12 wr => ∃ k : Nat, k ≤ l.length ∧ s12 = .int .i64 k ∧ Hd (wr.ownsRow (w.heap.size + 1) 2 1 s5 ((upTo k).filter P).length (((upTo k).filter P).map (Value.int .i64))) ∧ Hd (Below w.heap.size w wr)) (fun _ s12 _ => l.length - (intOf s12).toNat)
  case atStart => exact ⟨0, Nat.zero_le _, rfl, ⟨by simpa [upTo] using hown.out⟩, ⟨hbl _ _⟩⟩
  case round =>
    obtain ⟨k, hk, rfl, ho, hbr⟩ := hrel
    by_cases hlt : k < l.length
    · obtain ⟨eb, eo, ecs, hA_, heb, ⟨bv1, bv2, rfl, hr_, hr2_⟩, hat_⟩ := (hb0.out).in0 (hbr.out) (k) (hlt)
      cases hA_
      have hew := Nat.lt_of_lt_of_le heb (hbr.out).size
      have g0 := hat_ 0 _ rfl
      have g1 := hat_ 1 _ rfl
      have g2 := hat_ 2 _ rfl
      have g3 := hat_ 3 _ rfl
      have g4 := hat_ 4 _ rfl
      have g5 := hat_ 5 _ rfl
      clear hat_
      simp at g0 g1 g2 g3 g4 g5
      obtain ⟨Ap, cp, rfl, hcp, hlp, hrp⟩ := hr_.sm
      obtain ⟨Ai, ci, rfl, hci, hli, hri⟩ := hr2_.sm
      clear hr_ hr2_
      have hrl := (hlen k).out
      have hsk := hsn k
      have hpk := hPk k hlt
      generalize (upTo k).filter P = xs at *
      generalize l[k] = x at *
      have hz := hbr.out.size
      have hct := fun W => c_leadsTo x.term W
      obtain ⟨A7, c7, rfl, hc7, -, -⟩ := own_shape ho.out
      go_wp2_with fail
      refine (hct _).mono ?_; rintro e w1 ⟨v1, rfl, ho1, hb1⟩
      have hr1 : RI lm w1 v1 (leadsTo x.term) := (own_ints ho1 (by have := leads_len x.term; show _ ≤ 1048576; omega)).2
      have hcc := c_ContainsI v1 (leadsTo x.term) b w1 hr1
      have hbw : Below wr.heap.size wr w1 := ((Below.refl wr.heap.size wr).al (Nat.le_refl _) _).then hb1
      go_wp2_with fail
      refine hcc.mono ?_; rintro e w2 ⟨rfl, hb2⟩
      have hb02 := Hd.mk (hbw.then hb2)
      have hB2 := Hd.mk (hbr.out.then hb02.out)
      have hz2 := hB2.out.size
      have ho2 := Hd.mk (own_mv ho.out hb02.out)
      clear hb1 hb2 hbw hcc hct ho1 hr1
      cases hq : hasI (leadsTo x.term) b
      · rw [hpk.out, hq] at hsk
        clear hpk hq
        go_wp2
        go_roundw
        case rel => exact ⟨k + 1, by omega, by go_num, ⟨by rw [hsk.out]; simpa using ho2.out⟩, hB2⟩
        case measure => simp [intOf]; omega
      · rw [hpk.out, hq] at hsk
        clear hpk hq
        have hal := Hd.mk fun (o : Obj) => (Below.refl w2.heap.size w2).al (Nat.le_refl _) o
        go_wp2_with (at_builtin; refine app_I rfl _ _ rfl (w.heap.size + 1) _ xs [(k : Int)] rfl (own_mv ho2.out (hal.out _)) _ 1 1 rfl (rd_one _ _) (by omega) (by simp; omega) ?_; intro v' w4 ho4 hg4; have hB4 := Hd.mk (below_app (hB2.out.then (hal.out (.cells #[.int .i64 (k : Int)] 2))) hg4 (by simp; omega) (own_mv ho2.out (hal.out _)) (by omega)))
        go_roundw
        case rel => exact ⟨k + 1, by omega, by go_num, ⟨by rw [hsk.out]; simpa using ho4⟩, hB4⟩
        case measure => simp [intOf]; omega
    · have e : k = l.length := by omega
      subst e
      go_wp2
      go_ret
      exact ⟨_, rfl, own_lower ho.out (by omega), hbr.out⟩
set_option maxHeartbeats 4000000 in
theorem s_l3Preds (f : XFunc) (cs : List Value) (b : Int) (w : World) (hf : KFunc lm w f cs) : Calls Tryz.prog 100 #[.agg cs.toArray, .int .i64 b] w (RetI (predsOf f b) w) := by
  have hsu := fun (W : World) (k : Nat) (hW : Below w.heap.size w W) (h : k < f.blocks.length) => s_l3Succs f cs k W (KM.mv hf hW) h
  obtain ⟨v1, v2, rfl, hp, hb'⟩ := hf
  obtain ⟨A1, c1, rfl, -, hl1, -⟩ := hp.sm
  obtain ⟨A2, c2, rfl, hcap, hl2, -⟩ := hb'.sm
  clear hp hb'
  have hbl := fun o o' => ((Below.refl w.heap.size w).al (Nat.le_refl _) o).al (by simp) o'
  unfold predsOf
  generalize hP : (fun k => hasI (leadsTo (blkAt f k).term) b) = P at *
  have hPk : ∀ (k : Nat), Hd (P k = hasI (leadsTo (blkAt f k).term) b) := fun k => ⟨by rw [← hP]⟩
  clear hP
  have hlen := fun k => Hd.mk (upTo_filter_len P k)
  have hsn := fun k => Hd.mk (upTo_filter_snoc P k)
  have hown0 : ((w.alloc (.cells #[.slice A1 f.params.length c1, .int .i64 f.ret, .slice A2 f.blocks.length c2] 35)).alloc (.cells #[] 2)).ownsRow (w.heap.size + 1) 2 1 (.slice (some ⟨w.heap.size + 1, 0, none⟩) 0 0) 0 [] := own_empty _ _ _ _ _ (by simp) (by simp)
  have hown := Hd.mk hown0
  clear hown0
  have hsu' := fun (W : World) (k : Nat) (hW : Below w.heap.size w W) (h : k < f.blocks.length) => Hd.mk (hsu W k hW h)
  clear hsu
  have hk00 : Hd (∀ o, ((w.alloc (.cells #[.slice A1 f.params.length c1, .int .i64 f.ret, .slice A2 f.blocks.length c2] 35)).alloc (.cells #[] 2)).cell? ⟨w.heap.size, o, none⟩ = [Value.slice A1 f.params.length c1, .int .i64 f.ret, .slice A2 f.blocks.length c2][o]?) := ⟨fun o => by simp⟩
  go_enter Tryz.func100, Tryz.ntmps100
  go_wp2
  go_loopw [5, 6] (fun s5 s6 wr => ∃ k : Nat, k ≤ f.blocks.length ∧ s6 = .int .i64 k ∧ Hd (wr.ownsRow (w.heap.size + 1) 2 1 s5 ((upTo k).filter P).length (((upTo k).filter P).map (Value.int .i64))) ∧ Hd (Below w.heap.size w wr) ∧ Hd (w.heap.size < wr.heap.size) ∧ Hd (∀ o, wr.cell? ⟨w.heap.size, o, none⟩ = [Value.slice A1 f.params.length c1, .int .i64 f.ret, .slice A2 f.blocks.length c2][o]?)) (fun _ s6 _ => f.blocks.length - (intOf s6).toNat)
  case atStart => exact ⟨0, Nat.zero_le _, rfl, ⟨by simpa [upTo] using hown.out⟩, ⟨hbl _ _⟩, ⟨by simp; omega⟩, hk00⟩
  case round =>
    obtain ⟨k, hk, rfl, ho, hbr, hzr, hk0⟩ := hrel
    have k0 := hk0.out
    have hz := hzr.out
    have g0 := k0 0
    have g1 := k0 1
    have g2 := k0 2
    simp at g0 g1 g2
    by_cases hlt : k < f.blocks.length
    · have hrl := (hlen k).out
      have hsk := hsn k
      have hpk := hPk k
      have hct := (hsu' wr k hbr.out hlt).out
      generalize (upTo k).filter P = xs at *
      generalize (blkAt f k).term = t at *
      obtain ⟨A7, c7, rfl, hc7, -, -⟩ := own_shape ho.out
      go_wp2_with fail
      refine hct.mono ?_; rintro e w1 ⟨v1, rfl, ho1, hb1⟩
      have hr1 : RI lm w1 v1 (leadsTo t) := (own_ints ho1 (by have := leads_len t; show _ ≤ 1048576; omega)).2
      have hcc := s_l1Has v1 (leadsTo t) b w1 hr1
      go_wp2_with fail
      refine hcc.mono ?_; rintro e w2 ⟨rfl, hb2⟩
      have hb02 := Hd.mk (hb1.then hb2)
      have hB2 := Hd.mk (hbr.out.then hb02.out)
      have hz2 := hb02.out.size
      have ho2 := Hd.mk (own_mv ho.out hb02.out)
      have hk2 : Hd (∀ o, w2.cell? ⟨w.heap.size, o, none⟩ = [Value.slice A1 f.params.length c1, .int .i64 f.ret, .slice A2 f.blocks.length c2][o]?) := ⟨fun o => (bat hb02.out w.heap.size hz o).trans (k0 o)⟩
      clear hb1 hb2 hcc hct ho1 hr1 k0 hk0
      cases hq : hasI (leadsTo t) b
      · rw [hpk.out, hq] at hsk
        clear hpk hq
        go_wp2
        go_roundw
        case rel => exact ⟨k + 1, by omega, by go_num, ⟨by rw [hsk.out]; simpa using ho2.out⟩, hB2, ⟨by omega⟩, hk2⟩
        case measure => simp [intOf]; omega
      · rw [hpk.out, hq] at hsk
        clear hpk hq
        have hal := Hd.mk fun (o : Obj) => (Below.refl w2.heap.size w2).al (Nat.le_refl _) o
        go_wp2_with (at_builtin; refine app_I rfl _ _ rfl (w.heap.size + 1) _ xs [(k : Int)] rfl (own_mv ho2.out (hal.out _)) _ 1 1 rfl (rd_one _ _) (by omega) (by simp; omega) ?_; intro v' w4 ho4 hg4; have hB4 := Hd.mk (below_app (hB2.out.then (hal.out (.cells #[.int .i64 (k : Int)] 2))) hg4 (by simp; omega) (own_mv ho2.out (hal.out _)) (by omega)); have hz4 := hg4.size; have hk4 : Hd (∀ o, w4.cell? ⟨w.heap.size, o, none⟩ = [Value.slice A1 f.params.length c1, .int .i64 f.ret, .slice A2 f.blocks.length c2][o]?) := ⟨fun o => (grown_cell hg4 (by simp; omega) (fun e => by have := own_block_ge ho2.out _ e; omega) o).trans ((bat (hal.out _) w.heap.size (by omega) o).trans (hk2.out o))⟩)
        go_roundw
        case rel => exact ⟨k + 1, by omega, by go_num, ⟨by rw [hsk.out]; simpa using ho4⟩, hB4, ⟨by simp at hz4; omega⟩, hk4⟩
        case measure => simp [intOf]; omega
    · have e : k = f.blocks.length := by omega
      subst e
      go_wp2
      go_ret
      exact ⟨_, rfl, own_lower ho.out (by omega), hbr.out⟩
theorem placeOf_two (f : XFunc) (id : Int) : placeOf f id = if id < 0 then (-2, 0) else if id < f.params.length then (-1, id) else placeIn f.blocks 0 f.params.length id := by
  have hc := countIn_le f.params.length f.blocks
  have hcd : countOf f = countIn f.params.length f.blocks := rfl
  unfold placeOf
  by_cases h0 : id < 0
  · rw [if_neg (by simp [isIdB, inR]; omega), if_pos h0]
  rw [if_neg h0]
  by_cases h1 : id < f.params.length
  · rw [if_pos (by simp [isIdB, inR]; omega), if_pos h1]
    first | done | rw [if_pos h1]
  rw [if_neg h1]
  by_cases h2 : isIdB (countOf f) id = true
  · rw [if_pos h2]
    first | done | rw [if_neg h1]
  · rw [if_neg h2]
    rcases placeIn_spec f.blocks 0 f.params.length id (by omega) (by omega) with ⟨h3, -⟩ | ⟨k, hk, -, h3, h4⟩
    · exact h3.symm
    · have h5 := countIn_take_le f.params.length f.blocks (k + 1)
      rw [countIn_snoc _ _ _ hk] at h5
      exact absurd (by simp [isIdB, inR]; omega) h2
set_option maxHeartbeats 4000000 in
theorem s_l2Place (f : XFunc) (cs : List Value) (id : Int) (w : World) (hf : KFunc lm w f cs) (hid : id ≤ 9223372036854775807) :
    Calls Tryz.prog 188 #[.agg cs.toArray, .int .i64 id] w (Ret (.tuple #[.int .i64 (placeOf f id).1, .int .i64 (placeOf f id).2]) w) := by
  obtain ⟨v1, v2, rfl, hp, hb⟩ := hf
  have hbd := Hd.mk hb.blocks
  obtain ⟨A1, c1, rfl, -, hl1, -⟩ := hp.sm
  obtain ⟨A2, c2, rfl, hcap, hl2, hb0⟩ := hb.sm
  clear hp hb
  have hbl := fun o => (Below.refl w.heap.size w).al (Nat.le_refl _) o
  have hR := placeOf_two f id
  generalize placeOf f id = R at *
  generalize f.params.length = n at *
  generalize f.blocks = l at *
  generalize f.ret = r at *
  by_cases h0 : id < 0
  · rw [if_pos h0] at hR
    subst hR
    go_enter Tryz.func188, Tryz.ntmps188
    go_wp2
    go_ret2
    exact ⟨rfl, hbl _⟩
  rw [if_neg h0] at hR
  by_cases h1 : id < (n : Int)
  · rw [if_pos h1] at hR
    subst hR
    go_enter Tryz.func188, Tryz.ntmps188
    go_wp2
    go_ret2
    exact ⟨rfl, hbl _⟩
  rw [if_neg h1] at hR
  have hR' := Hd.mk hR
  clear hR
  have e0 : IntKind.i64.wrap (id - (n : Int)) = id - n := IntWalk.i64_in _ (by omega)
  go_enter Tryz.func188, Tryz.ntmps188
  go_wp2
  clear e0
  go_loopw [1, 6] (fun s1 s6 wr => ∃ k : Nat, k ≤ l.length ∧ s6 = .int .i64 k ∧ s1 = .int .i64 (id - countIn n (l.take k)) ∧ Hd (Below (w.heap.size + 1) (w.alloc (.cells #[.slice A1 n c1, .int .i64 r, .slice A2 l.length c2] 35)) wr) ∧ Hd (R = placeIn (l.drop k) k (countIn n (l.take k)) id) ∧ Hd (countIn n (l.take k) ≤ id)) (fun _ s6 _ => l.length - (intOf s6).toNat)
  case atStart => exact ⟨0, Nat.zero_le _, rfl, by simp [countIn], ⟨Below.refl _ _⟩, ⟨by rw [hR'.out]; simp [countIn]⟩, ⟨by simp [countIn]; omega⟩⟩
  case round =>
    obtain ⟨k, hk, rfl, rfl, hbr, hR, hle⟩ := hrel
    have k0 := bat hbr.out w.heap.size (by omega)
    simp at k0
    have hbw : Below w.heap.size w wr := (hbl _).trans (hbr.out.mono (by omega))
    have hc1 := countIn_bd n l k hbd.out hk
    have hc2 := countIn_le n (l.take k)
    by_cases hlt : k < l.length
    · obtain ⟨eb, eo, ecs, hA_, heb, ⟨bv1, bv2, rfl, hr_, hr2_⟩, hat_⟩ := (hb0.out).in0 (hbw) (k) (hlt)
      cases hA_
      have hew := Nat.lt_of_lt_of_le heb (hbw).size
      have g0 := hat_ 0 _ rfl
      have g1 := hat_ 1 _ rfl
      have g2 := hat_ 2 _ rfl
      have g3 := hat_ 3 _ rfl
      have g4 := hat_ 4 _ rfl
      have g5 := hat_ 5 _ rfl
      clear hat_
      simp at g0 g1 g2 g3 g4 g5
      obtain ⟨Ap, cp, rfl, hcp, hlp, hrp⟩ := hr_.sm
      obtain ⟨Ai, ci, rfl, hci, hli, hri⟩ := hr2_.sm
      clear hr_ hr2_
      have hsn := Hd.mk (countIn_snoc n l k hlt)
      have hdr := Hd.mk (placeIn_drop l k hlt (countIn n (l.take k)) id)
      have hsz := Hd.mk (show sizeB l[k] = l[k].phis.length + l[k].insts.length from rfl)
      have hle' := hle.out
      have hltz : (k : Int) < (l.length : Int) := by omega
      have hk0 : (0 : Int) ≤ (k : Int) := by omega
      generalize hs : countIn n (l.take k) = s at *
      obtain ⟨d, hd⟩ : ∃ d : Int, d = id - s := ⟨_, rfl⟩
      rw [← hd]
      have hd0 : 0 ≤ d := by omega
      have hd1 : d ≤ 9223372036854775807 := by omega
      have hd' := Hd.mk hd
      clear hd hs
      generalize l[k] = x at *
      have e1 : IntKind.i64.wrap ((x.phis.length : Int) + (x.insts.length : Int)) = (x.phis.length : Int) + (x.insts.length : Int) := IntWalk.i64_in _ (by omega)
      generalize hp1 : x.phis.length = p1 at *
      generalize hp2 : x.insts.length = p2 at *
      have e2 : IntKind.i64.wrap (d - ((p1 : Int) + (p2 : Int))) = d - ((p1 : Int) + (p2 : Int)) := IntWalk.i64_in _ (by omega)
      clear hp1 hp2
      by_cases hin : d < (p1 : Int) + p2
      · have hR2 := hR.out
        rw [hdr.out, if_pos (by rw [hsz.out]; have := hd'.out; omega)] at hR2
        rw [← hd'.out] at hR2
        subst hR2
        go_wp2
        go_quiet (fail)
        go_wp2
        go_ret2
        exact ⟨rfl, pw_drewN hbw _⟩
      · go_wp2
        go_quiet (fail)
        clear e1
        go_wp2
        go_roundw
        case rel =>
          refine ⟨k + 1, by omega, by go_num, by rw [hsn.out, hsz.out, hd'.out]; congr 1; omega, ⟨pw_drewN hbr.out _⟩, ⟨?_⟩, ⟨?_⟩⟩
          · rw [hR.out, hdr.out, if_neg (by rw [hsz.out]; have := hd'.out; omega), hsn.out]
          · rw [hsn.out, hsz.out]; have := hd'.out; omega
        case measure => simp [intOf]; omega
    · have e : k = l.length := by omega
      subst e
      have hR2 := hR.out
      rw [List.drop_length] at hR2
      have hR3 : R = (-2, 0) := hR2
      subst hR3
      go_wp2
      go_ret2
      exact ⟨rfl, hbw⟩
theorem typeOf_cases (f : XFunc) (id : Int) : (placeOf f id = (-2, 0) ∧ typeOf f id = -1) ∨ (∃ j : Nat, ∃ h : j < f.params.length, id = j ∧ placeOf f id = (-1, id) ∧ typeOf f id = f.params[j]) ∨
    (∃ k, ∃ h : k < f.blocks.length, ∃ j : Nat, ∃ hj : j < f.blocks[k].phis.length, placeOf f id = ((k : Int), (j : Int)) ∧ typeOf f id = f.blocks[k].phis[j].w) ∨
    (∃ k, ∃ h : k < f.blocks.length, ∃ j : Nat, ∃ hj : j < f.blocks[k].insts.length, placeOf f id = ((k : Int), (f.blocks[k].phis.length : Int) + j) ∧ instAt f id = (f.blocks[k].insts[j], true) ∧ typeOf f id = widthOf f.blocks[k].insts[j]) := by
  rcases placeOf_cases f id with ⟨h, -⟩ | ⟨h, h0, h1⟩ | ⟨k, hk, h, h0, h1⟩
  · exact .inl ⟨h, by simp [typeOf, h]⟩
  · refine .inr (.inl ⟨id.toNat, by omega, by omega, h, ?_⟩)
    simp [typeOf, h]
    rw [List.getElem?_eq_getElem (by omega)]; rfl
  · right; right
    obtain ⟨a, ha⟩ : ∃ a : Nat, id - countIn f.params.length (f.blocks.take k) = a := ⟨(id - countIn f.params.length (f.blocks.take k)).toNat, by omega⟩
    rw [ha] at h
    have hs : sizeB f.blocks[k] = f.blocks[k].phis.length + f.blocks[k].insts.length := rfl
    have hb : blkAt f (k : Int) = f.blocks[k] := blkAt_nat f k hk
    by_cases hp : a < f.blocks[k].phis.length
    · refine .inl ⟨k, hk, a, hp, h, ?_⟩
      unfold typeOf
      rw [h]
      simp only [hb]
      rw [if_neg (by first | (simp; done) | (simp; omega)), if_neg (by first | (simp; done) | (simp; omega)), if_pos (by omega)]
      simp [hp]
    · refine .inr ⟨k, hk, a - f.blocks[k].phis.length, by omega, by rw [h]; congr 1; omega, ?_⟩
      have hi : instAt f id = (f.blocks[k].insts[a - f.blocks[k].phis.length]'(by omega), true) := by
        unfold instAt
        rw [h]
        simp only [Int.toNat_natCast]
        rw [if_neg (by omega), show f.blocks.getD k block0 = f.blocks[k] by simp [hk], if_neg (by omega)]
        rw [show ((a : Int) - (f.blocks[k].phis.length : Int)).toNat = a - f.blocks[k].phis.length by omega]
        simp [show a - f.blocks[k].phis.length < f.blocks[k].insts.length by omega]
      refine ⟨hi, ?_⟩
      unfold typeOf
      rw [h]
      simp only [hb]
      rw [if_neg (by first | (simp; done) | (simp; omega)), if_neg (by first | (simp; done) | (simp; omega)), if_neg (by omega), hi]
set_option maxHeartbeats 4000000 in
theorem c_TypeOf (f : XFunc) (cs : List Value) (id : Int) (w : World) (hf : KFunc lm w f cs) (hc : countOf f ≤ 1099511627776) : Calls Tryz.prog 142 #[.agg cs.toArray, .int .i64 id] w (Ret (.int .i64 (typeOf f id)) w) := by
  have hpl := fun W hW => c_PlaceOf f cs id W (KM.mv hf hW) hc
  have hin := fun W hW => c_instOf f cs id W (KM.mv hf hW) hc
  obtain ⟨v1, v2, rfl, hp, hb⟩ := hf
  obtain ⟨A1, c1, rfl, -, hl1, hp0⟩ := hp.sm
  obtain ⟨A2, c2, rfl, -, hl2, hb0⟩ := hb.sm
  have hbl := fun o => (Below.refl w.heap.size w).al (Nat.le_refl _) o
  clear hp hb
  have hcs := typeOf_cases f id
  generalize typeOf f id = R at *
  rcases hcs with ⟨h, hR⟩ | ⟨j, hj, hid, h, hR⟩ | ⟨k, hk, j, hj, h, hR⟩ | ⟨k, hk, j, hj, h, hi, hR⟩
  · rw [h] at hpl
    subst hR
    clear hin h
    go_enter Tryz.func142, Tryz.ntmps142
    go_wp2_with fail
    refine (hpl _ (hbl _)).mono ?_; rintro e w1 ⟨rfl, hb1⟩
    go_wp2
    go_ret
    exact ⟨rfl, (hbl _).then hb1⟩
  · rw [h] at hpl
    subst hid
    clear hin h
    go_enter Tryz.func142, Tryz.ntmps142
    go_wp2_with fail
    refine (hpl _ (hbl _)).mono ?_; rintro e w1 ⟨rfl, hb1⟩
    have k0 := bat hb1 w.heap.size (by simp)
    simp at k0
    obtain ⟨eb, eo, ecs, hA_, heb, hk_, hat_⟩ := (hp0.out).in0 ((hbl _).then hb1) (j) (hj)
    cases hA_
    cases hk_
    have hew := Nat.lt_of_lt_of_le heb ((hbl _).then hb1).size
    have g0 := hat_ 0 _ rfl
    clear hat_
    simp at g0
    have hjl : (j : Int) < (f.params.length : Int) := by omega
    have hj0 : (0 : Int) ≤ (j : Int) := by omega
    rw [← hR] at g0
    clear hR
    go_wp2
    go_ret
    exact ⟨rfl, (hbl _).then hb1⟩
  · rw [h] at hpl
    clear hin h
    go_enter Tryz.func142, Tryz.ntmps142
    go_wp2_with fail
    refine (hpl _ (hbl _)).mono ?_; rintro e w1 ⟨rfl, hb1⟩
    have k0 := bat hb1 w.heap.size (by simp)
    have hz1 := hb1.size
    simp at k0 hz1
    obtain ⟨eb, eo, ecs, hA_, heb, ⟨bv1, bv2, rfl, hr_, hr2_⟩, hat_⟩ := (hb0.out).in0 ((hbl _).then hb1) (k) (hk)
    cases hA_
    have hew := Nat.lt_of_lt_of_le heb ((hbl _).then hb1).size
    have g0 := hat_ 0 _ rfl
    have g1 := hat_ 1 _ rfl
    have g2 := hat_ 2 _ rfl
    have g3 := hat_ 3 _ rfl
    have g4 := hat_ 4 _ rfl
    have g5 := hat_ 5 _ rfl
    clear hat_
    simp at g0 g1 g2 g3 g4 g5
    obtain ⟨Ap, cp, rfl, hcp, hlp, hrp⟩ := hr_.sm
    obtain ⟨Ai, ci, rfl, hci, hli, hri⟩ := hr2_.sm
    clear hr_ hr2_
    have hkl : (k : Int) < (f.blocks.length : Int) := by omega
    have hk0 : (0 : Int) ≤ (k : Int) := by omega
    generalize f.blocks[k] = x at *
    have q0 := g0
    clear g0 g1 g2 g3 g4 g5
    have heb1 := heb
    clear heb
    obtain ⟨eb, eo, ecs, hA_, heb, ⟨pv1, rfl, hr_⟩, hat_⟩ := (hrp.out).in0 ((hbl _).then hb1) (j) (hj)
    cases hA_
    have hew := Nat.lt_of_lt_of_le heb ((hbl _).then hb1).size
    have g0 := hat_ 0 _ rfl
    have g1 := hat_ 1 _ rfl
    clear hat_
    simp at g0 g1
    obtain ⟨Ax, cx, rfl, hcx, hlx, hrx⟩ := hr_.sm
    clear hr_
    have hjl : (j : Int) < (x.phis.length : Int) := by omega
    have hj0 : (0 : Int) ≤ (j : Int) := by omega
    rw [← hR] at g0
    clear hR
    have d1 : ((k : Int) == -2) = false := (by first | (simp; done) | (simp; omega))
    have d2 : ((k : Int) == -1) = false := (by first | (simp; done) | (simp; omega))
    go_wp2
    go_ret
    exact ⟨rfl, (hbl _).then hb1⟩
  · rw [h] at hpl
    unfold RetInst at hin
    rw [hi] at hin
    clear h hi
    go_enter Tryz.func142, Tryz.ntmps142
    go_wp2_with fail
    refine (hpl _ (hbl _)).mono ?_; rintro e w1 ⟨rfl, hb1⟩
    have k0 := bat hb1 w.heap.size (by simp)
    have hz1 := hb1.size
    simp at k0 hz1
    obtain ⟨eb, eo, ecs, hA_, heb, ⟨bv1, bv2, rfl, hr_, hr2_⟩, hat_⟩ := (hb0.out).in0 ((hbl _).then hb1) (k) (hk)
    cases hA_
    have hew := Nat.lt_of_lt_of_le heb ((hbl _).then hb1).size
    have g0 := hat_ 0 _ rfl
    have g1 := hat_ 1 _ rfl
    have g2 := hat_ 2 _ rfl
    have g3 := hat_ 3 _ rfl
    have g4 := hat_ 4 _ rfl
    have g5 := hat_ 5 _ rfl
    clear hat_
    simp at g0 g1 g2 g3 g4 g5
    obtain ⟨Ap, cp, rfl, hcp, hlp, hrp⟩ := hr_.sm
    obtain ⟨Ai, ci, rfl, hci, hli, hri⟩ := hr2_.sm
    clear hr_ hr2_
    have hkl : (k : Int) < (f.blocks.length : Int) := by omega
    have hk0 : (0 : Int) ≤ (k : Int) := by omega
    generalize f.blocks[k] = x at *
    have d1 : ((k : Int) == -2) = false := (by first | (simp; done) | (simp; omega))
    have d2 : ((k : Int) == -1) = false := (by first | (simp; done) | (simp; omega))
    have d3 : decide ((x.phis.length : Int) + (j : Int) < (x.phis.length : Int)) = false := (by first | (simp; done) | (simp; omega))
    have hj' : j < x.insts.length := hj
    generalize x.insts[j] = i at *
    go_wp2_with fail
    refine (hin _ ((hbl _).then hb1)).mono ?_; rintro e w2 ⟨cs2, rfl, hk2, hb2⟩
    obtain ⟨v5, rfl, hr5⟩ := hk2
    obtain ⟨A5, c5, rfl, -, -, -⟩ := hr5.sm
    have hwd := fun W => c_widthOf i (.slice A5 i.args.length c5) W
    clear hr5
    obtain ⟨op, wd, a, b, c, imm, args⟩ := i
    simp only at *
    have hz2 := hb2.size
    go_wp2_with fail
    refine (hwd _).mono ?_; rintro e w3 ⟨rfl, hb3⟩
    go_wp2
    go_ret
    exact ⟨by rw [hR]; first | done | rfl, (((hbl _).then hb1).then hb2).then (((Below.refl w2.heap.size w2).al (Nat.le_refl _) _).then hb3)⟩
set_option maxHeartbeats 4000000 in
theorem s_TypeOf (f : XFunc) (cs : List Value) (id : Int) (w : World) (hf : KFunc lm w f cs) (hid : id ≤ 9223372036854775807) (hz : ∀ b ∈ f.blocks, ∀ i ∈ b.insts, (i.op = 24 ∨ i.op = 25) → i.w = 0) : Calls Tryz.prog 149 #[.agg cs.toArray, .int .i64 id] w (Ret (.int .i64 (typeOf f id)) w) := by
  have hpl := fun W hW => s_l2Place f cs id W (KM.mv hf hW) hid
  obtain ⟨v1, v2, rfl, hp, hb⟩ := hf
  obtain ⟨A1, c1, rfl, -, hl1, hp0⟩ := hp.sm
  obtain ⟨A2, c2, rfl, -, hl2, hb0⟩ := hb.sm
  have hbl := fun o => (Below.refl w.heap.size w).al (Nat.le_refl _) o
  clear hp hb
  have hcs := typeOf_cases f id
  generalize typeOf f id = R at *
  rcases hcs with ⟨h, hR⟩ | ⟨j, hj, hid, h, hR⟩ | ⟨k, hk, j, hj, h, hR⟩ | ⟨k, hk, j, hj, h, hi, hR⟩
  · rw [h] at hpl
    subst hR
    clear h hz
    go_enter Tryz.func149, Tryz.ntmps149
    go_wp2_with fail
    refine (hpl _ (hbl _)).mono ?_; rintro e w1 ⟨rfl, hb1⟩
    go_wp2
    go_ret
    exact ⟨rfl, (hbl _).then hb1⟩
  · rw [h] at hpl
    subst hid
    clear h hz
    go_enter Tryz.func149, Tryz.ntmps149
    go_wp2_with fail
    refine (hpl _ (hbl _)).mono ?_; rintro e w1 ⟨rfl, hb1⟩
    have k0 := bat hb1 w.heap.size (by simp)
    simp at k0
    obtain ⟨eb, eo, ecs, hA_, heb, hk_, hat_⟩ := (hp0.out).in0 ((hbl _).then hb1) (j) (hj)
    cases hA_
    cases hk_
    have hew := Nat.lt_of_lt_of_le heb ((hbl _).then hb1).size
    have g0 := hat_ 0 _ rfl
    clear hat_
    simp at g0
    have hjl : (j : Int) < (f.params.length : Int) := by omega
    have hj0 : (0 : Int) ≤ (j : Int) := by omega
    rw [← hR] at g0
    clear hR
    go_wp2
    go_ret
    exact ⟨rfl, (hbl _).then hb1⟩
  · rw [h] at hpl
    clear h hz
    go_enter Tryz.func149, Tryz.ntmps149
    go_wp2_with fail
    refine (hpl _ (hbl _)).mono ?_; rintro e w1 ⟨rfl, hb1⟩
    have k0 := bat hb1 w.heap.size (by simp)
    have hz1 := hb1.size
    simp at k0 hz1
    obtain ⟨eb, eo, ecs, hA_, heb, ⟨bv1, bv2, rfl, hr_, hr2_⟩, hat_⟩ := (hb0.out).in0 ((hbl _).then hb1) (k) (hk)
    cases hA_
    have hew := Nat.lt_of_lt_of_le heb ((hbl _).then hb1).size
    have g0 := hat_ 0 _ rfl
    have g1 := hat_ 1 _ rfl
    have g2 := hat_ 2 _ rfl
    have g3 := hat_ 3 _ rfl
    have g4 := hat_ 4 _ rfl
    have g5 := hat_ 5 _ rfl
    clear hat_
    simp at g0 g1 g2 g3 g4 g5
    obtain ⟨Ap, cp, rfl, hcp, hlp, hrp⟩ := hr_.sm
    obtain ⟨Ai, ci, rfl, hci, hli, hri⟩ := hr2_.sm
    clear hr_ hr2_
    have hkl : (k : Int) < (f.blocks.length : Int) := by omega
    have hk0 : (0 : Int) ≤ (k : Int) := by omega
    generalize f.blocks[k] = x at *
    have q0 := g0
    have q1 := g1
    have q2 := g2
    have q3 := g3
    have q4 := g4
    have q5 := g5
    clear g0 g1 g2 g3 g4 g5
    have heb1 := heb
    clear heb
    obtain ⟨eb, eo, ecs, hA_, heb, ⟨pv1, rfl, hr_⟩, hat_⟩ := (hrp.out).in0 ((hbl _).then hb1) (j) (hj)
    cases hA_
    have hew := Nat.lt_of_lt_of_le heb ((hbl _).then hb1).size
    have g0 := hat_ 0 _ rfl
    have g1 := hat_ 1 _ rfl
    clear hat_
    simp at g0 g1
    obtain ⟨Ax, cx, rfl, hcx, hlx, hrx⟩ := hr_.sm
    clear hr_
    have hjl : (j : Int) < (x.phis.length : Int) := by omega
    have hj0 : (0 : Int) ≤ (j : Int) := by omega
    rw [← hR] at g0
    clear hR
    have d1 : ((k : Int) == -2) = false := (by first | (simp; done) | (simp; omega))
    have d2 : ((k : Int) == -1) = false := (by first | (simp; done) | (simp; omega))
    go_wp2
    go_ret
    exact ⟨rfl, ((hbl _).then hb1).then ((Below.refl w1.heap.size w1).al (Nat.le_refl _) _)⟩
  · rw [h] at hpl
    have hw0 := hz _ (List.getElem_mem hk) _ (List.getElem_mem hj)
    clear h hi hz
    go_enter Tryz.func149, Tryz.ntmps149
    go_wp2_with fail
    refine (hpl _ (hbl _)).mono ?_; rintro e w1 ⟨rfl, hb1⟩
    have k0 := bat hb1 w.heap.size (by simp)
    have hz1 := hb1.size
    simp at k0 hz1
    obtain ⟨eb, eo, ecs, hA_, heb, ⟨bv1, bv2, rfl, hr_, hr2_⟩, hat_⟩ := (hb0.out).in0 ((hbl _).then hb1) (k) (hk)
    cases hA_
    have hew := Nat.lt_of_lt_of_le heb ((hbl _).then hb1).size
    have g0 := hat_ 0 _ rfl
    have g1 := hat_ 1 _ rfl
    have g2 := hat_ 2 _ rfl
    have g3 := hat_ 3 _ rfl
    have g4 := hat_ 4 _ rfl
    have g5 := hat_ 5 _ rfl
    clear hat_
    simp at g0 g1 g2 g3 g4 g5
    obtain ⟨Ap, cp, rfl, hcp, hlp, hrp⟩ := hr_.sm
    obtain ⟨Ai, ci, rfl, hci, hli, hri⟩ := hr2_.sm
    clear hr_ hr2_
    have hkl : (k : Int) < (f.blocks.length : Int) := by omega
    have hk0 : (0 : Int) ≤ (k : Int) := by omega
    generalize f.blocks[k] = x at *
    have d1 : ((k : Int) == -2) = false := (by first | (simp; done) | (simp; omega))
    have d2 : ((k : Int) == -1) = false := (by first | (simp; done) | (simp; omega))
    have d3 : decide ((x.phis.length : Int) + (j : Int) < (x.phis.length : Int)) = false := (by first | (simp; done) | (simp; omega))
    have e1 : IntKind.i64.wrap ((x.phis.length : Int) + (j : Int) - (x.phis.length : Int)) = (j : Int) := by rw [show (x.phis.length : Int) + (j : Int) - (x.phis.length : Int) = (j : Int) by omega]; exact IntWalk.i64_in _ (by omega)
    have hj' : j < x.insts.length := hj
    have q0 := g0
    have q1 := g1
    have q2 := g2
    have q3 := g3
    have q4 := g4
    have q5 := g5
    clear g0 g1 g2 g3 g4 g5
    have heb1 := heb
    clear heb
    obtain ⟨eb, eo, ecs, hA_, heb, ⟨iv1, rfl, hr_⟩, hat_⟩ := (hri.out).in0 ((hbl _).then hb1) (j) (hj)
    cases hA_
    have hew := Nat.lt_of_lt_of_le heb ((hbl _).then hb1).size
    have g0 := hat_ 0 _ rfl
    have g1 := hat_ 1 _ rfl
    have g2 := hat_ 2 _ rfl
    have g3 := hat_ 3 _ rfl
    have g4 := hat_ 4 _ rfl
    have g5 := hat_ 5 _ rfl
    have g6 := hat_ 6 _ rfl
    clear hat_
    simp at g0 g1 g2 g3 g4 g5 g6
    obtain ⟨Aa, ca, rfl, hca, hla, hra⟩ := hr_.sm
    clear hr_
    have hjl : (j : Int) < (x.insts.length : Int) := by omega
    have hj0 : (0 : Int) ≤ (j : Int) := by omega
    generalize x.insts[j] = i at *
    have hwd := fun W => s_l2Width i (.slice Aa i.args.length ca) W hw0
    obtain ⟨op, wd, a, b, c, imm, args⟩ := i
    simp only at *
    go_wp2_with fail
    refine (hwd _).mono ?_; rintro e w3 ⟨rfl, hb3⟩
    go_wp2
    go_ret
    exact ⟨by rw [hR]; first | done | rfl, ((hbl _).then hb1).then (((Below.refl w1.heap.size w1).al (Nat.le_refl _) _).then hb3)⟩
theorem while_at {α : Type} (p : α → Bool) (l : List α) (k : Nat) (hk : k ≤ l.length) (h : ∀ j (hj : j < l.length), j < k → p l[j] = true) (he : k = l.length ∨ ∃ hl : k < l.length, p l[k] = false) : l.takeWhile p = l.take k ∧ l.dropWhile p = l.drop k := by
  induction l generalizing k with
  | nil => simp
  | cons x r ih =>
    cases k with
    | zero =>
      rcases he with he | ⟨hl, he⟩
      · simp at he
      · simp at he; simp [he]
    | succ k =>
      have h0 := h 0 (by simp) (by omega)
      simp at h0
      have := ih k (by simpa using hk) (fun j hj hjk => by have := h (j + 1) (by simp; omega) (by omega); simpa using this) (by
        rcases he with he | ⟨hl, he⟩
        · exact .inl (by simpa using he)
        · exact .inr ⟨by simpa using hl, by simpa using he⟩)
      simp [h0, this.1, this.2]
theorem Rd.take {w : World} {A : Option Addr} {n c : Nat} {xs : List Int} (h : RI lm w (.slice A n c) xs) (k : Nat) (hk : k ≤ xs.length) (c' : Nat) (hc : k ≤ c') (hz : A = none → c' = 0) : RI lm w (.slice A k c') (xs.take k) := by
  obtain ⟨A', c0, hv, h1, h2, h3, h4⟩ := h
  cases hv
  have hl : (xs.take k).length = k := by simp; omega
  refine ⟨A, c', by rw [hl], by rw [hl]; exact hc, by rw [hl]; exact Nat.le_trans hk h2, hz, fun h0 => ?_⟩
  obtain ⟨b, off, e, hb, hat⟩ := h4 (by omega)
  refine ⟨b, off, e, hb, fun i hi => ?_⟩
  rw [List.getElem_take]
  exact hat i (by omega)
theorem Rd.drop {w : World} {b off n c : Nat} {xs : List Int} (h : RI lm w (.slice (some ⟨b, off, none⟩) n c) xs) (k : Nat) (hk : k ≤ xs.length) (c' m : Nat) (hm : m = xs.length - k) (hc : xs.length - k ≤ c') : RI lm w (.slice (some ⟨b, off + k, none⟩) m c') (xs.drop k) := by
  obtain ⟨A', c0, hv, h1, h2, h3, h4⟩ := h
  cases hv
  subst hm
  have hl : (xs.drop k).length = xs.length - k := by simp
  refine ⟨some ⟨b, off + k, none⟩, c', by rw [hl], by rw [hl]; exact hc, by rw [hl]; omega, (fun h => by cases h), fun h0 => ?_⟩
  obtain ⟨b', off', e, hb, hat⟩ := h4 (by omega)
  cases e
  refine ⟨b, off + k, rfl, hb, fun i hi => ?_⟩
  obtain ⟨cs, h5, h6, h7⟩ := hat (k + i) (by omega)
  rw [List.getElem_drop]
  refine ⟨cs, h5, h6, fun j hj => ?_⟩
  have := h7 j hj
  rw [show off + (k + i) * 1 + j = off + k + i * 1 + j by omega] at this
  exact this
theorem rd0 (W : World) (A : Option Addr) (c : Nat) (h : A = none → c = 0) : RI lm W (.slice A 0 c) [] := ⟨A, c, rfl, Nat.zero_le _, Nat.zero_le _, h, fun h => absurd h (by simp)⟩
set_option maxHeartbeats 4000000 in
set_option maxRecDepth 20000 in
theorem s_l1Put (v : Value) (xs : List Int) (x : Int) (w : World) (hv : RI lm w v xs) (hn : hasI xs x = false) (hl : xs.length ≤ 1000000) : Calls Tryz.prog 190 #[v, .int .i64 x] w (RetI (putS xs x) w) := by
  obtain ⟨A, c, rfl, h1, h2, hv0⟩ := hv.sm
  have hv1 := hv
  clear hv
  generalize hR : putS xs x = R
  have hR' := Hd.mk hR
  clear hR
  unfold putS at hR'
  go_enter Tryz.func190, Tryz.ntmps190
  go_wp2
  go_loopw [5] (fun s5 wr => ∃ k : Nat, k ≤ xs.length ∧ s5 = .int .i64 k ∧ wr = w ∧ Hd (∀ j (hj : j < xs.length), j < k → decide (xs[j] < x) = true)) (fun s5 _ => xs.length - (intOf s5).toNat)
  case atStart => exact ⟨0, Nat.zero_le _, rfl, rfl, ⟨fun j _ h => absurd h (Nat.not_lt_zero _)⟩⟩
  case round =>
    obtain ⟨k, hk, rfl, rfl, hn'⟩ := hrel
    by_cases hlt : k < xs.length
    · obtain ⟨eb, eo, ecs, hA_, heb, hk_, hat_⟩ := (hv0.out).in0 (Below.refl wr.heap.size wr) (k) (hlt)
      cases hA_
      cases hk_
      have hew := Nat.lt_of_lt_of_le heb (Below.refl wr.heap.size wr).size
      have g0 := hat_ 0 _ rfl
      clear hat_
      simp at g0
      have hne : ¬ xs[k] = x := fun e => by
        have : hasI xs x = true := (hasI_iff xs x).2 (by rw [← e]; exact List.getElem_mem hlt)
        rw [hn] at this; cases this
      have hwh := fun he => Hd.mk (while_at (fun y => decide (y < x)) xs k hk hn'.out he)
      have hnx := fun (h : decide (xs[k] < x) = true) => Hd.mk (fun j (hj : j < xs.length) (hjk : j < k + 1) => show decide (xs[j] < x) = true by
        by_cases e : j = k
        · subst e; exact h
        · exact hn'.out j hj (by omega))
      by_cases hq : xs[k] < x
      · have hq2 : decide (xs[k] < x) = true := by simpa using hq
        have hnx2 := hnx hq2
        generalize xs[k] = y at *
        clear hwh hnx hq
        go_wp2
        go_roundw
        case rel => exact ⟨k + 1, by omega, by go_num, by trivial, hnx2⟩
        case measure => simp [intOf]; omega
      · have hq2 : decide (xs[k] < x) = false := by simpa using hq
        have hq3 : (xs[k] == x) = false := by simpa using hne
        have hwh2 := hwh (.inr ⟨hlt, by simpa using hq⟩)
        generalize xs[k] = y at *
        clear hwh hnx hq hne
        have y1 : (k : Int) ≤ (c : Int) := by omega
        have y2 : k ≤ c := by omega
        have y3 : (0 : Int) ≤ (k : Int) := by omega
        have y4 : k ≤ xs.length := by omega
        have y5 : xs.length ≤ c := h1
        have hbl := Hd.mk fun (o : Obj) => (Below.refl wr.heap.size wr).al (Nat.le_refl _) o
        have hv1' := Hd.mk hv1
        clear hv1 hn'
        go_wp2_with (first
          | (at_builtin
             refine app_I rfl _ _ rfl wr.heap.size _ [] (xs.take k) rfl (own_empty _ _ _ _ _ rfl (Nat.le_refl _)) (some ⟨eb, eo, none⟩) k c rfl (Rd.take (hv1'.out.mv (hbl.out _)) k y4 c y2 (fun h => by cases h)) (by simp) (by simp) ?_
             intro va w1 ho1 hg1
             have hB1 := Hd.mk (below_app (hbl.out (.cells #[] 2)) hg1 (by simp) (own_empty wr wr.heap.size wr.heap.size 2 1 rfl (Nat.le_refl _)) (Nat.le_refl _))
             have ho1' := Hd.mk ho1
             have hz1 := hB1.out.size
             have hal1 := Hd.mk fun (o : Obj) => (Below.refl w1.heap.size w1).al (Nat.le_refl _) o
             clear ho1 hg1)
          | (at_builtin
             refine app_I rfl _ _ rfl wr.heap.size _ ([] ++ xs.take k) [x] rfl (own_mv ho1'.out (hal1.out _)) _ 1 1 rfl (rd_one _ _) (by simp; omega) (by simp; omega) ?_
             intro vb w2 ho2 hg2
             have hB2 := Hd.mk (below_app (hB1.out.then (hal1.out (.cells #[.int .i64 x] 2))) hg2 (by simp; omega) (own_mv ho1'.out (hal1.out _)) (Nat.le_refl _))
             have ho2' := Hd.mk ho2
             have hz2 := hB2.out.size
             clear ho2 hg2)
          | (at_builtin
             refine app_I rfl _ _ rfl wr.heap.size _ (([] ++ xs.take k) ++ [x]) (xs.drop k) rfl ho2'.out (some ⟨eb, eo + k, none⟩) (xs.length - k) (c - k) rfl (Rd.drop (hv1'.out.mv hB2.out) k y4 (c - k) (xs.length - k) rfl (by omega)) (by simp; omega) (by omega) ?_
             intro vc w3 ho3 hg3
             have hB3 := Hd.mk (below_app hB2.out hg3 (by omega) ho2'.out (Nat.le_refl _))
             have ho3' := Hd.mk ho3
             clear ho3 hg3))
        go_ret
        refine ⟨_, rfl, ?_, hB3.out⟩
        have := ho3'.out
        rw [← hR'.out, hwh2.out.1, hwh2.out.2]
        simpa using this
    · have e : k = xs.length := by omega
      subst e
      have hwh2 := Hd.mk (while_at (fun y => decide (y < x)) xs xs.length hk hn'.out (.inl rfl))
      have y2 : xs.length ≤ c := h1
      have y1 : (xs.length : Int) ≤ (c : Int) := by omega
      have hbl := Hd.mk fun (o : Obj) => (Below.refl wr.heap.size wr).al (Nat.le_refl _) o
      have hv1' := Hd.mk hv1
      have hAc : A = none → c = 0 := by
        obtain ⟨A', c0, hv, _, _, h3, _⟩ := hv1
        cases hv; exact h3
      have hAc' := Hd.mk hAc
      clear hv1 hn' hAc
      cases A with
      | none =>
        obtain rfl := hAc'.out rfl
        have hx0 : xs = [] := (hv1'.out.src).2.2.1 rfl
        clear y1 y2 hAc'
        subst hx0
        go_wp2_with (first
          | (at_builtin
             refine app_I rfl _ _ rfl wr.heap.size _ [] ([] : List Int) rfl (own_empty _ _ _ _ _ rfl (Nat.le_refl _)) none 0 0 rfl (hv1'.out.mv (hbl.out _)) (by first | omega | (simp; done) | (simp; omega)) (by first | omega | (simp; done) | (simp; omega)) ?_
             intro va w1 ho1 hg1
             have hB1 := Hd.mk (below_app (hbl.out (.cells #[] 2)) hg1 (by first | omega | (simp; done) | (simp; omega)) (own_empty wr wr.heap.size wr.heap.size 2 1 rfl (Nat.le_refl _)) (Nat.le_refl _))
             have ho1' := Hd.mk ho1
             have hz1 := hB1.out.size
             have hal1 := Hd.mk fun (o : Obj) => (Below.refl w1.heap.size w1).al (Nat.le_refl _) o
             clear ho1 hg1)
          | (at_builtin
             refine app_I rfl _ _ rfl wr.heap.size _ ([] ++ ([] : List Int)) [x] rfl (own_mv ho1'.out (hal1.out _)) _ 1 1 rfl (rd_one _ _) (by first | omega | (simp; done) | (simp; omega)) (by first | omega | (simp; done) | (simp; omega)) ?_
             intro vb w2 ho2 hg2
             have hB2 := Hd.mk (below_app (hB1.out.then (hal1.out (.cells #[.int .i64 x] 2))) hg2 (by first | omega | (simp; done) | (simp; omega)) (own_mv ho1'.out (hal1.out _)) (Nat.le_refl _))
             have ho2' := Hd.mk ho2
             have hz2 := hB2.out.size
             clear ho2 hg2)
          | (at_builtin
             refine app_I rfl _ _ rfl wr.heap.size _ (([] ++ ([] : List Int)) ++ [x]) [] rfl ho2'.out none 0 0 rfl (rd0 _ _ _ (fun _ => rfl)) (by first | omega | (simp; done) | (simp; omega)) (by first | omega | (simp; done) | (simp; omega)) ?_
             intro vc w3 ho3 hg3
             have hB3 := Hd.mk (below_app hB2.out hg3 (by first | omega | (simp; done) | (simp; omega)) ho2'.out (Nat.le_refl _))
             have ho3' := Hd.mk ho3
             clear ho3 hg3))
        go_ret
        refine ⟨_, rfl, ?_, hB3.out⟩
        have := ho3'.out
        rw [← hR'.out, hwh2.out.1, hwh2.out.2]
        simpa using this
      | some ad =>
        by_cases hcc : c = xs.length
        · subst hcc
          go_wp2_with (first
            | (at_builtin
               refine app_I rfl _ _ rfl wr.heap.size _ [] xs rfl (own_empty _ _ _ _ _ rfl (Nat.le_refl _)) (some ad) xs.length xs.length rfl (hv1'.out.mv (hbl.out _)) (by first | omega | (simp; done) | (simp; omega)) (by first | omega | (simp; done) | (simp; omega)) ?_
               intro va w1 ho1 hg1
               have hB1 := Hd.mk (below_app (hbl.out (.cells #[] 2)) hg1 (by first | omega | (simp; done) | (simp; omega)) (own_empty wr wr.heap.size wr.heap.size 2 1 rfl (Nat.le_refl _)) (Nat.le_refl _))
               have ho1' := Hd.mk ho1
               have hz1 := hB1.out.size
               have hal1 := Hd.mk fun (o : Obj) => (Below.refl w1.heap.size w1).al (Nat.le_refl _) o
               clear ho1 hg1)
            | (at_builtin
               refine app_I rfl _ _ rfl wr.heap.size _ ([] ++ xs) [x] rfl (own_mv ho1'.out (hal1.out _)) _ 1 1 rfl (rd_one _ _) (by first | omega | (simp; done) | (simp; omega)) (by first | omega | (simp; done) | (simp; omega)) ?_
               intro vb w2 ho2 hg2
               have hB2 := Hd.mk (below_app (hB1.out.then (hal1.out (.cells #[.int .i64 x] 2))) hg2 (by first | omega | (simp; done) | (simp; omega)) (own_mv ho1'.out (hal1.out _)) (Nat.le_refl _))
               have ho2' := Hd.mk ho2
               have hz2 := hB2.out.size
               clear ho2 hg2)
            | (at_builtin
               refine app_I rfl _ _ rfl wr.heap.size _ (([] ++ xs) ++ [x]) [] rfl ho2'.out (some ad) 0 0 rfl (rd0 _ _ _ (fun h => by cases h)) (by first | omega | (simp; done) | (simp; omega)) (by first | omega | (simp; done) | (simp; omega)) ?_
               intro vc w3 ho3 hg3
               have hB3 := Hd.mk (below_app hB2.out hg3 (by first | omega | (simp; done) | (simp; omega)) ho2'.out (Nat.le_refl _))
               have ho3' := Hd.mk ho3
               clear ho3 hg3))
          go_ret
          refine ⟨_, rfl, ?_, hB3.out⟩
          have := ho3'.out
          rw [← hR'.out, hwh2.out.1, hwh2.out.2]
          simpa using this
        · have hc2 : 0 < c - xs.length := by omega
          go_wp2_with (first
            | (at_builtin
               refine app_I rfl _ _ rfl wr.heap.size _ [] xs rfl (own_empty _ _ _ _ _ rfl (Nat.le_refl _)) (some ad) xs.length c rfl (hv1'.out.mv (hbl.out _)) (by first | omega | (simp; done) | (simp; omega)) (by first | omega | (simp; done) | (simp; omega)) ?_
               intro va w1 ho1 hg1
               have hB1 := Hd.mk (below_app (hbl.out (.cells #[] 2)) hg1 (by first | omega | (simp; done) | (simp; omega)) (own_empty wr wr.heap.size wr.heap.size 2 1 rfl (Nat.le_refl _)) (Nat.le_refl _))
               have ho1' := Hd.mk ho1
               have hz1 := hB1.out.size
               have hal1 := Hd.mk fun (o : Obj) => (Below.refl w1.heap.size w1).al (Nat.le_refl _) o
               clear ho1 hg1)
            | (at_builtin
               refine app_I rfl _ _ rfl wr.heap.size _ ([] ++ xs) [x] rfl (own_mv ho1'.out (hal1.out _)) _ 1 1 rfl (rd_one _ _) (by first | omega | (simp; done) | (simp; omega)) (by first | omega | (simp; done) | (simp; omega)) ?_
               intro vb w2 ho2 hg2
               have hB2 := Hd.mk (below_app (hB1.out.then (hal1.out (.cells #[.int .i64 x] 2))) hg2 (by first | omega | (simp; done) | (simp; omega)) (own_mv ho1'.out (hal1.out _)) (Nat.le_refl _))
               have ho2' := Hd.mk ho2
               have hz2 := hB2.out.size
               clear ho2 hg2)
            | (at_builtin
               refine app_I rfl _ _ rfl wr.heap.size _ (([] ++ xs) ++ [x]) [] rfl ho2'.out (some (ad.add xs.length)) 0 (c - xs.length) rfl (rd0 _ _ _ (fun h => by cases h)) (by first | omega | (simp; done) | (simp; omega)) (by first | omega | (simp; done) | (simp; omega)) ?_
               intro vc w3 ho3 hg3
               have hB3 := Hd.mk (below_app hB2.out hg3 (by first | omega | (simp; done) | (simp; omega)) ho2'.out (Nat.le_refl _))
               have ho3' := Hd.mk ho3
               clear ho3 hg3))
          go_ret
          refine ⟨_, rfl, ?_, hB3.out⟩
          have := ho3'.out
          rw [← hR'.out, hwh2.out.1, hwh2.out.2]
          simpa using this
def Que (base : Nat) (W : World) (v : Value) (xs : List Int) : Prop := ∃ g off cap, v = .slice (some ⟨g, off, none⟩) xs.length cap ∧ base ≤ g ∧ g < W.heap.size ∧ xs.length ≤ cap ∧ cap ≤ maxLen ∧
  (∀ j, j < cap → (W.cell? ⟨g, off + j, none⟩).isSome = true ∧ W.frozen? ⟨g, off + j, none⟩ = false) ∧ ∀ i (h : i < xs.length), W.cell? ⟨g, off + i, none⟩ = some (.int .i64 xs[i])
theorem Que.mv {base : Nat} {W W' : World} {v : Value} {xs : List Int} (h : Que base W v xs) (hb : Below W.heap.size W W') : Que base W' v xs := by
  obtain ⟨g, off, cap, h1, h2, h3, h4, h5, h6, h7⟩ := h
  exact ⟨g, off, cap, h1, h2, Nat.lt_of_lt_of_le h3 hb.size, h4, h5, fun j hj => by rw [bat hb g h3, fat hb g h3]; exact h6 j hj, fun i hi => (bat hb g h3 _).trans (h7 i hi)⟩
theorem below_setCells {B b : Nat} (hb : B ≤ b) {a : World} : ∀ (vs : List Value) (o : Nat) (w : World), Below B a w → Below B a (w.setCells b o vs)
  | [], _, _, h => h
  | v :: r, o, w, h => below_setCells hb r (o + 1) _ (h.setCell (p := ⟨b, o, none⟩) hb v)
theorem size_setCells (b : Nat) : ∀ (vs : List Value) (o : Nat) (w : World), (w.setCells b o vs).heap.size = w.heap.size
  | [], _, _ => rfl
  | v :: r, o, w => by rw [World.setCells, size_setCells b r]; simp [World.setCell]
theorem que_append {base : Nat} {W : World} {v : Value} {xs : List Int} (ty : TypeId) (h : Que base W v xs) (A : Option Addr) (n c : Nat) (ys : List Int) (hr : RI lm W (.slice A n c) ys) (hl : xs.length ≤ 1048576) (hb : base ≤ W.heap.size) :
    ∃ v' w', (Builtin.append_ #[24, 24] ty #[v, .slice A n c]).run Tryz.prog W = .ok v' w' ∧ Que base w' v' (xs ++ ys) ∧ Below base W w' := by
  obtain ⟨i0, hi, hz0, hz1, hz2⟩ := info_parts infoI
  obtain ⟨rfl, hle, hn, hsrc⟩ := hr.src
  obtain ⟨g, off, cap, rfl, h2, h3, h4, h5, h6, h7⟩ := h
  have hs : Src Tryz.prog i0.size 24 (.slice A ys.length c) ys.length (ys.map (Value.int .i64)) W := by
    cases A with
    | none =>
      obtain rfl := hn rfl
      exact Src.ofNil W Tryz.underlying24 c
    | some ad => exact Src.ofSlice W Tryz.underlying24 ad ys.length c _ (by simp [hz1]) (hsrc ad rfl) (by simp [Value.oneCell'])
  have hnl : (ys.map (Value.int .i64)).length = ys.length := by simp
  by_cases hroom : xs.length + ys.length ≤ cap
  · refine ⟨_, _, run_append_room_src W 24 24 ty 2 i0 Tryz.underlying24 hi g off xs.length cap _ ys.length _ hs hroom (fun j hj => ?_) (fun j hj => ?_), ⟨g, off, cap, by rw [List.length_append], h2, by rw [size_setCells]; exact h3, by rw [List.length_append]; exact hroom, h5, fun j hj => ⟨?_, ?_⟩, fun i hi' => ?_⟩, below_setCells h2 _ _ _ (Below.refl _ _)⟩
    · rw [hnl] at hj
      rw [hz1]
      have := (h6 (xs.length + j) (by omega)).1
      rwa [show off + xs.length * 1 + j = off + (xs.length + j) by omega]
    · rw [hnl] at hj
      rw [hz1]
      have := (h6 (xs.length + j) (by omega)).2
      rwa [show off + xs.length * 1 + j = off + (xs.length + j) by omega]
    · rw [hz1]
      by_cases hin : xs.length ≤ j ∧ j < xs.length + ys.length
      · have := World.cell?_setCells_in g (ys.map (Value.int .i64)) (off + xs.length * 1) W (fun k hk => by
          rw [hnl] at hk
          have := (h6 (xs.length + k) (by omega)).1
          rwa [show off + xs.length * 1 + k = off + (xs.length + k) by omega]) (j - xs.length) (by rw [hnl]; omega)
        rw [show off + xs.length * 1 + (j - xs.length) = off + j by omega] at this
        rw [this]; rfl
      · rw [World.cell?_setCells_out g _ _ _ _ (fun _ _ => by rw [hnl]; show off + j < _ ∨ _ ≤ off + j; omega)]
        exact (h6 j hj).1
    · rw [World.frozen?_setCells]; exact (h6 j hj).2
    · rw [List.length_append] at hi'
      rw [hz1]
      by_cases hin : i < xs.length
      · rw [World.cell?_setCells_out g _ _ _ _ (fun _ _ => by rw [hnl]; show off + i < _ ∨ _ ≤ off + i; omega), h7 i hin, List.getElem_append_left hin]
      · have := World.cell?_setCells_in g (ys.map (Value.int .i64)) (off + xs.length * 1) W (fun k hk => by
          rw [hnl] at hk
          have := (h6 (xs.length + k) (by omega)).1
          rwa [show off + xs.length * 1 + k = off + (xs.length + k) by omega]) (i - xs.length) (by rw [hnl]; omega)
        rw [show off + xs.length * 1 + (i - xs.length) = off + i by omega] at this
        rw [this, List.getElem_append_right (by omega)]
        simp
  · have hxl : (xs.map (Value.int .i64)).length = xs.length := by simp
    have hcell : ∀ j u, (xs.map (Value.int .i64))[j]? = some u → W.drew.cell? ((⟨g, off, none⟩ : Addr).add j) = some u := fun j u hj => by
      obtain ⟨hj1, hj2⟩ := List.getElem?_eq_some_iff.1 hj
      rw [hxl] at hj1
      have := h7 j hj1
      rw [show ((⟨g, off, none⟩ : Addr).add j) = ⟨g, off + j, none⟩ by simp [Addr.add_lit]]
      rw [← hj2]
      simpa using this
    have hold := run_firstCells_some (P := Tryz.prog) W.drew i0.size xs.length ⟨g, off, none⟩ xs.length cap (xs.map (Value.int .i64)) (by rw [hxl, hz1, Nat.mul_one]) hcell
    have hge := grownCap_ge W (xs.length + ys.length) cap 2
    have hcm := grownCap_le_maxLen W (xs.length + ys.length) cap 2 (by unfold maxLen; omega)
    refine ⟨_, _, run_append_grow_src W 24 24 ty 2 i0 (.int .i64 0) Tryz.underlying24 hi hz0 (some ⟨g, off, none⟩) xs.length cap (xs.map (Value.int .i64)) hold _ ys.length _ hs (by omega) (by omega) (growslice_fits (by omega) (by rw [hz2]; omega)), ⟨W.heap.size, 0, _, by rw [List.length_append], hb, by simp, by rw [List.length_append]; exact hge, hcm, fun j hj => ⟨?_, ?_⟩, fun i hi' => ?_⟩, ?_⟩
    · rw [Nat.zero_add]
      have e1 := World.cell?_alloc_new W.drew ((xs.map (Value.int .i64) ++ ys.map (Value.int .i64)).toArray ++ Builtin.zeroCells (Value.int .i64 0).cells (grownCap W (xs.length + ys.length) cap 2 - (xs.length + ys.length))) 2 j
      have e2 : W.drew.heap.size = W.heap.size := rfl
      rw [e2] at e1
      rw [e1, Array.getElem?_eq_getElem (by simp [size_zeroCells, Value.cells]; omega)]
      rfl
    · rw [Nat.zero_add]
      exact World.frozen?_alloc_new W.drew _ _ j
    · rw [Nat.zero_add]
      rw [List.length_append] at hi'
      have e1 := World.cell?_alloc_new W.drew ((xs.map (Value.int .i64) ++ ys.map (Value.int .i64)).toArray ++ Builtin.zeroCells (Value.int .i64 0).cells (grownCap W (xs.length + ys.length) cap 2 - (xs.length + ys.length))) 2 i
      have e2 : W.drew.heap.size = W.heap.size := rfl
      rw [e2] at e1
      rw [e1, Array.getElem?_append_left (by simp; omega), List.getElem?_toArray, ← List.map_append, List.getElem?_map, List.getElem?_eq_getElem (by rw [List.length_append]; exact hi')]
      rfl
    · exact Below.al (Below.drew (Below.refl base W)) hb _
theorem app_Q {ops : Array Oper} {rest : List Oper} {o : Oper} {a : Act} {Q : Exit → Act → World → Prop} {W : World} (hgd : o.guard = none) (s x : Operand)
    (ho : o.op = .call { callee := .builtin .append, args := #[s, x], argTypes := #[24, 24] }) (base : Nat) (v : Value) (xs ys : List Int) (hs : a.eval s = v)
    (hq : Que base W v xs) (A : Option Addr) (n c : Nat) (hx : a.eval x = .slice A n c) (hr : RI lm W (.slice A n c) ys) (hl : xs.length ≤ 1048576) (hb : base ≤ W.heap.size)
    (h : ∀ v' w', Que base w' v' (xs ++ ys) → Below base W w' → wpList Tryz.prog ops Q rest (a.put o.dst v') w') : wpList Tryz.prog ops Q (o :: rest) a W := by
  refine wpList_plain hgd fun K hK => ?_
  obtain ⟨v', w', hr, h2, h3⟩ := que_append o.type hq A n c ys hr hl hb
  unfold Oper.wp execOp
  simp only [ho, resolve, invoke, builtin, Sem.run_bind, Sem.run_pure, Result.andThen_ok, List.map_toArray, List.map_cons, List.map_nil, hs, hx, hr]
  exact hK _ _ (h v' w' h2 h3)
theorem Que.rd {base : Nat} {W : World} {v : Value} {xs : List Int} (h : Que base W v xs) (hl : xs.length ≤ 1048576) : RI lm W v xs := by
  obtain ⟨g, off, cap, rfl, h2, h3, h4, h5, h6, h7⟩ := h
  refine ⟨_, cap, rfl, h4, hl, (fun h => by cases h), fun h0 => ⟨g, off, rfl, h3, fun i hi => ⟨_, rfl, rfl, fun j hj => ?_⟩⟩⟩
  obtain rfl : j = 0 := by simpa using hj
  simpa using h7 i hi
def OwB (lo : Nat) (w : World) (v : Value) (out : List Bool) : Prop := w.ownsRow lo 4 1 v out.length (out.map Value.bool)
def RetBs (out : List Bool) (w : World) (e : Ending) (w' : World) : Prop := ∃ v, e = .returned v ∧ OwB w.heap.size w' v out ∧ Below w.heap.size w w'
theorem infoBool : (Tryz.prog.info? 4).map (fun i => (i.zero, i.size, i.bytes)) = some (some (.bool false), 1, 1) := by kernel_rfl
theorem madeBools (n : Nat) : (madeCells #[.bool false] n).toList = (List.replicate n false).map Value.bool := by
  rw [List.map_replicate]
  apply List.ext_getElem?
  intro i
  simp only [madeCells]
  by_cases h : i < n
  · simp [h, Nat.mod_one]
  · simp [h]
theorem Que.head {base : Nat} {W : World} {v : Value} {b : Int} {r : List Int} (h : Que base W v (b :: r)) : ∃ g off cap, v = .slice (some ⟨g, off, none⟩) (r.length + 1) cap ∧ g < W.heap.size ∧ r.length + 1 ≤ cap ∧ W.cell? ⟨g, off, none⟩ = some (.int .i64 b) ∧ (cap = 1 → Que base W (.slice (some ⟨g, off, none⟩) 0 0) r) ∧ (cap ≠ 1 → Que base W (.slice (some ⟨g, off + 1, none⟩) r.length (cap - 1)) r) := by
  obtain ⟨g, off, cap, rfl, h2, h3, h4, h5, h6, h7⟩ := h
  simp only [List.length_cons] at h4 h7 ⊢
  refine ⟨g, off, cap, rfl, h3, h4, by simpa using h7 0 (by omega), fun hc => ?_, fun hc => ?_⟩
  · have : r = [] := List.eq_nil_of_length_eq_zero (by omega)
    subst this
    exact ⟨g, off, 0, rfl, h2, h3, Nat.zero_le _, by omega, fun j hj => absurd hj (by omega), fun i hi => absurd hi (by simp)⟩
  · refine ⟨g, off + 1, cap - 1, rfl, h2, h3, by omega, by omega, fun j hj => ?_, fun i hi => ?_⟩
    · have := h6 (j + 1) (by omega)
      rwa [show off + 1 + j = off + (j + 1) by omega]
    · have := h7 (i + 1) (by omega)
      rw [show off + 1 + i = off + (i + 1) by omega]
      simpa using this
theorem que_new (W : World) (base g : Nat) (x : Int) (hg : g = W.heap.size) (hb : base ≤ W.heap.size) : Que base (W.alloc (.cells #[.int .i64 x] 2)) (.slice (some ⟨g, 0, none⟩) 1 1) [x] := by
  subst hg
  refine ⟨W.heap.size, 0, 1, rfl, hb, by simp, by simp, by unfold maxLen; omega, fun j hj => ?_, fun i hi => ?_⟩
  · obtain rfl : j = 0 := by omega
    simp
  · obtain rfl : i = 0 := by simpa using hi
    simp
theorem Que.far {base : Nat} {W : World} {v : Value} {xs : List Int} (h : Que base W v xs) (b o : Nat) (u : Value) (hb : b < base) : Que base (W.setCell ⟨b, o, none⟩ u) v xs := by
  obtain ⟨g, off, cap, h1, h2, h3, h4, h5, h6, h7⟩ := h
  have hc : ∀ j, (W.setCell ⟨b, o, none⟩ u).cell? ⟨g, j, none⟩ = W.cell? ⟨g, j, none⟩ := fun j => World.cell?_of_block (w := W) (w' := W.setCell ⟨b, o, none⟩ u) (a := ⟨g, j, none⟩) (Below.heap_setCell _ _ _ _ (by show g ≠ b; omega))
  have hf : ∀ j, (W.setCell ⟨b, o, none⟩ u).frozen? ⟨g, j, none⟩ = W.frozen? ⟨g, j, none⟩ := fun j => World.frozen?_of_block (w := W) (w' := W.setCell ⟨b, o, none⟩ u) (a := ⟨g, j, none⟩) (Below.heap_setCell _ _ _ _ (by show g ≠ b; omega))
  exact ⟨g, off, cap, h1, h2, by simpa [World.setCell] using h3, h4, h5, fun j hj => by rw [hc, hf]; exact h6 j hj, fun i hi => (hc _).trans (h7 i hi)⟩
theorem own_low {B lo g e sz n c m : Nat} {W W' : World} {cs : List Value} (h : W.ownsRow lo e sz (.slice (some ⟨g, 0, none⟩) n c) m cs) (hb : Below B W W') (hg : g < B) : W'.ownsRow lo e sz (.slice (some ⟨g, 0, none⟩) n c) m cs := by
  refine ⟨h.1, ?_⟩
  rcases h.2 with ⟨e, _⟩ | ⟨g', cap, cur, hv, h1, h2, h3⟩
  · cases e
  · cases hv; exact .inr ⟨g, _, cur, rfl, h1, (hb.block g hg).trans h2, h3⟩
theorem OwB.set {lo g n : Nat} {W : World} {out : List Bool} (h : OwB lo W (.slice (some ⟨g, 0, none⟩) n n) out) (k : Nat) (b : Bool) : OwB lo (W.setCell ⟨g, k, none⟩ (.bool b)) (.slice (some ⟨g, 0, none⟩) n n) (out.set k b) := by
  have hl : n = out.length := by
    rcases h.2 with ⟨e, _⟩ | ⟨g', cap, cur, e, _⟩
    · cases e
    · cases e; rfl
  subst hl
  have := (World.ownsRow.stored h k (.bool b)).1
  unfold OwB
  rw [List.length_set]
  simpa [List.map_set] using this
set_option maxRecDepth 20000 in
set_option maxHeartbeats 4000000 in
theorem c_reach (f : XFunc) (cs : List Value) (wo : Int) (w : World) (hf : KFunc lm w f cs) (hg : inGraph f) (hn : 1 ≤ f.blocks.length ∧ f.blocks.length ≤ 10) : Calls Tryz.prog 135 #[.agg cs.toArray, .int .i64 wo] w (RetBs (reach f wo) w) := by
  obtain ⟨v1, v2, rfl, hp, hb'⟩ := hf
  obtain ⟨A1, c1, rfl, -, hl1, -⟩ := hp.sm
  obtain ⟨A2, c2, rfl, hcap, hl2, hb0⟩ := hb'.sm
  clear hp hb'
  have hbl := fun o => (Below.refl w.heap.size w).al (Nat.le_refl _) o
  generalize hR : reach f wo = R
  have hR' := Hd.mk hR
  clear hR
  have hg' := Hd.mk hg
  clear hg
  have hRl := Hd.mk (show R.length = f.blocks.length by rw [← hR'.out]; exact reach_len f wo)
  unfold reach at hR'
  obtain ⟨n, hnn⟩ : ∃ n, n = f.blocks.length := ⟨_, rfl⟩
  have hgp : 0 ≤ (f.blocks.length : Int) := by omega
  have hbl3 : Hd (∀ o o' o'', Below w.heap.size w (((w.alloc o).alloc o').alloc o'')) := ⟨fun o o' o'' => (((Below.refl w.heap.size w).al (Nat.le_refl _) o).al (by simp) o').al (by simp; omega) o''⟩
  have hmk := fun W => mk_run 156 4 (.bool false) 1 1 f.blocks.length Tryz.underlying156 infoBool (by omega) (by omega) W
  have hmo := mk_own (w.alloc (.cells #[.slice A1 f.params.length c1, .int .i64 f.ret, .slice A2 f.blocks.length c2] 35)) (w.heap.size + 1) 4 1 f.blocks.length #[.bool false] (by simp) (by unfold maxLen; omega)
  rw [Nat.mul_one, madeBools] at hmo
  simp only [Value.cells, Nat.mul_one] at hmk
  generalize madeCells #[.bool false] f.blocks.length = mc at *
  have hmo' := Hd.mk hmo
  clear hmo
  have hk00 : Hd (∀ o, (((w.alloc (.cells #[.slice A1 f.params.length c1, .int .i64 f.ret, .slice A2 f.blocks.length c2] 35)).alloc (.cells mc 4)).alloc (.cells #[.int .i64 0] 2)).cell? ⟨w.heap.size, o, none⟩ = [Value.slice A1 f.params.length c1, .int .i64 f.ret, .slice A2 f.blocks.length c2][o]?) := ⟨fun o => (World.cell?_alloc_past _ _ _ (by first | omega | (simp; done) | (simp; omega))).trans ((World.cell?_alloc_past _ _ _ (by first | omega | (simp; done) | (simp; omega))).trans (by simp))⟩
  go_enter Tryz.func135, Tryz.ntmps135
  go_wp2
  go_loopg [6] (3 * f.blocks.length + 1) (fun k s6 wr => ∃ (left : List Int) (out : List Bool), k ≤ 3 * f.blocks.length + 1 ∧ Hd (reachGo f wo k left out = R) ∧ Hd (3 * falses out + left.length ≤ k) ∧ Hd (out.length = f.blocks.length) ∧ Hd (∀ x ∈ left, 0 ≤ x ∧ x < f.blocks.length) ∧ Hd (Que (w.heap.size + 2) wr s6 left) ∧ Hd (OwB (w.heap.size + 1) wr (.slice (some ⟨w.heap.size + 1, 0, none⟩) f.blocks.length f.blocks.length) out) ∧ Hd (Below w.heap.size w wr) ∧ Hd (w.heap.size + 2 < wr.heap.size) ∧ Hd (∀ o, wr.cell? ⟨w.heap.size, o, none⟩ = [Value.slice A1 f.params.length c1, .int .i64 f.ret, .slice A2 f.blocks.length c2][o]?))
  case atStart =>
    exact ⟨[0], List.replicate f.blocks.length false, Nat.le_refl _, hR', ⟨by rw [falses_rep]; first | done | simp⟩, ⟨by simp⟩, ⟨fun x hx => by simp at hx; omega⟩, ⟨que_new _ _ _ _ (by simp) (by simp)⟩,
      ⟨by have := own_mv hmo'.out ((Below.refl _ _).al (Nat.le_refl _) (.cells #[.int .i64 0] 2)); simpa [OwB] using this⟩, ⟨hbl3.out _ _ _⟩, ⟨(by first | omega | (simp; done) | (simp; omega))⟩, hk00⟩
  case round =>
    obtain ⟨left, out, hk, hR, hm, hlo, hin, hq, ho, hbr, hz, hk0⟩ := hrel
    clear hR' hmo' hmk hbl
    have hz' := hz.out
    cases left with
    | nil =>
      have hRo : R = out := by rw [← hR.out]; exact reach_done _ _ _ _
      obtain ⟨gq, oq, cq, rfl, -⟩ := hq.out
      simp only [List.length_nil]
      go_wp2
      go_ret
      subst hRo
      exact ⟨_, rfl, own_lower ho.out (by omega), hbr.out⟩
    | cons b r =>
      obtain ⟨k', rfl⟩ : ∃ k', gk = k' + 1 := ⟨gk - 1, by have := hm.out; simp at this; omega⟩
      obtain ⟨y0, y1⟩ := hin.out b (by simp)
      have hinr := Hd.mk (fun x hx => hin.out x (List.mem_cons_of_mem b hx))
      have hst := Hd.mk ((reach_step f wo k' b r out).symm.trans hR.out)
      obtain ⟨g, off, cap, rfl, hgl, hcl, hc0, hq1, hq2⟩ := hq.out.head
      have hm' : 3 * falses out + r.length ≤ k' := by have := hm.out; simp at this; omega
      have hkk : k' ≤ 3 * f.blocks.length + 1 := by omega
      have hbo : b.toNat < out.length := by rw [hlo.out]; omega
      have ho' : wr.ownsRow (w.heap.size + 1) 4 1 (.slice (some ⟨w.heap.size + 1, 0, none⟩) f.blocks.length f.blocks.length) f.blocks.length (out.map Value.bool) := by
        have := ho.out
        unfold OwB at this
        rwa [hlo.out] at this
      have hob : wr.cell? ⟨w.heap.size + 1, b.toNat, none⟩ = some (.bool out[b.toNat]) := by
        rw [World.ownsRow.cellAt ho' b.toNat (by omega), List.getElem?_map, List.getElem?_eq_getElem hbo]; rfl
      have hof := World.ownsRow.frozenAt ho' b.toNat
      clear ho'
      have hgd : out.getD b.toNat false = out[b.toNat] := by rw [List.getD_eq_getElem?_getD, List.getElem?_eq_getElem hbo]; rfl
      have hfs := fun h => Hd.mk (falses_set out b.toNat hbo h)
      rw [hgd] at hst
      have y2 : (1 : Int) ≤ (r.length : Int) + 1 := by omega
      have y3 : (r.length : Int) + 1 ≤ (cap : Int) := by omega
      have y4 : r.length + 1 ≤ cap := hcl
      have y5 : (0 : Int) < (r.length : Int) + 1 := by omega
      generalize out[b.toNat] = ob at *
      have hm'' := Hd.mk hm'
      have hrl : r.length ≤ 31 := by omega
      clear hgd hin hR hq hm' hm hk
      by_cases hcc : cap = 1
      · subst hcc
        obtain rfl : r = [] := List.eq_nil_of_length_eq_zero (by omega)
        have hQ := Hd.mk (hq1 rfl)
        simp only [List.length_nil] at *
        clear hq1 hq2
        by_cases hwo : b = wo
        · subst hwo
          have hR2 := Hd.mk (show reachGo f b k' [] out = R by have := hst.out; rwa [if_pos (by simp)] at this)
          clear hst hfs
          go_wp2
          go_roundg k'
          case measure => omega
          case rel => exact ⟨[], out, hkk, hR2, hm'', hlo, hinr, hQ, ho, hbr, hz, hk0⟩
        have d0 := beqF hwo
        cases ob with
        | true =>
          have hR2 := Hd.mk (show reachGo f wo k' [] out = R by have := hst.out; rwa [if_pos (by simp)] at this)
          clear hst hfs hwo
          go_wp2
          go_roundg k'
          case measure => omega
          case rel => exact ⟨[], out, hkk, hR2, hm'', hlo, hinr, hQ, ho, hbr, hz, hk0⟩
        | false =>
          have hR2 := Hd.mk (show reachGo f wo k' ([] ++ leadsTo (blkAt f b).term) (out.set b.toNat true) = R by have := hst.out; rwa [if_neg (by simp [hwo])] at this)
          clear hst hwo
          have hf1 := hfs rfl
          clear hfs
          obtain ⟨eb, eo, ecs, hA_, heb, ⟨bv1, bv2, rfl, hr_, hr2_⟩, hat_⟩ := (hb0.out).in0 (hbr.out) (b.toNat) (by omega)
          cases hA_
          have hew := Nat.lt_of_lt_of_le heb (hbr.out).size
          have g0 := hat_ 0 _ rfl
          have g1 := hat_ 1 _ rfl
          have g2 := hat_ 2 _ rfl
          have g3 := hat_ 3 _ rfl
          have g4 := hat_ 4 _ rfl
          have g5 := hat_ 5 _ rfl
          clear hat_
          simp at g0 g1 g2 g3 g4 g5
          obtain ⟨Ap, cp, rfl, hcp, hlp, hrp⟩ := hr_.sm
          obtain ⟨Ai, ci, rfl, hci, hli, hri⟩ := hr2_.sm
          clear hr_ hr2_
          have hbk := blkAt_get f b y0 y1
          have hld := Hd.mk (hg'.out.at_ b y0 y1)
          rw [hbk] at hR2 hld
          clear hbk
          generalize f.blocks[b.toNat]'(by omega) = x at *
          have hct := fun W => c_leadsTo x.term W
          have hll := leads_len x.term
          have hne : eb ≠ w.heap.size + 1 := by omega
          have q0 := hk0.out 0
          have q1 := hk0.out 1
          have q2 := hk0.out 2
          simp at q0 q1 q2
          have hO1 := Hd.mk (ho.out.set b.toNat true)
          have hQ1 := Hd.mk (hQ.out.far (w.heap.size + 1) b.toNat (.bool true) (by omega))
          have hB1 := Hd.mk (hbr.out.setCell (p := ⟨w.heap.size + 1, b.toNat, none⟩) (by show w.heap.size ≤ w.heap.size + 1; omega) (.bool true))
          have hk1 := Hd.mk (fun o => (World.cell?_of_block (w := wr) (w' := wr.setCell ⟨w.heap.size + 1, b.toNat, none⟩ (.bool true)) (a := ⟨w.heap.size, o, none⟩) (Below.heap_setCell _ _ _ _ (by show w.heap.size ≠ w.heap.size + 1; omega))).trans (hk0.out o))
          have hs1 : (wr.setCell ⟨w.heap.size + 1, b.toNat, none⟩ (.bool true)).heap.size = wr.heap.size := by simp [World.setCell]
          go_wp2_with fail
          refine (hct _).mono ?_; rintro e w2 ⟨v2, rfl, ho2, hb2⟩
          generalize wr.setCell ⟨w.heap.size + 1, b.toNat, none⟩ (.bool true) = W1 at *
          have hr2 : RI lm w2 v2 (leadsTo x.term) := (own_ints ho2 (by show _ ≤ 1048576; omega)).2
          obtain ⟨A7, c7, rfl, -, -, -⟩ := own_shape ho2
          have hQ2 := hQ1.out.mv hb2
          have hz2 := hb2.size
          have hB2 := hB1.out.then hb2
          have hO2 := own_mv (show W1.ownsRow _ _ _ _ _ _ from hO1.out) hb2
          have hk2 := fun o => (bat hb2 w.heap.size (by omega) o).trans (hk1.out o)
          have hQ2' := Hd.mk hQ2
          have hB2' := Hd.mk hB2
          have hO2' := Hd.mk hO2
          have hk2' := Hd.mk hk2
          have hr2' := Hd.mk hr2
          have hgl := hll
          clear hb2 ho2 hQ2 hB2 hO2 hk2 hr2 hct
          go_wp2_with (at_builtin; refine app_Q rfl _ _ rfl (w.heap.size + 2) _ [] (leadsTo x.term) rfl hQ2'.out A7 _ c7 rfl hr2'.out (by first | omega | (simp; done) | (simp; omega)) (by omega) ?_; intro v3 w3 hQ3 hB3; have hQ3' := Hd.mk hQ3; have hB3' := Hd.mk hB3)
          go_roundg k'
          case measure => omega
          case rel =>
            refine ⟨[] ++ leadsTo x.term, out.set b.toNat true, hkk, hR2, ⟨?_⟩, ⟨by rw [List.length_set]; exact hlo.out⟩, ⟨fun y hy => ?_⟩, hQ3', ⟨?_⟩, ⟨?_⟩, ⟨?_⟩, ⟨?_⟩⟩
            · have := hm''.out; rw [List.length_append]; have := hf1.out; simp at *; omega
            · rcases List.mem_append.1 hy with h | h
              · exact hinr.out y h
              · exact hld.out y h
            · exact own_low hO2'.out hB3'.out (by omega)
            · exact hB2'.out.trans (hB3'.out.mono (by omega))
            · have := hB3'.out.size; omega
            · exact fun o => (bat hB3'.out w.heap.size (by omega) o).trans (hk2'.out o)
      · have hQ := Hd.mk (hq2 hcc)
        have y6 : 0 < cap - 1 := by omega
        clear hq1 hq2
        by_cases hwo : b = wo
        · subst hwo
          have hR2 := Hd.mk (show reachGo f b k' r out = R by have := hst.out; rwa [if_pos (by simp)] at this)
          clear hst hfs
          go_wp2
          go_roundg k'
          case measure => omega
          case rel => exact ⟨r, out, hkk, hR2, hm'', hlo, hinr, hQ, ho, hbr, hz, hk0⟩
        have d0 := beqF hwo
        cases ob with
        | true =>
          have hR2 := Hd.mk (show reachGo f wo k' r out = R by have := hst.out; rwa [if_pos (by simp)] at this)
          clear hst hfs hwo
          go_wp2
          go_roundg k'
          case measure => omega
          case rel => exact ⟨r, out, hkk, hR2, hm'', hlo, hinr, hQ, ho, hbr, hz, hk0⟩
        | false =>
          have hR2 := Hd.mk (show reachGo f wo k' (r ++ leadsTo (blkAt f b).term) (out.set b.toNat true) = R by have := hst.out; rwa [if_neg (by simp [hwo])] at this)
          clear hst hwo
          have hf1 := hfs rfl
          clear hfs
          obtain ⟨eb, eo, ecs, hA_, heb, ⟨bv1, bv2, rfl, hr_, hr2_⟩, hat_⟩ := (hb0.out).in0 (hbr.out) (b.toNat) (by omega)
          cases hA_
          have hew := Nat.lt_of_lt_of_le heb (hbr.out).size
          have g0 := hat_ 0 _ rfl
          have g1 := hat_ 1 _ rfl
          have g2 := hat_ 2 _ rfl
          have g3 := hat_ 3 _ rfl
          have g4 := hat_ 4 _ rfl
          have g5 := hat_ 5 _ rfl
          clear hat_
          simp at g0 g1 g2 g3 g4 g5
          obtain ⟨Ap, cp, rfl, hcp, hlp, hrp⟩ := hr_.sm
          obtain ⟨Ai, ci, rfl, hci, hli, hri⟩ := hr2_.sm
          clear hr_ hr2_
          have hbk := blkAt_get f b y0 y1
          have hld := Hd.mk (hg'.out.at_ b y0 y1)
          rw [hbk] at hR2 hld
          clear hbk
          generalize f.blocks[b.toNat]'(by omega) = x at *
          have hct := fun W => c_leadsTo x.term W
          have hll := leads_len x.term
          have hne : eb ≠ w.heap.size + 1 := by omega
          have q0 := hk0.out 0
          have q1 := hk0.out 1
          have q2 := hk0.out 2
          simp at q0 q1 q2
          have hO1 := Hd.mk (ho.out.set b.toNat true)
          have hQ1 := Hd.mk (hQ.out.far (w.heap.size + 1) b.toNat (.bool true) (by omega))
          have hB1 := Hd.mk (hbr.out.setCell (p := ⟨w.heap.size + 1, b.toNat, none⟩) (by show w.heap.size ≤ w.heap.size + 1; omega) (.bool true))
          have hk1 := Hd.mk (fun o => (World.cell?_of_block (w := wr) (w' := wr.setCell ⟨w.heap.size + 1, b.toNat, none⟩ (.bool true)) (a := ⟨w.heap.size, o, none⟩) (Below.heap_setCell _ _ _ _ (by show w.heap.size ≠ w.heap.size + 1; omega))).trans (hk0.out o))
          have hs1 : (wr.setCell ⟨w.heap.size + 1, b.toNat, none⟩ (.bool true)).heap.size = wr.heap.size := by simp [World.setCell]
          go_wp2_with fail
          refine (hct _).mono ?_; rintro e w2 ⟨v2, rfl, ho2, hb2⟩
          generalize wr.setCell ⟨w.heap.size + 1, b.toNat, none⟩ (.bool true) = W1 at *
          have hr2 : RI lm w2 v2 (leadsTo x.term) := (own_ints ho2 (by show _ ≤ 1048576; omega)).2
          obtain ⟨A7, c7, rfl, -, -, -⟩ := own_shape ho2
          have hQ2 := hQ1.out.mv hb2
          have hz2 := hb2.size
          have hB2 := hB1.out.then hb2
          have hO2 := own_mv (show W1.ownsRow _ _ _ _ _ _ from hO1.out) hb2
          have hk2 := fun o => (bat hb2 w.heap.size (by omega) o).trans (hk1.out o)
          have hQ2' := Hd.mk hQ2
          have hB2' := Hd.mk hB2
          have hO2' := Hd.mk hO2
          have hk2' := Hd.mk hk2
          have hr2' := Hd.mk hr2
          have hgl := hll
          clear hb2 ho2 hQ2 hB2 hO2 hk2 hr2 hct
          go_wp2_with (at_builtin; refine app_Q rfl _ _ rfl (w.heap.size + 2) _ r (leadsTo x.term) rfl hQ2'.out A7 _ c7 rfl hr2'.out (by first | omega | (simp; done) | (simp; omega)) (by omega) ?_; intro v3 w3 hQ3 hB3; have hQ3' := Hd.mk hQ3; have hB3' := Hd.mk hB3)
          go_roundg k'
          case measure => omega
          case rel =>
            refine ⟨r ++ leadsTo x.term, out.set b.toNat true, hkk, hR2, ⟨?_⟩, ⟨by rw [List.length_set]; exact hlo.out⟩, ⟨fun y hy => ?_⟩, hQ3', ⟨?_⟩, ⟨?_⟩, ⟨?_⟩, ⟨?_⟩⟩
            · have := hm''.out; rw [List.length_append]; have := hf1.out; simp at *; omega
            · rcases List.mem_append.1 hy with h | h
              · exact hinr.out y h
              · exact hld.out y h
            · exact own_low hO2'.out hB3'.out (by omega)
            · exact hB2'.out.trans (hB3'.out.mono (by omega))
            · have := hB3'.out.size; omega
            · exact fun o => (bat hB3'.out w.heap.size (by omega) o).trans (hk2'.out o)
end Go.Proofs.YtkcgejbnhpccdaaGreat
