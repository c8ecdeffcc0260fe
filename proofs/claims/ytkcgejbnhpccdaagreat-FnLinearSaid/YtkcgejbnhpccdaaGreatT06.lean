import Derived.Test.YtkcgejbnhpccdaaGreatT05
import Derived.Test.YtkcgejbnhpccdaaGreatT04
import Derived.StillTailTactics
import Derived.Deep.QuietTactic
import Derived.BigQuiet
import Derived.Test.YtkcgejbnhpccdaaGreatT01
set_option linter.unusedSimpArgs false
set_option linter.unusedVariables false
namespace Go.Proofs.YtkcgejbnhpccdaaGreat
open Go.RowKit
theorem countIn_bd (n : Int) (l : List XBlock) (k : Nat) (h : ∀ b ∈ l, b.phis.length ≤ 1048576 ∧ b.insts.length ≤ 1048576) (hk : k ≤ l.length) : countIn n (l.take k) ≤ n + 2097152 * k := by
  induction k with
  | zero => simp [countIn]
  | succ k ih =>
    rw [countIn_snoc n l k (by omega)]
    have := ih (by omega)
    have hb := h l[k] (List.getElem_mem _)
    unfold sizeB
    omega
theorem Rd.blocks {w : World} {v : Value} {l : List XBlock} (h : RBlock lm w v l) : ∀ b ∈ l, b.phis.length ≤ 1048576 ∧ b.insts.length ≤ 1048576 := by
  intro b hb
  obtain ⟨i, hi, rfl⟩ := List.getElem_of_mem hb
  obtain ⟨_, _, _, cs, _, _, ⟨v1, v2, _, h1, h2⟩, _⟩ := h.at_ i hi
  exact ⟨h1.len, h2.len⟩
set_option maxHeartbeats 1000000 in
theorem c_CountOf (f : XFunc) (cs : List Value) (w : World) (hf : KFunc lm w f cs) : Calls Tryz.prog 94 #[.agg cs.toArray] w (Ret (.int .i64 (countOf f)) w) := by
  obtain ⟨v1, v2, rfl, hp, hb⟩ := hf
  have hbd := Hd.mk hb.blocks
  obtain ⟨A1, c1, rfl, -, hl1, -⟩ := hp.sm
  obtain ⟨A2, c2, rfl, -, hl2, hb0⟩ := hb.sm
  clear hb hp
  unfold countOf
  generalize f.params.length = n at *
  generalize f.blocks = l at *
  generalize f.ret = r at *
  go_enter Tryz.func94, Tryz.ntmps94
  go_wp2
  go_loopw [3, 12] (fun s3 s12 wr => ∃ k : Nat, k ≤ l.length ∧ s12 = .int .i64 k ∧ s3 = .int .i64 (countIn n (l.take k)) ∧ Hd (Below w.heap.size w wr)) (fun _ s12 _ => l.length - (intOf s12).toNat)
  case atStart => exact ⟨0, Nat.zero_le _, rfl, by simp [countIn], ⟨(Below.refl _ w).al (Nat.le_refl _) _⟩⟩
  case round =>
    obtain ⟨k, hk, rfl, rfl, hbw⟩ := hrel
    have hc1 := countIn_bd n l k hbd.out hk
    have hc2 := countIn_le n (l.take k)
    by_cases hlt : k < l.length
    · obtain ⟨b, off, cs, hA, hbl, ⟨v1, v2, rfl, hr, hr2⟩, hat⟩ := hb0.out.in_ hbw.out k hlt
      cases hA
      have g0 := hat 0 _ rfl
      have g1 := hat 1 _ rfl
      have g2 := hat 2 _ rfl
      have g3 := hat 3 _ rfl
      have g4 := hat 4 _ rfl
      have g5 := hat 5 _ rfl
      clear hat
      simp at g0 g1 g2 g3 g4 g5
      obtain ⟨A1, c1, rfl, -, hl3, -⟩ := hr.sm
      obtain ⟨A2, c2, rfl, -, hl4, -⟩ := hr2.sm
      have hsn := Hd.mk (countIn_snoc n l k hlt)
      generalize countIn n (l.take k) = s at *
      have hb1 := hbw.out.size
      go_wp2
      go_roundw
      case rel => exact ⟨k + 1, by omega, by go_num, by rw [hsn.out]; rfl, ⟨hbw.out.al hb1 _⟩⟩
      case measure => simp [intOf]; omega
    · have e : k = l.length := by omega
      subst e
      go_wp2
      go_ret
      exact ⟨by rw [List.take_length]; rfl, hbw.out⟩
theorem c_isFunc21 (id ids : Int) (b : Nat) (w : World) (hc : w.cell? ⟨b, 0, none⟩ = some (.int .i64 ids)) (h : 0 ≤ ids) (h2 : ids ≤ 1048576) : Calls Tryz.prog 169 #[.int .i64 id, .pointer (some ⟨b, 0, none⟩)] w (Same (.bool (!isIdB ids id)) w) := by
  go_enter Tryz.func169, Tryz.ntmps169
  go_wp2_with (go_at_call 62; refine (c_within _ _ _ _).mono ?_; rintro e w' ⟨rfl, rfl⟩)
  go_ret
  exact ⟨rfl, rfl⟩
theorem pb_isFunc21 (W : World) (b : Nat) (ids : Int) (hb : b < W.heap.size) (hc : W.cell? ⟨b, 0, none⟩ = some (.int .i64 ids)) (h : 0 ≤ ids) (h2 : ids ≤ 1048576) :
    PB Tryz.prog 169 #[.pointer (some ⟨b, 0, none⟩)] KInt arg1 (fun id => !isIdB ids id) W := fun W' x cs hW hk => by
  cases hk
  exact Same.ret (c_isFunc21 x ids b W' ((hW.cell (p := ⟨b, 0, none⟩) hb).trans hc) h h2)
theorem pb_isFunc1 (W : World) : PB Tryz.prog 166 #[] KInt arg1 (fun n => !widthOk n) W := fun W' x cs hW hk => by
  cases hk
  exact Same.ret (c_isFunc1 x W')
set_option maxHeartbeats 1000000 in
theorem c_isFunc2 (p : XPhi) (cs : List Value) (ids : Int) (b : Nat) (w : World) (hk : KPhi lm w p cs) (hb : b < w.heap.size) (hc : w.cell? ⟨b, 0, none⟩ = some (.int .i64 ids)) (h : 0 ≤ ids) (h2 : ids ≤ 1048576) :
    Calls Tryz.prog 168 #[.agg cs.toArray, .pointer (some ⟨b, 0, none⟩)] w (Ret (.bool (!phiOk ids p)) w) := by
  obtain ⟨v, rfl, hr⟩ := hk
  have hw := c_WidthOk p.w
  have e1 := enters_of Tryz.func169 (by kernel_rfl) rfl
  obtain ⟨A, c, rfl, -, hl, hr0⟩ := hr.sm
  have hbl := fun o => (Below.refl w.heap.size w).al (Nat.le_refl _) o
  unfold phiOk
  generalize hq : widthOk p.w = q at *
  have hcon := fun W hW => c_ConI _ p.ins _ _ (fun id => !isIdB ids id) W (hr0.out.mv hW) e1 (pb_isFunc21 W b ids (Nat.lt_of_lt_of_le hb hW.size) ((bat hW b hb 0).trans hc) h h2)
  simp only [any_not] at hcon
  generalize hq1 : p.ins.all (isIdB ids) = q1 at *
  generalize p.ins = l at *
  generalize p.w = wd at *
  clear hr hq hq1
  cases q with
  | false =>
    go_enter Tryz.func168, Tryz.ntmps168
    go_wp2_with (go_at_call 56; refine (hw _).mono ?_; rintro e w' ⟨rfl, rfl⟩)
    go_ret
    exact ⟨by simp, hbl _⟩
  | true =>
    by_cases h3 : 10 < l.length
    · have h4 : decide (10 < (l.length : Int)) = true := by simp; omega
      go_enter Tryz.func168, Tryz.ntmps168
      go_wp2_with (go_at_call 56; refine (hw _).mono ?_; rintro e w' ⟨rfl, rfl⟩)
      go_ret
      exact ⟨by simp; omega, hbl _⟩
    · have h4 : decide (l.length ≤ 10) = true := by simp; omega
      rw [h4]
      have h5 : decide (10 < (l.length : Int)) = false := by simp; omega
      go_enter Tryz.func168, Tryz.ntmps168
      go_wp2_with (first | (go_at_call 56; refine (hw _).mono ?_; rintro e w' ⟨rfl, rfl⟩) | (go_at_call 165; refine (hcon _ (hbl _)).mono ?_; rintro e w' ⟨rfl, hb'⟩))
      go_ret
      exact ⟨by simp, (hbl _).then hb'⟩
theorem pb_isFunc2 (W : World) (b : Nat) (ids : Int) (hb : b < W.heap.size) (hc : W.cell? ⟨b, 0, none⟩ = some (.int .i64 ids)) (h : 0 ≤ ids) (h2 : ids ≤ 1048576) :
    PB Tryz.prog 168 #[.pointer (some ⟨b, 0, none⟩)] (KPhi lm) argN (fun p => !phiOk ids p) W := fun W' x cs hW hk =>
  c_isFunc2 x cs ids b W' hk (Nat.lt_of_lt_of_le hb hW.size) ((hW.cell (p := ⟨b, 0, none⟩) hb).trans hc) h h2
theorem c_isFunc3 (i : XInst) (cs : List Value) (ids funcs : Int) (b b2 : Nat) (w : World) (hk : KInst lm w i cs) (hb : b < w.heap.size) (hb2 : b2 < w.heap.size) (hc : w.cell? ⟨b, 0, none⟩ = some (.int .i64 ids)) (hc2 : w.cell? ⟨b2, 0, none⟩ = some (.int .i64 funcs)) (h : 0 ≤ ids) (h2 : ids ≤ 1048576) (hf : 0 ≤ funcs) (hf2 : funcs ≤ 1048576) :
    Calls Tryz.prog 170 #[.agg cs.toArray, .pointer (some ⟨b, 0, none⟩), .pointer (some ⟨b2, 0, none⟩)] w (Ret (.bool (!instOk ids funcs i)) w) := by
  obtain ⟨v, rfl, hr⟩ := hk
  have hbl := fun o => (Below.refl w.heap.size w).al (Nat.le_refl _) o
  have hin := fun W hW => c_isInst i v ids funcs W (hr.mv hW) h h2 hf hf2
  go_enter Tryz.func170, Tryz.ntmps170
  go_wp2_with (go_at_call 171; refine (hin _ (by first | exact hbl _ | exact Below.refl _ _)).mono ?_; rintro e w' ⟨rfl, hb'⟩)
  go_ret
  exact ⟨rfl, by first | exact hb' | exact (hbl _).then hb'⟩
theorem pb_isFunc3 (W : World) (b b2 : Nat) (ids funcs : Int) (hb : b < W.heap.size) (hb2 : b2 < W.heap.size) (hc : W.cell? ⟨b, 0, none⟩ = some (.int .i64 ids)) (hc2 : W.cell? ⟨b2, 0, none⟩ = some (.int .i64 funcs)) (h : 0 ≤ ids) (h2 : ids ≤ 1048576) (hf : 0 ≤ funcs) (hf2 : funcs ≤ 1048576) :
    PB Tryz.prog 170 #[.pointer (some ⟨b, 0, none⟩), .pointer (some ⟨b2, 0, none⟩)] (KInst lm) argN (fun p => !instOk ids funcs p) W := fun W' x cs hW hk =>
  c_isFunc3 x cs ids funcs b b2 W' hk (Nat.lt_of_lt_of_le hb hW.size) (Nat.lt_of_lt_of_le hb2 hW.size) ((hW.cell (p := ⟨b, 0, none⟩) hb).trans hc) ((hW.cell (p := ⟨b2, 0, none⟩) hb2).trans hc2) h h2 hf hf2
theorem all_take_snoc {α : Type} (p : α → Bool) (l : List α) (k : Nat) (h : k < l.length) : (l.take (k + 1)).all p = ((l.take k).all p && p l[k]) := by
  rw [List.take_succ_eq_append_getElem h, List.all_append]; simp
def funcPre (f : XFunc) : Bool := decide (f.params.length ≤ 4) && (widthOk f.ret && (inR f.blocks.length 1 10 && f.params.all widthOk))
theorem funcOk_pre (f : XFunc) (funcs : Int) : funcOk f funcs = (funcPre f && (decide (countOf f ≤ 60) && f.blocks.all (blockOk (countOf f) funcs f.blocks.length))) := by
  simp only [funcOk, funcPre, Bool.and_assoc]
theorem countOf_nn (f : XFunc) : 0 ≤ countOf f := by have := countIn_le f.params.length f.blocks; unfold countOf; omega
theorem all_false_of {α : Type} (p : α → Bool) (l : List α) (k : Nat) (h : k < l.length) (hp : p l[k] = false) : l.all p = false := by
  rw [Bool.eq_false_iff]; intro h'; rw [List.all_eq_true] at h'
  rw [h' _ (List.getElem_mem h)] at hp; cases hp
set_option maxHeartbeats 2000000 in
theorem c_isFunc_pre (f : XFunc) (cs : List Value) (funcs : Int) (w : World) (hf : KFunc lm w f cs) (hpre : funcPre f = false) :
    Calls Tryz.prog 128 #[.agg cs.toArray, .int .i64 funcs] w (Ret (.bool false) w) := by
  obtain ⟨v1, v2, rfl, hp, hb⟩ := hf
  obtain ⟨A1, c1, rfl, -, hl1, hp0⟩ := hp.sm
  obtain ⟨A2, c2, rfl, -, hl2, -⟩ := hb.sm
  have e1 := enters_of Tryz.func166 (by kernel_rfl) rfl
  have hcon := fun W hW => c_ConI _ f.params _ #[] (fun n => !widthOk n) W (hp0.out.mv hW) e1 (pb_isFunc1 W)
  simp only [any_not] at hcon
  have hwd := c_WidthOk f.ret
  have hin := c_within f.blocks.length 1 10
  have hbl := fun o o' => ((Below.refl w.heap.size w).al (Nat.le_refl _) o).al (by simp) o'
  unfold funcPre at hpre
  clear hb hp
  generalize widthOk f.ret = q1 at *
  generalize inR f.blocks.length 1 10 = q2 at *
  generalize f.params.all widthOk = q3 at *
  generalize f.params.length = n at *
  generalize f.blocks.length = m at *
  by_cases h1 : 4 < n
  · clear hpre
    have h2 : decide (4 < (n : Int)) = true := by simp; omega
    go_enter Tryz.func128, Tryz.ntmps128
    go_wp2
    go_ret
    exact ⟨rfl, hbl _ _⟩
  have h2 : decide (4 < (n : Int)) = false := by simp; omega
  have h3 : n ≤ 4 := by omega
  simp [h3] at hpre
  cases q1 with
  | false =>
    clear hpre
    go_enter Tryz.func128, Tryz.ntmps128
    go_wp2_with (go_at_call 56; refine (hwd _).mono ?_; rintro e w' ⟨rfl, rfl⟩)
    go_ret
    exact ⟨rfl, hbl _ _⟩
  | true =>
    simp at hpre
    cases q2 with
    | false =>
      clear hpre
      go_enter Tryz.func128, Tryz.ntmps128
      go_wp2_with (first | (go_at_call 56; refine (hwd _).mono ?_; rintro e w' ⟨rfl, rfl⟩) | (go_at_call 62; refine (hin _).mono ?_; rintro e w' ⟨rfl, rfl⟩))
      go_ret
      exact ⟨rfl, hbl _ _⟩
    | true =>
      simp at hpre
      subst hpre
      go_enter Tryz.func128, Tryz.ntmps128
      go_wp2_with (first | (go_at_call 56; refine (hwd _).mono ?_; rintro e w' ⟨rfl, rfl⟩) | (go_at_call 62; refine (hin _).mono ?_; rintro e w' ⟨rfl, rfl⟩) | (go_at_call 165; refine (hcon _ (hbl _ _)).mono ?_; rintro e w' ⟨rfl, hb'⟩))
      go_ret
      exact ⟨rfl, (hbl _ _).then hb'⟩
set_option maxHeartbeats 4000000 in
theorem c_isFunc_ok (f : XFunc) (cs : List Value) (funcs : Int) (w : World) (hf : KFunc lm w f cs) (hpre : funcPre f = true) (hf0 : 0 ≤ funcs) (hf1 : funcs ≤ 1048576) :
    Calls Tryz.prog 128 #[.agg cs.toArray, .int .i64 funcs] w (Ret (.bool (funcOk f funcs)) w) := by
  have hR := Hd.mk (funcOk_pre f funcs)
  rw [hpre] at hR
  have hcount := fun W hW => c_CountOf f cs W (KM.mv hf hW)
  obtain ⟨v1, v2, rfl, hp, hb⟩ := hf
  obtain ⟨A1, c1, rfl, -, hl1, hp0⟩ := hp.sm
  obtain ⟨A2, c2, rfl, -, hl2, hb0⟩ := hb.sm
  have e1 := enters_of Tryz.func166 (by kernel_rfl) rfl
  have e2 := enters_of Tryz.func168 (by kernel_rfl) rfl
  have e3 := enters_of Tryz.func170 (by kernel_rfl) rfl
  have hcon := fun W hW => c_ConI _ f.params _ #[] (fun n => !widthOk n) W (hp0.out.mv hW) e1 (pb_isFunc1 W)
  simp only [any_not] at hcon
  have hwd := c_WidthOk f.ret
  have hin := c_within f.blocks.length 1 10
  have hbl := fun o o' => ((Below.refl w.heap.size w).al (Nat.le_refl _) o).al (by simp) o'
  have hc0 := countOf_nn f
  simp only [funcPre, Bool.and_eq_true, decide_eq_true_eq] at hpre
  obtain ⟨h1, h2, h3, h4⟩ := hpre
  rw [h2] at hwd
  rw [h3] at hin
  rw [h4] at hcon
  clear hb hp h2 h3 h4
  generalize funcOk f funcs = R at *
  generalize countOf f = ids at *
  generalize f.params.length = n at *
  generalize f.ret = r at *
  generalize f.blocks = l at *
  have h2 : decide (4 < (n : Int)) = false := by simp; omega
  go_enter Tryz.func128, Tryz.ntmps128
  go_wp2_with fail
  refine (hwd _).mono ?_; rintro e w' ⟨rfl, rfl⟩
  go_wp2_with fail
  refine (hin _).mono ?_; rintro e w' ⟨rfl, rfl⟩
  go_wp2_with fail
  refine (hcon _ (hbl _ _)).mono ?_; rintro e w1 ⟨rfl, hb1⟩
  have k0 := bat hb1 w.heap.size (by simp; omega)
  have k1 := bat hb1 (w.heap.size + 1) (by simp)
  simp at k0 k1
  have hbw1 := Hd.mk ((hbl _ _).then hb1)
  have hz1 := hb1.size
  simp at hz1
  clear hb1 hcon hin hwd
  go_wp2_with fail
  refine (hcount _ hbw1.out).mono ?_; rintro e w2 ⟨rfl, hb2⟩
  replace k0 := fun o => (bat hb2 w.heap.size (by omega) o).trans (k0 o)
  replace k1 := fun o => (bat hb2 (w.heap.size + 1) (by omega) o).trans (k1 o)
  have hbw2 := Hd.mk (hbw1.out.then hb2)
  have hz2 := hb2.size
  clear hb2 hbw1 hcount
  by_cases hi : 60 < ids
  · have h5 : decide (ids ≤ 60) = false := by simp; omega
    have e := hR.out
    rw [h5] at e
    simp at e
    subst e
    clear h5
    go_wp2
    go_ret
    exact ⟨rfl, hbw2.out.al hbw2.out.size _⟩
  have h5 : decide (ids ≤ 60) = true := by simp; omega
  rw [h5] at hR
  clear h5
  have z0 : w.heap.size < w2.heap.size := by omega
  have z1 : w.heap.size + 1 < w2.heap.size := by omega
  go_wp2
  generalize hw3 : w2.alloc (.cells #[.int .i64 ids] 2) = w3
  have hb3 : Below w2.heap.size w2 w3 := by subst hw3; exact (Below.refl _ _).al (Nat.le_refl _) _
  replace k0 := fun o => (bat hb3 w.heap.size (by omega) o).trans (k0 o)
  replace k1 := fun o => (bat hb3 (w.heap.size + 1) (by omega) o).trans (k1 o)
  have k2 : w3.cell? ⟨w2.heap.size, 0, none⟩ = some (.int .i64 ids) := by subst hw3; simp
  have hz3 : w2.heap.size + 1 = w3.heap.size := by subst hw3; simp
  have hbw3 := Hd.mk (hbw2.out.then hb3)
  clear hw3 hb3 hbw2
  go_loopw [37] (fun s37 wr => ∃ k : Nat, k ≤ l.length ∧ s37 = .int .i64 k ∧ Hd (Below w3.heap.size w3 wr) ∧ Hd ((l.take k).all (blockOk ids funcs l.length) = true)) (fun s37 _ => l.length - (intOf s37).toNat)
  case atStart => exact ⟨0, Nat.zero_le _, rfl, ⟨Below.refl _ _⟩, ⟨by simp⟩⟩
  case round =>
    obtain ⟨k, hk, rfl, hbw, hall⟩ := hrel
    have hzr := hbw.out.size
    have hbr := Hd.mk (hbw3.out.then hbw.out)
    replace k0 := fun o => (bat hbw.out w.heap.size (by omega) o).trans (k0 o)
    replace k1 := fun o => (bat hbw.out (w.heap.size + 1) (by omega) o).trans (k1 o)
    replace k2 := (bat hbw.out w2.heap.size (by omega) 0).trans k2
    by_cases hlt : k < l.length
    · obtain ⟨b, off, cs, hA, hbl, ⟨v1, v2, rfl, hr, hr2⟩, hat⟩ := hb0.out.in_ hbr.out k hlt
      cases hA
      have g0 := hat 0 _ rfl
      have g1 := hat 1 _ rfl
      have g2 := hat 2 _ rfl
      have g3 := hat 3 _ rfl
      have g4 := hat 4 _ rfl
      have g5 := hat 5 _ rfl
      clear hat
      simp at g0 g1 g2 g3 g4 g5
      have hsn := Hd.mk (all_take_snoc (blockOk ids funcs l.length) l k hlt)
      have hfail := fun h => Hd.mk (all_false_of (blockOk ids funcs l.length) l k hlt h)
      have hbk : blockOk ids funcs l.length l[k] = (l[k].phis.all (phiOk ids) && (l[k].insts.all (instOk ids funcs) && termOk ids l.length l[k].term)) := by simp only [blockOk, Bool.and_assoc]
      generalize l[k] = x at *
      have hcP := fun W (hW : Below wr.heap.size wr W) => c_ConPhi v1 x.phis _ #[.pointer (some ⟨w2.heap.size, 0, none⟩)] (fun p => !phiOk ids p) W (hr.mv hW) e2 (pb_isFunc2 W w2.heap.size ids (by have := hW.size; omega) ((bat hW w2.heap.size (by omega) 0).trans k2) hc0 (by omega))
      have hcI := fun W (hW : Below wr.heap.size wr W) => c_ConInst v2 x.insts _ #[.pointer (some ⟨w2.heap.size, 0, none⟩), .pointer (some ⟨w.heap.size + 1, 0, none⟩)] (fun p => !instOk ids funcs p) W (hr2.mv hW) e3 (pb_isFunc3 W w2.heap.size (w.heap.size + 1) ids funcs (by have := hW.size; omega) (by have := hW.size; omega) ((bat hW w2.heap.size (by omega) 0).trans k2) ((bat hW (w.heap.size + 1) (by omega) 0).trans (k1 0)) hc0 (by omega) hf0 hf1)
      simp only [any_not] at hcP hcI
      have hT := c_isTerm (.slice A1 n c1) r (some ⟨b, off, none⟩) l.length c2 x.term ids
      obtain ⟨A3, c3, rfl, -, -, -⟩ := hr.sm
      obtain ⟨A4, c4, rfl, -, -, -⟩ := hr2.sm
      generalize x.phis.all (phiOk ids) = q1 at *
      generalize x.insts.all (instOk ids funcs) = q2 at *
      generalize termOk ids l.length x.term = q3 at *
      have hbl2 := fun o => (Below.refl wr.heap.size wr).al (Nat.le_refl _) o
      clear hr hr2
      have z0 : w.heap.size < wr.heap.size := by omega
      have z1 : w.heap.size + 1 < wr.heap.size := by omega
      have z2 : w2.heap.size < wr.heap.size := by omega
      cases q1 with
      | false =>
        have hR2 := hR.out
        rw [(hfail (by rw [hbk]; rfl)).out] at hR2
        simp at hR2
        subst hR2
        go_wp2_with fail
        refine (hcP _ (hbl2 _)).mono ?_; rintro e w4 ⟨rfl, hb4⟩
        go_wp2
        go_ret
        exact ⟨rfl, (hbr.out.al hbr.out.size _).then hb4⟩
      | true =>
        go_wp2_with fail
        refine (hcP _ (hbl2 _)).mono ?_; rintro e w4 ⟨rfl, hb4⟩
        have k3 := bat hb4 wr.heap.size (by simp)
        replace k0 := fun o => (bat hb4 w.heap.size (by simp; omega) o).trans ((World.cell?_alloc_past _ _ _ z0).trans (k0 o))
        simp at k3
        have hbw4 := Hd.mk ((hbl2 _).then hb4)
        have hz4 := hb4.size
        simp at hz4
        replace k2 := (bat hb4 w2.heap.size (by simp; omega) 0).trans ((World.cell?_alloc_past _ _ _ z2).trans k2)
        clear hb4 hcP
        cases q2 with
        | false =>
          have hR2 := hR.out
          rw [(hfail (by rw [hbk]; rfl)).out] at hR2
          simp at hR2
          subst hR2
          go_wp2_with fail
          refine (hcI _ hbw4.out).mono ?_; rintro e w5 ⟨rfl, hb5⟩
          go_wp2
          go_ret
          exact ⟨rfl, (hbr.out.then hbw4.out).then hb5⟩
        | true =>
          go_wp2_with fail
          refine (hcI _ hbw4.out).mono ?_; rintro e w5 ⟨rfl, hb5⟩
          replace k0 := fun o => (bat hb5 w.heap.size (by omega) o).trans (k0 o)
          replace k2 := (bat hb5 w2.heap.size (by omega) 0).trans k2
          replace k3 := fun o => (bat hb5 wr.heap.size (by omega) o).trans (k3 o)
          have hbw5 := Hd.mk (hbw4.out.then hb5)
          clear hb5 hcI
          go_wp2_with fail
          refine (hT _ hl2 hc0 (by omega)).mono ?_; rintro e w6 ⟨rfl, hb6⟩
          have hbw6 := Hd.mk (hbw5.out.then hb6)
          cases q3 with
          | false =>
            have hR2 := hR.out
            rw [(hfail (by rw [hbk]; rfl)).out] at hR2
            simp at hR2
            subst hR2
            go_wp2
            go_ret
            exact ⟨rfl, hbr.out.then hbw6.out⟩
          | true =>
            go_wp2
            go_roundw
            case rel => exact ⟨k + 1, by omega, by go_num, ⟨hbw.out.then hbw6.out⟩, ⟨by rw [hsn.out, hall.out, hbk]; rfl⟩⟩
            case measure => simp [intOf]; omega
    · have e : k = l.length := by omega
      subst e
      have hR2 := hR.out
      rw [List.take_length] at hall
      rw [hall.out] at hR2
      simp at hR2
      subst hR2
      go_wp2
      go_ret
      exact ⟨rfl, hbr.out⟩
theorem c_isId (f : XFunc) (cs : List Value) (id : Int) (w : World) (hf : KFunc lm w f cs) (hc : countOf f ≤ 9223372036854775807) : Calls Tryz.prog 215 #[.agg cs.toArray, .int .i64 id] w (Ret (.bool (isIdB (countOf f) id)) w) := by
  have hcount := fun W hW => c_CountOf f cs W (KM.mv hf hW)
  have hc0 := countOf_nn f
  obtain ⟨v1, v2, rfl, hp, hb⟩ := hf
  have hbl := fun o => (Below.refl w.heap.size w).al (Nat.le_refl _) o
  have hin := fun n => c_within id 0 n
  clear hp hb
  generalize countOf f = ids at *
  go_enter Tryz.func215, Tryz.ntmps215
  go_wp2_with fail
  refine (hcount _ (by first | exact hbl _ | exact Below.refl _ _)).mono ?_; rintro e w1 ⟨rfl, hb1⟩
  go_wp2_with (go_at_call 62; refine (hin _ _).mono ?_; rintro e w' ⟨rfl, rfl⟩)
  go_ret
  exact ⟨rfl, by first | exact hb1 | exact (hbl _).then hb1⟩
set_option maxHeartbeats 2000000 in
theorem c_PlaceOf (f : XFunc) (cs : List Value) (id : Int) (w : World) (hf : KFunc lm w f cs) (hc : countOf f ≤ 1099511627776) :
    Calls Tryz.prog 184 #[.agg cs.toArray, .int .i64 id] w (Ret (.tuple #[.int .i64 (placeOf f id).1, .int .i64 (placeOf f id).2]) w) := by
  have hid := fun W hW => c_isId f cs id W (KM.mv hf hW) (by omega)
  have hc0 := countOf_nn f
  obtain ⟨v1, v2, rfl, hp, hb⟩ := hf
  have hbd := Hd.mk hb.blocks
  obtain ⟨A1, c1, rfl, -, hl1, -⟩ := hp.sm
  obtain ⟨A2, c2, rfl, -, hl2, hb0⟩ := hb.sm
  have hbl := fun o => (Below.refl w.heap.size w).al (Nat.le_refl _) o
  clear hp hb
  have hR := Hd.mk (placeOf_eq f id)
  have hcd : countOf f = countIn f.params.length f.blocks := rfl
  generalize hq : isIdB (countOf f) id = q at *
  generalize placeOf f id = R at *
  generalize f.params.length = n at *
  generalize f.blocks = l at *
  generalize f.ret = r at *
  cases q with
  | false =>
    have hR2 := hR.out
    simp at hR2
    subst hR2
    clear hq hcd
    go_enter Tryz.func184, Tryz.ntmps184
    go_wp2_with (go_at_call 215; refine (hid _ (hbl _)).mono ?_; rintro e w1 ⟨rfl, hb1⟩)
    go_ret2
    exact ⟨rfl, (hbl _).then hb1⟩
  | true =>
    have hid2 : 0 ≤ id ∧ id ≤ countOf f - 1 := by simpa [isIdB, inR] using hq
    obtain ⟨hi0, hi1⟩ := hid2
    have hcd' := Hd.mk hcd
    clear hq hcd
    generalize countOf f = ids at *
    by_cases hlt : id < n
    · have hR2 := hR.out
      simp [hlt] at hR2
      subst hR2
      go_enter Tryz.func184, Tryz.ntmps184
      go_wp2_with fail
      refine (hid _ (hbl _)).mono ?_; rintro e w1 ⟨rfl, hb1⟩
      have k0 := bat hb1 w.heap.size (by simp)
      simp at k0
      go_wp2
      go_ret2
      exact ⟨rfl, (hbl _).then hb1⟩
    · have hR2 := Hd.mk hR.out
      clear hR
      replace hR2 := hR2.out
      simp [hlt] at hR2
      have hR := Hd.mk hR2
      clear hR2
      go_enter Tryz.func184, Tryz.ntmps184
      go_wp2_with fail
      refine (hid _ (hbl _)).mono ?_; rintro e w1 ⟨rfl, hb1⟩
      have k0 := bat hb1 w.heap.size (by simp)
      simp at k0
      have hbw := Hd.mk ((hbl _).then hb1)
      clear hb1 hid
      go_wp2
      go_loopw [6, 24] (fun s6 s24 wr => ∃ k : Nat, k ≤ l.length ∧ s24 = .int .i64 k ∧ s6 = .int .i64 (countIn n (l.take k)) ∧ Hd (Below w.heap.size w wr) ∧ Hd (R = placeIn (l.drop k) k (countIn n (l.take k)) id) ∧ Hd (countIn n (l.take k) ≤ id)) (fun _ s24 _ => l.length - (intOf s24).toNat)
      case atStart => exact ⟨0, Nat.zero_le _, rfl, by simp [countIn], hbw, ⟨by rw [hR.out]; simp [countIn]⟩, ⟨by simp [countIn]; omega⟩⟩
      case round =>
        obtain ⟨k, hk, rfl, rfl, hbr, hR, hle⟩ := hrel
        have hc1 := countIn_bd n l k hbd.out hk
        have hc2 := countIn_le n (l.take k)
        by_cases hlt : k < l.length
        · obtain ⟨b, off, cs, hA, hbl, ⟨v1, v2, rfl, hr, hr2⟩, hat⟩ := hb0.out.in_ hbr.out k hlt
          cases hA
          have g0 := hat 0 _ rfl
          have g1 := hat 1 _ rfl
          have g2 := hat 2 _ rfl
          have g3 := hat 3 _ rfl
          have g4 := hat 4 _ rfl
          have g5 := hat 5 _ rfl
          clear hat
          simp at g0 g1 g2 g3 g4 g5
          obtain ⟨A1, c1, rfl, -, hl3, -⟩ := hr.sm
          obtain ⟨A2, c2, rfl, -, hl4, -⟩ := hr2.sm
          have hsn := Hd.mk (countIn_snoc n l k hlt)
          have hdr := Hd.mk (placeIn_drop l k hlt (countIn n (l.take k)) id)
          have hsz := Hd.mk (show sizeB l[k] = l[k].phis.length + l[k].insts.length from rfl)
          have hle' := hle.out
          generalize countIn n (l.take k) = s at *
          have hb1 := hbr.out.size
          by_cases hin : id < s + (l[k].phis.length + l[k].insts.length)
          · have hR2 := hR.out
            rw [hdr.out, if_pos (by rw [hsz.out]; exact hin)] at hR2
            subst hR2
            go_wp2
            go_ret2
            exact ⟨rfl, hbr.out.al hb1 _⟩
          · go_wp2
            go_roundw
            case rel =>
              refine ⟨k + 1, by omega, by go_num, by rw [hsn.out, hsz.out], ⟨hbr.out.al hb1 _⟩, ⟨?_⟩, ⟨?_⟩⟩
              · rw [hR.out, hdr.out, if_neg (by rw [hsz.out]; exact hin), hsn.out]
              · rw [hsn.out, hsz.out]; omega
            case measure => simp [intOf]; omega
        · exfalso
          have e : k = l.length := by omega
          subst e
          rw [List.take_length] at hle
          have := hle.out
          rw [← hcd'.out] at this
          omega
def RetInst (f : XFunc) (id : Int) (w : World) (e : Ending) (w' : World) : Prop := ∃ cs, e = .returned (.tuple #[.agg cs.toArray, .bool (instAt f id).2]) ∧ KInst lm w' (instAt f id).1 cs ∧ Below w.heap.size w w'
theorem rd_nil {α : Type} (sz : Nat) (K : World → α → List Value → Prop) (w : World) : Rd lm sz K w (.slice none 0 0) [] := ⟨none, 0, rfl, Nat.le_refl _, by simp, fun _ => rfl, fun h => absurd h (by simp)⟩
theorem kinst0 (w : World) : KInst lm w inst0 [.int .i64 0, .int .i64 0, .int .i64 0, .int .i64 0, .int .i64 0, .int .i64 0, .slice none 0 0] := ⟨_, rfl, rd_nil _ _ _⟩
set_option maxHeartbeats 4000000 in
set_option maxRecDepth 100000 in
theorem c_instOf (f : XFunc) (cs : List Value) (id : Int) (w : World) (hf : KFunc lm w f cs) (hc : countOf f ≤ 1099511627776) :
    Calls Tryz.prog 185 #[.agg cs.toArray, .int .i64 id] w (RetInst f id w) := by
  have hpl := fun W hW => c_PlaceOf f cs id W (KM.mv hf hW) hc
  obtain ⟨v1, v2, rfl, hp, hb⟩ := hf
  obtain ⟨A1, c1, rfl, -, hl1, -⟩ := hp.sm
  obtain ⟨A2, c2, rfl, -, hl2, hb0⟩ := hb.sm
  have hbl := fun o o' => ((Below.refl w.heap.size w).al (Nat.le_refl _) o).al (by simp) o'
  clear hp hb
  have hcase : (∃ b at_, placeOf f id = (b, at_) ∧ b < 0 ∧ -9223372036854775807 ≤ b ∧ at_ ≤ 9223372036854775807) ∨ ∃ k, ∃ h : k < f.blocks.length, placeOf f id = ((k : Int), id - countIn f.params.length (f.blocks.take k)) ∧ countIn f.params.length (f.blocks.take k) ≤ id ∧ id < countIn f.params.length (f.blocks.take k) + sizeB f.blocks[k] := by
    rcases placeOf_cases f id with h | h | h
    · exact .inl ⟨_, _, h.1, by omega, by omega, by omega⟩
    · exact .inl ⟨_, _, h.1, by omega, by omega, by omega⟩
    · exact .inr h
  rcases hcase with ⟨b, at_, h, hb1, hb2, hb3⟩ | ⟨k, hk, h1, h2, h3⟩
  · have hI : instAt f id = (inst0, false) := by simp [instAt, h, hb1]
    rw [h] at hpl
    generalize hq : instAt f id = I at *
    unfold RetInst
    rw [hq, hI]
    clear h hq
    go_enter Tryz.func185, Tryz.ntmps185
    go_wp2_with fail
    refine (hpl _ (hbl _ _)).mono ?_; rintro e w1 ⟨rfl, hb1⟩
    have k1 := bat hb1 (w.heap.size + 1) (by simp)
    have f1 := fat hb1 (w.heap.size + 1) (by simp)
    have hz1 := hb1.size
    simp at k1 f1 hz1
    go_wp2
    refine bodyPost_ret (v := .tuple #[.agg #[.int .i64 0, .int .i64 0, .int .i64 0, .int .i64 0, .int .i64 0, .int .i64 0, .slice none 0 0], .bool false]) (by simp [results, Tryz.results185, go_sem, k1]) rfl ⟨_, rfl, kinst0 _, ?_⟩
    repeat (refine Below.setCell ?_ (by simp) _)
    exact (hbl _ _).then hb1
  · rw [h1] at hpl
    obtain ⟨at_, hat_⟩ : ∃ at_, at_ = id - countIn f.params.length (f.blocks.take k) := ⟨_, rfl⟩
    rw [← hat_] at hpl h1
    have ha0 : 0 ≤ at_ := by omega
    have ha1 : at_ < sizeB f.blocks[k] := by omega
    have hgd : f.blocks.getD k block0 = f.blocks[k] := by simp [hk]
    have hI : instAt f id = if at_ < (f.blocks[k].phis.length : Int) then (inst0, false) else (f.blocks[k].insts.getD (at_ - f.blocks[k].phis.length).toNat inst0, true) := by
      simp only [instAt, h1]
      rw [if_neg (by omega), Int.toNat_natCast, hgd]
    have hin := fun W (hW : Below w.heap.size w W) => hb0.out.in0 hW k hk
    have hsz : sizeB f.blocks[k] = f.blocks[k].phis.length + f.blocks[k].insts.length := rfl
    clear h2 h3 hat_ h1 hgd hc
    unfold RetInst
    rw [hI]
    clear hI
    generalize f.blocks[k] = x at *
    generalize f.blocks.length = m at *
    generalize f.params.length = n at *
    rw [hsz] at ha1
    clear hsz
    have hkm : (k : Int) < (m : Int) := by omega
    have hk0 : (0 : Int) ≤ (k : Int) := by omega
    by_cases hph : at_ < (x.phis.length : Int)
    · rw [if_pos hph]
      go_enter Tryz.func185, Tryz.ntmps185
      go_wp2_with fail
      refine (hpl _ (hbl _ _)).mono ?_; rintro e w1 ⟨rfl, hb1⟩
      have k0 := bat hb1 w.heap.size (by simp; omega)
      have k1 := bat hb1 (w.heap.size + 1) (by simp)
      have f1 := fat hb1 (w.heap.size + 1) (by simp)
      have hz1 := hb1.size
      simp at k0 k1 f1 hz1
      obtain ⟨b, off, cs, hA, hbl0, ⟨v1, v2, rfl, hr, hr2⟩, hat⟩ := hin w1 ((hbl _ _).then hb1)
      cases hA
      have g0 := hat 0 _ rfl
      simp at g0
      obtain ⟨A3, c3, rfl, -, hl3, -⟩ := hr.sm
      clear hat
      go_wp2
      refine bodyPost_ret (v := .tuple #[.agg #[.int .i64 0, .int .i64 0, .int .i64 0, .int .i64 0, .int .i64 0, .int .i64 0, .slice none 0 0], .bool false]) (by simp [results, Tryz.results185, go_sem, k1]) rfl ⟨_, rfl, kinst0 _, ?_⟩
      repeat (refine Below.setCell ?_ (by simp) _)
      exact (hbl _ _).then hb1
    · rw [if_neg hph]
      obtain ⟨j, hj⟩ : ∃ j : Nat, at_ = x.phis.length + j := ⟨(at_ - x.phis.length).toNat, by omega⟩
      have hjl : j < x.insts.length := by omega
      rw [show (at_ - x.phis.length).toNat = j by omega, show x.insts.getD j inst0 = x.insts[j] by simp [hjl]]
      subst hj
      go_enter Tryz.func185, Tryz.ntmps185
      go_wp2_with fail
      refine (hpl _ (hbl _ _)).mono ?_; rintro e w1 ⟨rfl, hb1⟩
      have k0 := bat hb1 w.heap.size (by simp; omega)
      have k1 := bat hb1 (w.heap.size + 1) (by simp)
      have f1 := fat hb1 (w.heap.size + 1) (by simp)
      have hz1 := hb1.size
      simp at k0 k1 f1 hz1
      obtain ⟨b, off, cs, hA, hbl0, ⟨v1, v2, rfl, hr, hr2⟩, hat⟩ := hin w1 ((hbl _ _).then hb1)
      cases hA
      have g0 := hat 0 _ rfl
      have g1 := hat 1 _ rfl
      simp at g0 g1
      obtain ⟨A3, c3, rfl, -, hl3, -⟩ := hr.sm
      obtain ⟨A4, c4, rfl, -, hl4, hr20⟩ := hr2.sm
      obtain ⟨b5, off5, cs5, hA5, hbl5, ⟨v5, rfl, hr5⟩, hat5⟩ := hr20.out.in0 ((hbl _ _).then hb1) j hjl
      cases hA5
      obtain ⟨A5, c5, rfl, -, -, hr50⟩ := hr5.sm
      have i0 := hat5 0 _ rfl
      have i1 := hat5 1 _ rfl
      have i2 := hat5 2 _ rfl
      have i3 := hat5 3 _ rfl
      have i4 := hat5 4 _ rfl
      have i5 := hat5 5 _ rfl
      have i6 := hat5 6 _ rfl
      simp at i0 i1 i2 i3 i4 i5 i6
      have hpj : ((x.phis.length : Int) + (j : Int) < (x.phis.length : Int)) = False := eq_false (by omega)
      have hsub : (x.phis.length : Int) + (j : Int) - (x.phis.length : Int) = (j : Int) := by omega
      have hj0 : (j : Int) < (x.insts.length : Int) := by omega
      have hjw : IntKind.i64.wrap (j : Int) = (j : Int) := IntWalk.i64_in _ (by omega)
      clear hat hat5 hr2 hr
      go_wp2
      go_still_tail 17, (by kernel_rfl)
      change wpList _ _ _ _ _ w1.drew
      go_wp2
      refine bodyPost_ret (v := .tuple #[.agg #[.int .i64 x.insts[j].op, .int .i64 x.insts[j].w, .int .i64 x.insts[j].a, .int .i64 x.insts[j].b, .int .i64 x.insts[j].c, .int .i64 x.insts[j].imm, .slice A5 x.insts[j].args.length c5], .bool true]) (by simp [results, Tryz.results185, go_sem, k1]) rfl ⟨_, rfl, ⟨_, rfl, hr50.out.mv ?h1⟩, ?h2⟩
      all_goals
        apply Below.drew
        repeat (refine Below.setCell ?_ (by simp) _)
        exact (hbl _ _).then hb1
set_option maxHeartbeats 400000 in
theorem c_IndexI (v : Value) (xs : List Int) (x : Int) (w : World) (hv : RI lm w v xs) : Calls Tryz.prog 143 #[v, .int .i64 x] w (Ret (.int .i64 (idx (fun y => x == y) xs)) w) := by
  obtain ⟨A, c, rfl, h1, h2, hv0⟩ := hv.sm
  clear hv
  go_enter Tryz.func143, Tryz.ntmps143
  go_wp2
  go_loopw [5, 8] (fun _ s8 wr => ∃ k : Nat, k ≤ xs.length ∧ s8 = .int .i64 k ∧ Hd (Below w.heap.size w wr) ∧ Hd (∀ j (h : j < xs.length), j < k → (x == xs[j]) = false)) (fun _ s8 _ => xs.length - (intOf s8).toNat)
  case atStart => exact ⟨0, Nat.zero_le _, rfl, ⟨Below.refl _ w⟩, ⟨fun j _ h => absurd h (Nat.not_lt_zero _)⟩⟩
  case round =>
    obtain ⟨k, hk, rfl, hb, hn⟩ := hrel
    by_cases hlt : k < xs.length
    · obtain ⟨b, off, cs, hA, hbl, hkk, hat⟩ := hv0.out.in0 hb.out k hlt
      cases hA
      cases hkk
      have g0 := hat 0 _ rfl
      simp at g0
      clear hat
      cases hq : (x == xs[k]) with
      | true =>
        have hq' := Hd.mk hq
        have hq2 : (xs[k] == x) = true := by rw [Bool.beq_comm] at hq; simpa using hq
        go_wp2
        go_ret
        exact ⟨by rw [idx_hit (fun y => x == y) xs k hlt hq'.out hn.out]; rfl, hb.out⟩
      | false =>
        have hq' := Hd.mk hq
        go_wp2
        go_roundw
        case rel =>
          refine ⟨k + 1, by omega, by go_num, hb, ⟨fun j hj hjk => ?_⟩⟩
          by_cases e : j = k
          · subst e; exact hq'.out
          · exact hn.out j hj (by omega)
        case measure => simp [intOf]; omega
    · have e : k = xs.length := by omega
      subst e
      go_wp2
      go_ret
      exact ⟨by rw [idx_miss (fun y => x == y) xs (fun j hj => hn.out j hj hj)]; rfl, hb.out⟩
def hasI (xs : List Int) (x : Int) : Bool := xs.any (fun y => x == y)
theorem c_ContainsI (v : Value) (xs : List Int) (x : Int) (w : World) (hv : RI lm w v xs) : Calls Tryz.prog 187 #[v, .int .i64 x] w (Ret (.bool (hasI xs x)) w) := by
  rw [hasI, ← idx_any]
  have hi := c_IndexI v xs x w hv
  clear hv
  go_enter Tryz.func187, Tryz.ntmps187
  go_wp2_with (go_at_call 143; refine hi.mono ?_; rintro e w' ⟨rfl, hb'⟩)
  go_ret
  exact ⟨rfl, hb'⟩
theorem c_isFunc (f : XFunc) (cs : List Value) (funcs : Int) (w : World) (hf : KFunc lm w f cs) (hf0 : 0 ≤ funcs) (hf1 : funcs ≤ 1048576) :
    Calls Tryz.prog 128 #[.agg cs.toArray, .int .i64 funcs] w (Ret (.bool (funcOk f funcs)) w) := by
  cases h : funcPre f with
  | true => exact c_isFunc_ok f cs funcs w hf h hf0 hf1
  | false => rw [funcOk_pre, h]; exact c_isFunc_pre f cs funcs w hf h
theorem s_l1In (n lo hi : Int) (w : World) : Calls Tryz.prog 47 #[.int .i64 n, .int .i64 lo, .int .i64 hi] w (Same (.bool (inR n lo hi)) w) := by
  unfold inR
  by_cases h : lo ≤ n
  all_goals
    go_enter Tryz.func47, Tryz.ntmps47
    go_wp2
    go_ret
    exact ⟨by first | (simp [h]; done) | (have h' : ¬ lo ≤ n := (by omega); simp [h']), rfl⟩
theorem s_WidthOk (n : Int) (w : World) : Calls Tryz.prog 105 #[.int .i64 n] w (Same (.bool (widthOk n)) w) := by
  go_enter Tryz.func105, Tryz.ntmps105
  go_wp2
  all_goals
    go_ret
    exact ⟨by simp [widthOk, *], rfl⟩
theorem s_l1Top (n : Int) (w : World) (h : widthOk n = true) : Calls Tryz.prog 106 #[.int .i64 n] w (Same (.int .i64 (2 ^ n.toNat)) w) := by
  simp only [widthOk, Bool.or_eq_true, beq_iff_eq] at h
  rcases h with ((rfl | rfl) | rfl) | rfl
  all_goals
    go_enter Tryz.func106, Tryz.ntmps106
    go_wp2
    go_ret
    exact ⟨rfl, rfl⟩
theorem pow_bd (n : Int) (h : widthOk n = true) : (2 : Int) ≤ 2 ^ n.toNat ∧ (2 : Int) ^ n.toNat ≤ 4294967296 := by
  simp only [widthOk, Bool.or_eq_true, beq_iff_eq] at h
  rcases h with ((rfl | rfl) | rfl) | rfl <;> decide
theorem s_l1Value (n v : Int) (w : World) : Calls Tryz.prog 76 #[.int .i64 n, .int .i64 v] w (Same (.bool (isVal n v)) w) := by
  unfold isVal
  cases h : widthOk n with
  | false =>
    have hw := s_WidthOk n
    rw [h] at hw
    clear h
    go_enter Tryz.func76, Tryz.ntmps76
    go_wp2_with (go_at_call 105; refine (hw _).mono ?_; rintro e w' ⟨rfl, rfl⟩)
    go_ret
    exact ⟨by simp, rfl⟩
  | true =>
    have hw := s_WidthOk n
    rw [h] at hw
    have hbd := pow_bd n h
    have ht := fun w => s_l1Top n w h
    clear h
    generalize (2 : Int) ^ n.toNat = t at *
    obtain ⟨hb1, hb2⟩ := hbd
    go_enter Tryz.func76, Tryz.ntmps76
    go_wp2_with (first | (go_at_call 105; refine (hw _).mono ?_; rintro e w' ⟨rfl, rfl⟩) | (go_at_call 106; refine (ht _).mono ?_; rintro e w' ⟨rfl, rfl⟩) | (go_at_call 47; refine (s_l1In _ _ _ _).mono ?_; rintro e w' ⟨rfl, rfl⟩))
    go_ret
    exact ⟨by simp, rfl⟩
set_option maxHeartbeats 400000 in
theorem s_l1Copy (v : Value) (xs : List Int) (w : World) (hv : RI lm w v xs) : Calls Tryz.prog 119 #[v] w (RetI xs w) := by
  obtain ⟨A, c, rfl, h1, h2, hv0⟩ := hv.sm
  clear hv
  go_enter Tryz.func119, Tryz.ntmps119
  go_wp2_with (at_builtin; refine app_I rfl _ _ rfl w.heap.size _ [] xs rfl ?h1 A xs.length c rfl ?h2 (by simp) ?h3 ?h4)
  case h1 => exact own_empty _ _ _ _ _ rfl (Nat.le_refl _)
  case h2 => exact hv0.out.mv ((Below.refl _ _).al (Nat.le_refl _) _)
  case h3 => simp
  case h4 =>
    intro v' w' ho hg
    go_wp2
    go_ret
    refine ⟨_, rfl, ho, ((Below.refl _ w).al (Nat.le_refl _) (.cells #[] 2)).grown hg (by simp) (fun k hk => ?_)⟩
    simp only [Value.ownBlock, Option.some.injEq] at hk; omega
set_option maxHeartbeats 1000000 in
theorem s_l2Operands (i : XInst) (v : Value) (w : World) (hv : RI lm w v i.args) : Calls Tryz.prog 153 #[instV i v] w (RetI (opsOf i) w) := by
  obtain ⟨op, wd, a, b, c, imm, args⟩ := i
  simp only [instV] at hv ⊢
  have hv0 := Hd.mk hv
  have hbl := fun o => (Below.refl w.heap.size w).al (Nat.le_refl _) o
  clear hv
  by_cases h1 : bin op = true
  · have r1 : inR op 1 17 = true := h1
    rw [show opsOf ⟨op, wd, a, b, c, imm, args⟩ = [a, b] by simp [opsOf, h1]]
    clear h1
    go_enter Tryz.func153, Tryz.ntmps153
    go_wp2_with (go_at_call 47; refine (s_l1In _ _ _ _).mono ?_; rintro e w' ⟨rfl, rfl⟩)
    go_ret
    exact retI_made (hbl _) [a, b] 2 _ rfl (by simp) (by omega)
  rw [Bool.not_eq_true] at h1
  have r1 : inR op 1 17 = false := h1
  by_cases h2 : op = 24
  · subst h2
    rw [show opsOf ⟨24, wd, a, b, c, imm, args⟩ = [a, b] by simp [opsOf]]
    go_enter Tryz.func153, Tryz.ntmps153
    go_wp2_with (go_at_call 47; refine (s_l1In _ _ _ _).mono ?_; rintro e w' ⟨rfl, rfl⟩)
    go_ret
    exact retI_made (hbl _) [a, b] 2 _ rfl (by simp) (by omega)
  by_cases h3 : cst op = true
  · have r3 : inR op 18 20 = true := h3
    rw [show opsOf ⟨op, wd, a, b, c, imm, args⟩ = [a] by simp [opsOf, h1, h2, h3]]
    have b2 := beqF h2
    clear h1 h2 h3
    go_enter Tryz.func153, Tryz.ntmps153
    go_wp2_with (go_at_call 47; refine (s_l1In _ _ _ _).mono ?_; rintro e w' ⟨rfl, rfl⟩)
    go_ret
    exact retI_made (hbl _) [a] 1 _ rfl (by simp) (by omega)
  rw [Bool.not_eq_true] at h3
  have r3 : inR op 18 20 = false := h3
  by_cases h4 : op = 23 ∨ op = 25 ∨ op = 27
  · rcases h4 with rfl | rfl | rfl
    all_goals
      rw [show ∀ o, o = 23 ∨ o = 25 ∨ o = 27 → opsOf ⟨o, wd, a, b, c, imm, args⟩ = [a] from fun o ho => by rcases ho with rfl | rfl | rfl <;> simp [opsOf, bin, inR]]
      · clear h1 h2 h3
        go_enter Tryz.func153, Tryz.ntmps153
        go_wp2_with (go_at_call 47; refine (s_l1In _ _ _ _).mono ?_; rintro e w' ⟨rfl, rfl⟩)
        go_ret
        exact retI_made (hbl _) [a] 1 _ rfl (by simp) (by omega)
      · simp
  obtain ⟨h5, h6, h7⟩ : op ≠ 23 ∧ op ≠ 25 ∧ op ≠ 27 := by omega
  clear h4
  have b2 := beqF h2
  have b5 := beqF h5
  have b6 := beqF h6
  have b7 := beqF h7
  by_cases h8 : op = 22
  · subst h8
    rw [show opsOf ⟨22, wd, a, b, c, imm, args⟩ = [a, b, c] by simp [opsOf, bin, cst, inR]]
    clear h1 h2 h3 h5 h6 h7 b2 b5 b6 b7
    go_enter Tryz.func153, Tryz.ntmps153
    go_wp2_with (go_at_call 47; refine (s_l1In _ _ _ _).mono ?_; rintro e w' ⟨rfl, rfl⟩)
    go_ret
    exact retI_made (hbl _) [a, b, c] 3 _ rfl (by simp) (by omega)
  have b8 := beqF h8
  by_cases h9 : op = 26
  · subst h9
    rw [show opsOf ⟨26, wd, a, b, c, imm, args⟩ = args by simp [opsOf, bin, cst, inR]]
    clear h1 h2 h3 h5 h6 h7 b2 b5 b6 b7 b8 h8
    go_enter Tryz.func153, Tryz.ntmps153
    go_wp2_with (first | (go_at_call 47; refine (s_l1In _ _ _ _).mono ?_; rintro e w' ⟨rfl, rfl⟩) | (go_at_call 119; refine (s_l1Copy _ _ _ (hv0.out.mv (hbl _))).mono ?_; rintro e w' hr; obtain ⟨v', rfl, ho, hb'⟩ := hr.later (hbl _)))
    go_ret
    exact ⟨_, rfl, ho, hb'⟩
  · have b9 := beqF h9
    rw [show opsOf ⟨op, wd, a, b, c, imm, args⟩ = [] by simp [opsOf, h1, h2, h3, h5, h6, h7, h8, h9]]
    clear h1 h2 h3 h5 h6 h7 h8 h9
    go_enter Tryz.func153, Tryz.ntmps153
    go_wp2_with (go_at_call 47; refine (s_l1In _ _ _ _).mono ?_; rintro e w' ⟨rfl, rfl⟩)
    go_ret
    exact retI_made (hbl _) [] 0 _ rfl (by simp) (by omega)
end Go.Proofs.YtkcgejbnhpccdaaGreat
