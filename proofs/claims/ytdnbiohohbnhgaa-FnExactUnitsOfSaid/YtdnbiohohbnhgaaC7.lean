/- The contract of isFunc. No conditions. -/
import Derived.Test.YtdnbiohohbnhgaaC6
set_option linter.unusedSimpArgs false
set_option linter.unusedVariables false
namespace Go.Proofs.Ytdnbiohohbnhgaa
open Go.RowKit
theorem all_take_snoc {α : Type} (p : α → Bool) (l : List α) (k : Nat) (h : k < l.length) : (l.take (k + 1)).all p = ((l.take k).all p && p l[k]) := by
  rw [List.take_succ_eq_append_getElem h, List.all_append]; simp
/-- The tests ahead of the blocks. -/
def funcPre (f : XFunc) : Bool := decide (f.params.length ≤ 4) && (widthOk f.ret && (inR f.blocks.length 1 10 && f.params.all widthOk))
theorem funcOk_pre (f : XFunc) (funcs : Int) : funcOk f funcs = (funcPre f && (decide (countOf f ≤ 60) && f.blocks.all (blockOk (countOf f) funcs f.blocks.length))) := by
  simp only [funcOk, funcPre, Bool.and_assoc]
theorem countOf_nn (f : XFunc) : 0 ≤ countOf f := by have := countIn_le f.params.length f.blocks; unfold countOf; omega
theorem all_false_of {α : Type} (p : α → Bool) (l : List α) (k : Nat) (h : k < l.length) (hp : p l[k] = false) : l.all p = false := by
  rw [Bool.eq_false_iff]; intro h'; rw [List.all_eq_true] at h'
  rw [h' _ (List.getElem_mem h)] at hp; cases hp
set_option maxHeartbeats 2000000 in
theorem c_isFunc_pre (f : XFunc) (cs : List Value) (funcs : Int) (w : World) (hf : KFunc lm w f cs) (hpre : funcPre f = false) :
    Calls Try.prog 52 #[.agg cs.toArray, .int .i64 funcs] w (Ret (.bool false) w) := by
  obtain ⟨v1, v2, rfl, hp, hb⟩ := hf
  obtain ⟨A1, c1, rfl, -, hl1, hp0⟩ := hp.sm
  obtain ⟨A2, c2, rfl, -, hl2, -⟩ := hb.sm
  have e1 := enters_of Try.func84 (by kernel_rfl) rfl
  have hcon := fun W hW => c_ConI _ f.params _ #[] (fun n => !widthOk n) W (hp0.out.mv hW) e1 (pb_isFunc1 W)
  simp only [any_not] at hcon
  have hwd := c_WidthOk f.ret
  have hin := c_within f.blocks.length 1 10
  have hbl := fun o o' => ((Below.refl w.heap.size w).al (Nat.le_refl _) o).al (by simp) o'
  unfold funcPre at hpre
  clear hb hp
  generalize widthOk f.ret = q1 at *
  generalize inR f.blocks.length 1 10 = q2 at *
  generalize f.params.all widthOk = q3 at *
  generalize f.params.length = n at *
  generalize f.blocks.length = m at *
  by_cases h1 : 4 < n
  · clear hpre
    have h2 : decide (4 < (n : Int)) = true := by simp; omega
    go_enter Try.func52, Try.ntmps52
    go_wp2
    go_ret
    exact ⟨rfl, hbl _ _⟩
  have h2 : decide (4 < (n : Int)) = false := by simp; omega
  have h3 : n ≤ 4 := by omega
  simp [h3] at hpre
  cases q1 with
  | false =>
    clear hpre
    go_enter Try.func52, Try.ntmps52
    go_wp2_with (go_at_call 69; refine (hwd _).mono ?_; rintro e w' ⟨rfl, rfl⟩)
    go_ret
    exact ⟨rfl, hbl _ _⟩
  | true =>
    simp at hpre
    cases q2 with
    | false =>
      clear hpre
      go_enter Try.func52, Try.ntmps52
      go_wp2_with (first | (go_at_call 69; refine (hwd _).mono ?_; rintro e w' ⟨rfl, rfl⟩) | (go_at_call 42; refine (hin _).mono ?_; rintro e w' ⟨rfl, rfl⟩))
      go_ret
      exact ⟨rfl, hbl _ _⟩
    | true =>
      simp at hpre
      subst hpre
      go_enter Try.func52, Try.ntmps52
      go_wp2_with (first | (go_at_call 69; refine (hwd _).mono ?_; rintro e w' ⟨rfl, rfl⟩) | (go_at_call 42; refine (hin _).mono ?_; rintro e w' ⟨rfl, rfl⟩) | (go_at_call 65; refine (hcon _ (hbl _ _)).mono ?_; rintro e w' ⟨rfl, hb'⟩))
      go_ret
      exact ⟨rfl, (hbl _ _).then hb'⟩
set_option maxHeartbeats 4000000 in
theorem c_isFunc_ok (f : XFunc) (cs : List Value) (funcs : Int) (w : World) (hf : KFunc lm w f cs) (hpre : funcPre f = true) (hf0 : 0 ≤ funcs) (hf1 : funcs ≤ 1048576) :
    Calls Try.prog 52 #[.agg cs.toArray, .int .i64 funcs] w (Ret (.bool (funcOk f funcs)) w) := by
  have hR := Hd.mk (funcOk_pre f funcs)
  rw [hpre] at hR
  have hcount := fun W hW => c_CountOf f cs W (KM.mv hf hW)
  obtain ⟨v1, v2, rfl, hp, hb⟩ := hf
  obtain ⟨A1, c1, rfl, -, hl1, hp0⟩ := hp.sm
  obtain ⟨A2, c2, rfl, -, hl2, hb0⟩ := hb.sm
  have e1 := enters_of Try.func84 (by kernel_rfl) rfl
  have e2 := enters_of Try.func86 (by kernel_rfl) rfl
  have e3 := enters_of Try.func89 (by kernel_rfl) rfl
  have hcon := fun W hW => c_ConI _ f.params _ #[] (fun n => !widthOk n) W (hp0.out.mv hW) e1 (pb_isFunc1 W)
  simp only [any_not] at hcon
  have hwd := c_WidthOk f.ret
  have hin := c_within f.blocks.length 1 10
  have hbl := fun o o' => ((Below.refl w.heap.size w).al (Nat.le_refl _) o).al (by simp) o'
  have hc0 := countOf_nn f
  simp only [funcPre, Bool.and_eq_true, decide_eq_true_eq] at hpre
  obtain ⟨h1, h2, h3, h4⟩ := hpre
  rw [h2] at hwd
  rw [h3] at hin
  rw [h4] at hcon
  clear hb hp h2 h3 h4
  generalize funcOk f funcs = R at *
  generalize countOf f = ids at *
  generalize f.params.length = n at *
  generalize f.ret = r at *
  generalize f.blocks = l at *
  have h2 : decide (4 < (n : Int)) = false := by simp; omega
  go_enter Try.func52, Try.ntmps52
  go_wp2_with fail
  refine (hwd _).mono ?_; rintro e w' ⟨rfl, rfl⟩
  go_wp2_with fail
  refine (hin _).mono ?_; rintro e w' ⟨rfl, rfl⟩
  go_wp2_with fail
  refine (hcon _ (hbl _ _)).mono ?_; rintro e w1 ⟨rfl, hb1⟩
  have k0 := bat hb1 w.heap.size (by simp; omega)
  have k1 := bat hb1 (w.heap.size + 1) (by simp)
  simp at k0 k1
  have hbw1 := Hd.mk ((hbl _ _).then hb1)
  have hz1 := hb1.size
  simp at hz1
  clear hb1 hcon hin hwd
  go_wp2_with fail
  refine (hcount _ hbw1.out).mono ?_; rintro e w2 ⟨rfl, hb2⟩
  replace k0 := fun o => (bat hb2 w.heap.size (by omega) o).trans (k0 o)
  replace k1 := fun o => (bat hb2 (w.heap.size + 1) (by omega) o).trans (k1 o)
  have hbw2 := Hd.mk (hbw1.out.then hb2)
  have hz2 := hb2.size
  clear hb2 hbw1 hcount
  by_cases hi : 60 < ids
  · have h5 : decide (ids ≤ 60) = false := by simp; omega
    have e := hR.out
    rw [h5] at e
    simp at e
    subst e
    clear h5
    go_wp2
    go_ret
    exact ⟨rfl, hbw2.out.al hbw2.out.size _⟩
  have h5 : decide (ids ≤ 60) = true := by simp; omega
  rw [h5] at hR
  clear h5
  have z0 : w.heap.size < w2.heap.size := by omega
  have z1 : w.heap.size + 1 < w2.heap.size := by omega
  go_wp2
  generalize hw3 : w2.alloc (.cells #[.int .i64 ids] 2) = w3
  have hb3 : Below w2.heap.size w2 w3 := by subst hw3; exact (Below.refl _ _).al (Nat.le_refl _) _
  replace k0 := fun o => (bat hb3 w.heap.size (by omega) o).trans (k0 o)
  replace k1 := fun o => (bat hb3 (w.heap.size + 1) (by omega) o).trans (k1 o)
  have k2 : w3.cell? ⟨w2.heap.size, 0, none⟩ = some (.int .i64 ids) := by subst hw3; simp
  have hz3 : w2.heap.size + 1 = w3.heap.size := by subst hw3; simp
  have hbw3 := Hd.mk (hbw2.out.then hb3)
  clear hw3 hb3 hbw2
  go_loopw [37] (fun s37 wr => ∃ k : Nat, k ≤ l.length ∧ s37 = .int .i64 k ∧ Hd (Below w3.heap.size w3 wr) ∧ Hd ((l.take k).all (blockOk ids funcs l.length) = true)) (fun s37 _ => l.length - (intOf s37).toNat)
  case atStart => exact ⟨0, Nat.zero_le _, rfl, ⟨Below.refl _ _⟩, ⟨by simp⟩⟩
  case round =>
    obtain ⟨k, hk, rfl, hbw, hall⟩ := hrel
    have hzr := hbw.out.size
    have hbr := Hd.mk (hbw3.out.then hbw.out)
    replace k0 := fun o => (bat hbw.out w.heap.size (by omega) o).trans (k0 o)
    replace k1 := fun o => (bat hbw.out (w.heap.size + 1) (by omega) o).trans (k1 o)
    replace k2 := (bat hbw.out w2.heap.size (by omega) 0).trans k2
    by_cases hlt : k < l.length
    · obtain ⟨b, off, cs, hA, hbl, ⟨v1, v2, rfl, hr, hr2⟩, hat⟩ := hb0.out.in_ hbr.out k hlt
      cases hA
      have g0 := hat 0 _ rfl
      have g1 := hat 1 _ rfl
      have g2 := hat 2 _ rfl
      have g3 := hat 3 _ rfl
      have g4 := hat 4 _ rfl
      have g5 := hat 5 _ rfl
      clear hat
      simp at g0 g1 g2 g3 g4 g5
      have hsn := Hd.mk (all_take_snoc (blockOk ids funcs l.length) l k hlt)
      have hfail := fun h => Hd.mk (all_false_of (blockOk ids funcs l.length) l k hlt h)
      have hbk : blockOk ids funcs l.length l[k] = (l[k].phis.all (phiOk ids) && (l[k].insts.all (instOk ids funcs) && termOk ids l.length l[k].term)) := by simp only [blockOk, Bool.and_assoc]
      generalize l[k] = x at *
      have hcP := fun W (hW : Below wr.heap.size wr W) => c_ConPhi v1 x.phis _ #[.pointer (some ⟨w2.heap.size, 0, none⟩)] (fun p => !phiOk ids p) W (hr.mv hW) e2 (pb_isFunc2 W w2.heap.size ids (by have := hW.size; omega) ((bat hW w2.heap.size (by omega) 0).trans k2) hc0 (by omega))
      have hcI := fun W (hW : Below wr.heap.size wr W) => c_ConInst v2 x.insts _ #[.pointer (some ⟨w2.heap.size, 0, none⟩), .pointer (some ⟨w.heap.size + 1, 0, none⟩)] (fun p => !instOk ids funcs p) W (hr2.mv hW) e3 (pb_isFunc3 W w2.heap.size (w.heap.size + 1) ids funcs (by have := hW.size; omega) (by have := hW.size; omega) ((bat hW w2.heap.size (by omega) 0).trans k2) ((bat hW (w.heap.size + 1) (by omega) 0).trans (k1 0)) hc0 (by omega) hf0 hf1)
      simp only [any_not] at hcP hcI
      have hT := c_isTerm (.slice A1 n c1) r (some ⟨b, off, none⟩) l.length c2 x.term ids
      obtain ⟨A3, c3, rfl, -, -, -⟩ := hr.sm
      obtain ⟨A4, c4, rfl, -, -, -⟩ := hr2.sm
      generalize x.phis.all (phiOk ids) = q1 at *
      generalize x.insts.all (instOk ids funcs) = q2 at *
      generalize termOk ids l.length x.term = q3 at *
      have hbl2 := fun o => (Below.refl wr.heap.size wr).al (Nat.le_refl _) o
      clear hr hr2
      have z0 : w.heap.size < wr.heap.size := by omega
      have z1 : w.heap.size + 1 < wr.heap.size := by omega
      have z2 : w2.heap.size < wr.heap.size := by omega
      cases q1 with
      | false =>
        have hR2 := hR.out
        rw [(hfail (by rw [hbk]; rfl)).out] at hR2
        simp at hR2
        subst hR2
        go_wp2_with fail
        refine (hcP _ (hbl2 _)).mono ?_; rintro e w4 ⟨rfl, hb4⟩
        go_wp2
        go_ret
        exact ⟨rfl, (hbr.out.al hbr.out.size _).then hb4⟩
      | true =>
        go_wp2_with fail
        refine (hcP _ (hbl2 _)).mono ?_; rintro e w4 ⟨rfl, hb4⟩
        have k3 := bat hb4 wr.heap.size (by simp)
        replace k0 := fun o => (bat hb4 w.heap.size (by simp; omega) o).trans ((World.cell?_alloc_past _ _ _ z0).trans (k0 o))
        simp at k3
        have hbw4 := Hd.mk ((hbl2 _).then hb4)
        have hz4 := hb4.size
        simp at hz4
        replace k2 := (bat hb4 w2.heap.size (by simp; omega) 0).trans ((World.cell?_alloc_past _ _ _ z2).trans k2)
        clear hb4 hcP
        cases q2 with
        | false =>
          have hR2 := hR.out
          rw [(hfail (by rw [hbk]; rfl)).out] at hR2
          simp at hR2
          subst hR2
          go_wp2_with fail
          refine (hcI _ hbw4.out).mono ?_; rintro e w5 ⟨rfl, hb5⟩
          go_wp2
          go_ret
          exact ⟨rfl, (hbr.out.then hbw4.out).then hb5⟩
        | true =>
          go_wp2_with fail
          refine (hcI _ hbw4.out).mono ?_; rintro e w5 ⟨rfl, hb5⟩
          replace k0 := fun o => (bat hb5 w.heap.size (by omega) o).trans (k0 o)
          replace k2 := (bat hb5 w2.heap.size (by omega) 0).trans k2
          replace k3 := fun o => (bat hb5 wr.heap.size (by omega) o).trans (k3 o)
          have hbw5 := Hd.mk (hbw4.out.then hb5)
          clear hb5 hcI
          go_wp2_with fail
          refine (hT _ hl2 hc0 (by omega)).mono ?_; rintro e w6 ⟨rfl, hb6⟩
          have hbw6 := Hd.mk (hbw5.out.then hb6)
          cases q3 with
          | false =>
            have hR2 := hR.out
            rw [(hfail (by rw [hbk]; rfl)).out] at hR2
            simp at hR2
            subst hR2
            go_wp2
            go_ret
            exact ⟨rfl, hbr.out.then hbw6.out⟩
          | true =>
            go_wp2
            go_roundw
            case rel => exact ⟨k + 1, by omega, by go_num, ⟨hbw.out.then hbw6.out⟩, ⟨by rw [hsn.out, hall.out, hbk]; rfl⟩⟩
            case measure => simp [intOf]; omega
    · have e : k = l.length := by omega
      subst e
      have hR2 := hR.out
      rw [List.take_length] at hall
      rw [hall.out] at hR2
      simp at hR2
      subst hR2
      go_wp2
      go_ret
      exact ⟨rfl, hbr.out⟩
end Go.Proofs.Ytdnbiohohbnhgaa
