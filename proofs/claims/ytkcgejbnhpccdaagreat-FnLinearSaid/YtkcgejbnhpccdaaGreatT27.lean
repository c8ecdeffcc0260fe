import Derived.Test.YtkcgejbnhpccdaaGreatT18
import Derived.StillTailTactics
set_option linter.unusedSimpArgs false
set_option linter.unusedVariables false
namespace Go.Proofs.YtkcgejbnhpccdaaGreat
open Go.RowKit
def EnteredR (pv bv : Value) (ret : Int) (gx gv n : Nat) (vals : List Int) (w : World) (e : Ending) (w' : World) : Prop := e = .returned (.tuple #[]) ∧ FR pv bv ret gx gv n vals w' ∧ Off gv gv none w w'
set_option maxRecDepth 20000 in
set_option maxHeartbeats 4000000 in
theorem c_enter (f : XFunc) (pv bv : Value) (b : Nat) (left : Int) (gx gv n : Nat) (vals : List Int) (W : World) (hf : KFunc lm W f [pv, .int .i64 f.ret, bv]) (hF : FR pv bv f.ret gx gv n vals W) (hn : vals.length = n) (hc : (n : Int) = countOf f) (hfo : Fo f)
    (hb : b < f.blocks.length) (hl : left ∈ predsOf f b) (hph : ∀ p ∈ f.blocks[b].phis, p.ins.length = (predsOf f b).length ∧ ∀ id ∈ p.ins, 0 ≤ id ∧ id < countOf f) :
    Calls Tryz.prog 98 #[.pointer (some ⟨gx, 0, none⟩), .int .i64 b, .int .i64 left] W (EnteredR pv bv f.ret gx gv n (enterV f b left vals) W) := by
  obtain ⟨kk, hkk, hidx⟩ := idx_mem left (predsOf f b) hl
  have hbk := blkAt_nat f b hb
  have hfl := first_le f b hb
  have hfr := first_rng f b hfo
  have hc60 := hfo.2.1
  have hpl := preds_len f b
  have hn10 := hfo.1.2.2
  have hfi := fun w (hw : Below W.heap.size W w) => c_firstOf f _ b w (KM.mv hf hw) (by omega)
  have hpr := fun w (hw : Below W.heap.size W w) => c_predsOf f _ b w (KM.mv hf hw)
  have hF' := Hd.mk hF
  obtain ⟨v1, v2, hvv, hp, hb'⟩ := hf
  simp only [List.cons.injEq, and_true] at hvv
  obtain ⟨rfl, -, rfl⟩ := hvv
  obtain ⟨A1, c1, rfl, -, -, -⟩ := hp.sm
  obtain ⟨A2, c2, rfl, hcap, hl2, hb0⟩ := hb'.sm
  clear hp hb'
  obtain ⟨V, hV⟩ : ∃ V, V = enterV f b left vals := ⟨_, rfl⟩
  rw [← hV]
  unfold enterV nextP at hV
  rw [hbk, hidx] at hV
  simp only [Int.toNat_natCast] at hV
  have hV' := Hd.mk hV
  clear hV hbk hfo
  obtain ⟨x0, x1, x2, x3, hgx, hgv⟩ := hF.cells
  clear hF
  have hr0 : Below W.heap.size W W := Below.refl _ _
  go_enter Tryz.func98, Tryz.ntmps98
  go_wp2_with fail
  refine (hfi _ hr0).mono ?_; rintro e w1 ⟨rfl, hb1⟩
  have hB1 := Hd.mk hb1
  replace x0 := (bat hb1 gx hgx 0).trans x0
  replace x1 := (bat hb1 gx hgx 1).trans x1
  replace x2 := (bat hb1 gx hgx 2).trans x2
  replace x3 := (bat hb1 gx hgx 3).trans x3
  clear hb1 hfi hr0
  go_wp2_with fail
  refine (hpr _ hB1.out).mono ?_; rintro e w2 ⟨u2, rfl, ho2, hb2⟩
  have hB2 := Hd.mk (hB1.out.then hb2)
  have hri := OI.rd ho2 (by omega)
  replace x0 := (bat hb2 gx (by have := hB1.out.size; omega) 0).trans x0
  replace x1 := (bat hb2 gx (by have := hB1.out.size; omega) 1).trans x1
  replace x2 := (bat hb2 gx (by have := hB1.out.size; omega) 2).trans x2
  replace x3 := (bat hb2 gx (by have := hB1.out.size; omega) 3).trans x3
  have hix := c_IndexI u2 (predsOf f b) left w2 hri
  rw [hidx] at hix
  clear hb2 ho2 hri hpr
  go_wp2_with fail
  refine hix.mono ?_; rintro e w3 ⟨rfl, hb3⟩
  have hB3 := Hd.mk (hB2.out.then hb3)
  replace x0 := (bat hb3 gx (by have := hB2.out.size; omega) 0).trans x0
  replace x1 := (bat hb3 gx (by have := hB2.out.size; omega) 1).trans x1
  replace x2 := (bat hb3 gx (by have := hB2.out.size; omega) 2).trans x2
  replace x3 := (bat hb3 gx (by have := hB2.out.size; omega) 3).trans x3
  have hz3 := hB3.out.size
  clear hb3 hix hidx hl
  obtain ⟨eb, eo, ecs, hA_, heb, ⟨bv1, bv2, rfl, hr_, hr2_⟩, hat_⟩ := (hb0.out).in0 (hB3.out) (b) (hb)
  cases hA_
  have hew := Nat.lt_of_lt_of_le heb (hB3.out).size
  have g0 := hat_ 0 _ rfl
  have g1 := hat_ 1 _ rfl
  have g2 := hat_ 2 _ rfl
  have g3 := hat_ 3 _ rfl
  have g4 := hat_ 4 _ rfl
  have g5 := hat_ 5 _ rfl
  clear hat_
  simp at g0 g1 g2 g3 g4 g5
  obtain ⟨Ap, cp, rfl, hcp, hlp, hrp⟩ := hr_.sm
  obtain ⟨Ai, ci, rfl, hci, hli, hri⟩ := hr2_.sm
  clear hr_ hr2_
  generalize f.blocks[b] = x at *
  clear g1 g2 g3 g4 g5
  obtain ⟨w4, hw4⟩ : ∃ w4 : World, w4 = w3.alloc (.cells #[] 2) := ⟨_, rfl⟩
  have hB34 : Hd (Below w3.heap.size w3 w4) := ⟨by rw [hw4]; exact (Below.refl _ _).al (Nat.le_refl _) _⟩
  have hown : Hd (w4.ownsRow w3.heap.size 2 1 (.slice (some ⟨w3.heap.size, 0, none⟩) 0 0) 0 []) := ⟨by rw [hw4]; exact own_empty _ _ _ _ _ rfl (Nat.le_refl _)⟩
  have hB4 := Hd.mk (hB3.out.then hB34.out)
  have hw4' := Hd.mk hw4
  have hz4 := hB34.out.size
  have eb0 : (0 : Int) ≤ (b : Int) := by omega
  have eb1 : (b : Int) < (f.blocks.length : Int) := by omega
  have hgx3 : gx < w3.heap.size := by omega
  clear hw4
  go_wp2
  rw [← hw4'.out]
  obtain ⟨G, hG⟩ : ∃ G : XPhi → Int, G = fun p => vl vals (p.ins.getD kk 0) := ⟨_, rfl⟩
  rw [← hG] at hV'
  have hG' := Hd.mk hG
  clear hG
  go_loopw [8, 36] (fun s8 s36 wr => ∃ k : Nat, k ≤ x.phis.length ∧ s36 = .int .i64 k ∧ Hd (wr.ownsRow w3.heap.size 2 1 s8 ((x.phis.take k).map G).length (((x.phis.take k).map G).map (Value.int .i64))) ∧ Hd (Below w3.heap.size w3 wr)) (fun _ s36 _ => x.phis.length - (intOf s36).toNat)
  case atStart => exact ⟨0, Nat.zero_le _, rfl, by simpa using hown, hB34⟩
  case round =>
    obtain ⟨k, hk, rfl, hoR, hbr⟩ := hrel
    obtain ⟨wo, rfl⟩ : ∃ wo : World, wo = wr := ⟨_, rfl⟩
    have hBw := Hd.mk (hB3.out.then hbr.out)
    have hzo := hbr.out.size
    have hFw := Hd.mk (hF'.out.mv hBw.out)
    obtain ⟨z0, z1, z2, z3, zx, zv⟩ := hFw.out.cells
    clear x0 x1 x2 x3 g0
    by_cases hlt : k < x.phis.length
    · obtain ⟨hpk1, hpk2⟩ := hph x.phis[k] (List.getElem_mem hlt)
      obtain ⟨pb, po, pcs, hA_, hpb, ⟨pv1, rfl, hr_⟩, hat_⟩ := (hrp.out).in0 (hBw.out) k hlt
      cases hA_
      have hpw := Nat.lt_of_lt_of_le hpb (hBw.out).size
      obtain ⟨Ax, cx, rfl, hcx, hlx, hrx⟩ := hr_.sm
      have g0 := hat_ 0 _ rfl
      have g1 := hat_ 1 _ rfl
      clear hat_ hr_
      simp at g0 g1
      have hsn : Hd ((x.phis.take (k + 1)).map G = (x.phis.take k).map G ++ [G x.phis[k]]) := ⟨by rw [List.take_succ_eq_append_getElem hlt, List.map_append]; rfl⟩
      generalize hxk : x.phis[k] = p at *
      have hkl : kk < p.ins.length := by omega
      have hid := hpk2 p.ins[kk] (List.getElem_mem hkl)
      have hGp : Hd (G p = vl vals p.ins[kk]) := ⟨by rw [hG'.out]; show vl vals (p.ins.getD kk 0) = _; rw [List.getD_eq_getElem?_getD, List.getElem?_eq_getElem hkl]; rfl⟩
      obtain ⟨zb, zo, zcs, hA_, hzb2, hk_, hat_⟩ := (hrx.out).in0 (hBw.out) kk hkl
      cases hA_; cases hk_
      have hzw := Nat.lt_of_lt_of_le hzb2 hBw.out.size
      have q0 := hat_ 0 _ rfl
      clear hat_
      simp at q0
      obtain ⟨m0, -⟩ := hFw.out.val p.ins[kk] hid.1 (by omega)
      have hlen : ((x.phis.take k).map G).length = k := by simp; omega
      have hlen' := Hd.mk hlen
      rw [hGp.out] at hsn
      clear hGp hpk2 hxk hpk1 hlen
      generalize (x.phis.take k).map G = xs at *
      generalize vl vals p.ins[kk] = ga at *
      generalize p.ins[kk] = id at *
      obtain ⟨As, cS, rfl, hcs, -, -, -⟩ := own_shape hoR.out
      obtain ⟨w5, hw5⟩ : ∃ w5 : World, w5 = wo.alloc (.cells #[.int .i64 p.w, .slice (some ⟨zb, zo, none⟩) p.ins.length cx] 165) := ⟨_, rfl⟩
      have hB5 : Hd (Below wo.heap.size wo w5) := ⟨by rw [hw5]; exact (Below.refl _ _).al (Nat.le_refl _) _⟩
      have n0 : w5.cell? ⟨wo.heap.size, 0, none⟩ = some (.int .i64 p.w) := by rw [hw5]; exact new_cell wo _ _ rfl 0 _ rfl
      have n1 : w5.cell? ⟨wo.heap.size, 1, none⟩ = some (.slice (some ⟨zb, zo, none⟩) p.ins.length cx) := by rw [hw5]; exact new_cell wo _ _ rfl 1 _ rfl
      have hw5' := Hd.mk hw5
      have hz5 := hB5.out.size
      have el0 : (0 : Int) ≤ (k : Int) := by omega
      have el1 : (k : Int) < (x.phis.length : Int) := by omega
      have el2 : (kk : Int) < (p.ins.length : Int) := by omega
      have el3 : (0 : Int) ≤ (kk : Int) := by omega
      have el4 : id < (n : Int) := by omega
      have el5 : 0 ≤ id := hid.1
      clear hw5
      go_wp2
      rw [← hw5'.out]
      have y3 := (bat hB5.out gx (by omega) 3).trans z3
      have r0 := (bat hB5.out zb hzw _).trans q0
      have s0 := (bat hB5.out gv (by omega) _).trans m0
      have hown5 := Hd.mk (own_mv hoR.out hB5.out)
      have hal := Hd.mk fun (o : Obj) => (Below.refl w5.heap.size w5.drew).al (Nat.le_refl _) o
      clear z0 z1 z2 z3 g0 g1 q0 m0
      go_region_law
        ((refine step_app_I rfl _ _ rfl w3.heap.size _ xs [ga] rfl (own_mv (show w5.drew.ownsRow w3.heap.size _ _ _ _ _ from hown5.out) (hal.out _)) _ 1 1 rfl (rd_one _ _) (by have := hlen'.out; omega) (by simp; omega) ?_
          intro v' w6 ho6 hg6
          have ho6' := Hd.mk ho6
          have hb6 : Hd (Below w3.heap.size w3 w6) := ⟨((hbr.out.then hB5.out).trans ⟨rfl, rfl, rfl, Nat.le_refl _, fun _ _ => rfl⟩ : Below w3.heap.size w3 w5.drew).al (by show w3.heap.size ≤ w5.heap.size; omega) (.cells #[.int .i64 ga] 2) |>.grown hg6 (by simp; omega) (fun k hk => by have := own_block_ge hown5.out k hk; omega)⟩
          clear ho6 hg6))
      all_goals
        go_wp2
        go_roundw
        case rel => exact ⟨k + 1, by omega, by go_num, ⟨by rw [hsn.out]; simpa using ho6'.out⟩, by first | exact hb6 | exact ⟨hb6.out.drew⟩⟩
        case measure => simp [intOf]; omega
    · have e : k = x.phis.length := by omega
      subst e
      rw [List.take_length] at hoR
      have hlen : (x.phis.map G).length = x.phis.length := by simp
      have hV2 := Hd.mk (hV'.out)
      generalize x.phis.map G = xs at *
      obtain ⟨As, cS, rfl, hcs, -, -, -⟩ := own_shape hoR.out
      have hri := OI.rd hoR.out (by omega)
      have ef0 : 0 ≤ firstOf f (b : Int) := hfr.1
      have ef1 : firstOf f (b : Int) ≤ (n : Int) := by omega
      generalize firstOf f (b : Int) = fi at *
      obtain ⟨fn, rfl⟩ : ∃ fn : Nat, fi = fn := ⟨fi.toNat, by omega⟩
      rw [Int.toNat_natCast] at hV2
      have hvl : vals.length = n := hn
      have hfit : fn + xs.length ≤ vals.length := by omega
      have hgr := Hd.mk hFw.out.2.1
      have hgd := Hd.mk hri
      have hlen' := Hd.mk hlen
      have hfit' := Hd.mk hfit
      clear hri hlen hfit hoR
      rcases Nat.lt_or_ge fn n with hcut | hcut
      · have hne : ¬ fn = n := by omega
        have hne1 : ¬ n = fn := by omega
        have hne2 : ¬ n ≤ fn := by omega
        have hne3 : ¬ n - fn = 0 := by omega
        go_wp2_with (refine copy_I (o := ⟨some 62, _, _, _, _, _⟩) rfl _ _ rfl _ _ _ rfl _ _ _ rfl xs hgd.out gv fn vals hgr.out (by have := hlen'.out; have := hfit'.out; omega) (by first | exact fun _ => rfl | (intro hx; have := hlen'.out; have := hfit'.out; omega)) hfit'.out ?_; intro w7 hg7 ho7)
        go_end0
        exact ⟨rfl, ⟨(ho7.out.block gx (by omega) hFw.out.2.2 hFw.out.2.2 (by simp)).trans hFw.out.1, by rw [hV2.out]; exact hg7.out, hFw.out.2.2⟩, (Off.of hBw.out).trans (.inl rfl) ho7.out⟩
      · obtain rfl : fn = n := by omega
        go_wp2_with (refine copy_I (o := ⟨some 62, _, _, _, _, _⟩) rfl _ _ rfl _ _ _ rfl _ _ _ rfl xs hgd.out gv fn vals hgr.out (by have := hlen'.out; have := hfit'.out; omega) (by first | exact fun _ => rfl | (intro hx; have := hlen'.out; have := hfit'.out; omega)) hfit'.out ?_; intro w7 hg7 ho7)
        go_end0
        exact ⟨rfl, ⟨(ho7.out.block gx (by omega) hFw.out.2.2 hFw.out.2.2 (by simp)).trans hFw.out.1, by rw [hV2.out]; exact hg7.out, hFw.out.2.2⟩, (Off.of hBw.out).trans (.inl rfl) ho7.out⟩
end Go.Proofs.YtkcgejbnhpccdaaGreat
