import Derived.Test.YtkcgejbnhpccdaaGreatT34
set_option linter.unusedSimpArgs false
set_option linter.unusedVariables false
namespace Go.Proofs.YtkcgejbnhpccdaaGreat
open Go.RowKit
theorem trues_mem (out : List Bool) (b : Int) : b ∈ trues out ↔ 0 ≤ b ∧ b < out.length ∧ out.getD b.toNat false = true := by
  unfold trues
  rw [List.mem_filter, upTo_mem, and_assoc]
theorem doms_live (f : XFunc) : domsOk f = (trues (reach f (-1))).all (seesB f) := by
  rw [domsOk_all, Bool.eq_iff_iff, List.all_eq_true, List.all_eq_true]
  have hl := reach_len f (-1)
  constructor
  · intro h b hb
    obtain ⟨h0, h1, h2⟩ := (trues_mem _ _).1 hb
    have := h b.toNat (by simp; omega)
    unfold domB at this
    rw [h2, show ((b.toNat : Nat) : Int) = b by omega] at this
    simpa using this
  · intro h b hb
    rw [List.mem_range] at hb
    unfold domB
    cases hq : (reach f (-1)).getD b false with
    | false => rfl
    | true =>
      have := h (b : Int) ((trues_mem _ _).2 ⟨by omega, by omega, by simpa using hq⟩)
      rw [this]; rfl
theorem phis_at {f : XFunc} (h : phisOk f = true) (b : Nat) (hb : b < f.blocks.length) : ∀ p ∈ f.blocks[b].phis, p.ins.length = (predsOf f b).length := fun p hp => phisOk_at h b hb p hp
set_option maxRecDepth 20000 in
set_option maxHeartbeats 16000000 in
theorem s_l4Doms (f : XFunc) (cs : List Value) (n : Int) (w : World) (hf : KFunc lm w f cs) (hok : funcOk f n = true) (hph : phisOk f = true) : Calls Tryz.prog 104 #[.agg cs.toArray] w (Ret (.bool (domsOk f)) w) := by
  have hf' := Hd.mk hf
  obtain ⟨v1, v2, rfl, hp, hb⟩ := hf
  obtain ⟨A1, c1, rfl, -, hl1, -⟩ := hp.sm
  obtain ⟨A2, c2, rfl, hcap, hl2, hb0⟩ := hb.sm
  clear hp hb
  have hbl := fun o => (Below.refl w.heap.size w).al (Nat.le_refl _) o
  obtain ⟨W0, hW0⟩ : ∃ W0 : World, W0 = w.alloc (.cells #[.slice A1 f.params.length c1, .int .i64 f.ret, .slice A2 f.blocks.length c2] 35) := ⟨_, rfl⟩
  have hB0 : Below w.heap.size w W0 := by rw [hW0]; exact hbl _
  have hz0 : W0.heap.size = w.heap.size + 1 := by rw [hW0]; simp
  have hzf : Hd (∀ o u, [Value.slice A1 f.params.length c1, .int .i64 f.ret, .slice A2 f.blocks.length c2][o]? = some u → W0.cell? ⟨w.heap.size, o, none⟩ = some u) := ⟨fun o u hu => by rw [hW0]; exact new_cell _ _ _ rfl o u (by simpa using hu)⟩
  have hW0' := Hd.mk hW0
  have hB0' := Hd.mk hB0
  have hok' := Hd.mk hok
  have hph' := Hd.mk hph
  have hfo := func_fo hok
  have hc60 := hfo.2.1
  have hn10 := hfo.1.2.2
  have hgr := Hd.mk hfo.1
  have hfo' := Hd.mk hfo
  generalize hR : domsOk f = R
  have hR' := Hd.mk hR
  rw [doms_live] at hR'
  have hhas : ∀ p : Int, 0 ≤ p → hasI (trues (reach f (-1))) p = (reach f (-1)).getD p.toNat false := fun p h0 => trues_has _ p h0
  have hmem : ∀ b ∈ trues (reach f (-1)), 0 ≤ b ∧ b < f.blocks.length := fun b hb => by
    have := (trues_mem _ _).1 hb
    have := reach_len f (-1)
    omega
  have hllen : (trues (reach f (-1))).length ≤ 10 := Nat.le_trans (trues_len _) (by rw [reach_len]; omega)
  have hre := s_l3Reach f _ (-1) W0 (KM.mv hf'.out hB0) hfo.1.1 hfo.1.2
  generalize trues (reach f (-1)) = lv at *
  have hhas' := Hd.mk hhas
  have hmem' := Hd.mk hmem
  have hpr := fun W (hW : Below w.heap.size w W) b => s_l3Preds f _ b W (KM.mv hf'.out hW)
  have hse := fun id b nn W (hW : Below w.heap.size w W) (h1 : id < countOf f) (h2 : 0 ≤ b) => s_l4Sees f _ id b nn W (KM.mv hf'.out hW) hgr.out (by omega) h2
  clear hW0 hB0 hok hph hfo hR hhas hmem
  go_enter Tryz.func104, Tryz.ntmps104
  go_wp2_with fail
  rw [← hW0'.out]
  have x0 := hzf.out 0 _ rfl
  have x1 := hzf.out 1 _ rfl
  have x2 := hzf.out 2 _ rfl
  go_wp2_with fail
  refine hre.mono ?_; rintro e w1 ⟨u1, rfl, ho1, hb1⟩
  have hlv := Hd.mk (OI.rd ho1 (by omega))
  obtain ⟨Al, cl, rfl, -, -, -, -⟩ := own_shape ho1
  have hB1 := Hd.mk (hB0'.out.then hb1)
  have hb1' := Hd.mk hb1
  have hz1 := hb1.size
  clear hre ho1 hb1 x0 x1 x2
  go_wp2
  go_loopw [4] (fun s4 wr => ∃ k : Nat, k ≤ lv.length ∧ s4 = .int .i64 k ∧ Hd ((lv.take k).all (seesB f) = true) ∧ Hd (Below w1.heap.size w1 wr)) (fun s4 _ => lv.length - (intOf s4).toNat)
  case atStart => exact ⟨0, Nat.zero_le _, rfl, ⟨rfl⟩, ⟨Below.refl _ _⟩⟩
  case round =>
    obtain ⟨k, hk, rfl, hall, hbr⟩ := hrel
    obtain ⟨wo, rfl⟩ : ∃ wo : World, wo = wr := ⟨_, rfl⟩
    have hBw := Hd.mk (hB1.out.then hbr.out)
    have hW0o := Hd.mk (hb1'.out.then hbr.out)
    have hzo := hbr.out.size
    have x0 := (bat hW0o.out w.heap.size (by omega) 0).trans (hzf.out 0 _ rfl)
    have x1 := (bat hW0o.out w.heap.size (by omega) 1).trans (hzf.out 1 _ rfl)
    have x2 := (bat hW0o.out w.heap.size (by omega) 2).trans (hzf.out 2 _ rfl)
    by_cases hlt : k < lv.length
    · have hsn := Hd.mk (all_take_snoc (seesB f) lv k hlt)
      have hfl := fun h => Hd.mk (all_false_of (seesB f) lv k hlt h)
      obtain ⟨hb0', hb1n⟩ := hmem'.out lv[k] (List.getElem_mem hlt)
      obtain ⟨nb, no, ncs, hA_, hnb, hk_, hat_⟩ := (hlv.out).in0 (hbr.out) k hlt
      cases hA_; cases hk_
      have hnw := Nat.lt_of_lt_of_le hnb hbr.out.size
      have l0 := hat_ 0 _ rfl
      clear hat_
      simp at l0
      generalize lv[k] = b at *
      obtain ⟨bn, rfl⟩ : ∃ bn : Nat, b = bn := ⟨b.toNat, by omega⟩
      have hbn : bn < f.blocks.length := by omega
      have hbo := Hd.mk (fn_block hok'.out f.blocks[bn] (List.getElem_mem hbn))
      have hpa := Hd.mk (phis_at hph'.out bn hbn)
      have hbk := blkAt_nat f bn hbn
      obtain ⟨eb, eo, ecs, hA_, heb, ⟨bv1, bv2, rfl, hr_, hr2_⟩, hat_⟩ := (hb0.out).in0 (hBw.out) (bn) (hbn)
      cases hA_
      have hew := Nat.lt_of_lt_of_le heb (hBw.out).size
      have g0 := hat_ 0 _ rfl
      have g1 := hat_ 1 _ rfl
      have g2 := hat_ 2 _ rfl
      have g3 := hat_ 3 _ rfl
      have g4 := hat_ 4 _ rfl
      have g5 := hat_ 5 _ rfl
      clear hat_
      simp at g0 g1 g2 g3 g4 g5
      obtain ⟨Ap, cp, rfl, hcp, hlp, hrp⟩ := hr_.sm
      obtain ⟨Ai, ci, rfl, hci, hli, hri⟩ := hr2_.sm
      clear hr_ hr2_
      rw [seesB_parts] at hsn hfl
      rw [hbk] at hsn hfl
      have hbk' := Hd.mk hbk
      clear hbk
      have hpk := fun W hW => hpr W hW (bn : Int)
      have hpin := Hd.mk (preds_in f bn)
      have hpl := preds_len f bn
      have hpd : predsOf f (bn : Int) = predsOf f bn := rfl
      have hfst := first_rng f bn hfo'.out
      generalize hxq : f.blocks[bn] = x at *
      have hsI : Hd (seesT f bn = (!(x.term.kind == 1 || x.term.kind == 3) || seen f x.term.a bn (countOf f))) := ⟨by unfold seesT; rw [show blkAt f (bn : Int) = x from hbk'.out]⟩
      obtain ⟨ps, hpsq⟩ : ∃ ps, ps = predsOf f bn := ⟨_, rfl⟩
      rw [← hpsq] at hpk hpin hpl hpa
      obtain ⟨wb, hwb⟩ : ∃ wb : World, wb = wo.alloc (.cells #[.slice Ap x.phis.length cp, .slice Ai x.insts.length ci, .int .i64 x.term.kind, .int .i64 x.term.a, .int .i64 x.term.x, .int .i64 x.term.y] 32) := ⟨_, rfl⟩
      have hbB : Hd (Below wo.heap.size wo wb) := ⟨by rw [hwb]; exact (Below.refl wo.heap.size wo).al (Nat.le_refl _) _⟩
      have hbc : Hd (∀ o u, [Value.slice Ap x.phis.length cp, .slice Ai x.insts.length ci, .int .i64 x.term.kind, .int .i64 x.term.a, .int .i64 x.term.x, .int .i64 x.term.y][o]? = some u → wb.cell? ⟨wo.heap.size, o, none⟩ = some u) := ⟨fun o u hu => by rw [hwb]; exact new_cell _ _ _ rfl o u (by simpa using hu)⟩
      have hzb : wb.heap.size = wo.heap.size + 1 := by rw [hwb]; simp
      have hwb' := Hd.mk hwb
      have hpsq' := Hd.mk hpsq
      have hcall := hpk wb (hBw.out.then hbB.out)
      clear hwb hxq hpd hpsq hpk
      have hlo1 : w.heap.size < wo.heap.size := by omega
      have hnw1 : nb < wo.heap.size + 1 := by omega
      have ew1 : IntKind.i64.wrap ((x.phis.length : Int) + (x.insts.length : Int)) = (x.phis.length : Int) + (x.insts.length : Int) := IntWalk.i64_in _ (by omega)
      go_wp2_with fail
      rw [← hwb'.out]
      refine hcall.mono ?_; rintro e w2 ⟨u2, rfl, ho2, hb2⟩
      have hpR := Hd.mk (OI.rd ho2 (by omega))
      obtain ⟨Au, cu, rfl, -, -, -, -⟩ := own_shape ho2
      have hb2' := Hd.mk hb2
      have hB2 := Hd.mk ((hBw.out.then hbB.out).then hb2)
      have hW02 := Hd.mk ((hW0o.out.then hbB.out).then hb2)
      have hz2 := hb2.size
      have y0 := (bat hb2 wo.heap.size (by omega) 0).trans (hbc.out 0 _ rfl)
      have y1 := (bat hb2 wo.heap.size (by omega) 1).trans (hbc.out 1 _ rfl)
      clear hcall ho2 hb2 x0 x1 x2 g0 g1 g2 g3 g4 g5 l0
      go_wp2
      obtain ⟨al, hal⟩ : ∃ al : Int, al = (x.phis.length : Int) + (x.insts.length : Int) := ⟨_, rfl⟩
      have hal' := Hd.mk hal
      rw [← hal]
      clear hal y0 y1
      go_loopw [9] (fun s9 wr => ∃ j : Nat, j ≤ x.phis.length ∧ s9 = .int .i64 j ∧ Hd ((x.phis.take j).all (seesP f bn) = true) ∧ Hd (Below w2.heap.size w2 wr)) (fun s9 _ => x.phis.length - (intOf s9).toNat)
      case atStart => exact ⟨0, Nat.zero_le _, rfl, ⟨rfl⟩, ⟨Below.refl _ _⟩⟩
      case round =>
        obtain ⟨j, hj, rfl, hallj, hbj⟩ := hrel
        obtain ⟨wj, rfl⟩ : ∃ wj : World, wj = wr := ⟨_, rfl⟩
        have hBj := Hd.mk (hB2.out.then hbj.out)
        have hW0j := Hd.mk (hW02.out.then hbj.out)
        have hb2j := Hd.mk (hb2'.out.then hbj.out)
        have hzj := hbj.out.size
        have y0 := (bat hb2j.out wo.heap.size (by omega) 0).trans (hbc.out 0 _ rfl)
        have y1 := (bat hb2j.out wo.heap.size (by omega) 1).trans (hbc.out 1 _ rfl)
        by_cases hltj : j < x.phis.length
        · have hpin1 := Hd.mk (hpa.out x.phis[j] (List.getElem_mem hltj))
          have hids := Hd.mk (phi_ids (hbo.out.1 x.phis[j] (List.getElem_mem hltj)))
          have hsnj := Hd.mk (all_take_snoc (seesP f bn) x.phis j hltj)
          have hflj := fun h => Hd.mk (all_false_of (seesP f bn) x.phis j hltj h)
          obtain ⟨pb, po, pcs, hA_, hpb, ⟨pv1, rfl, hr_⟩, hat_⟩ := (hrp.out).in0 (hBj.out) (j) (hltj)
          cases hA_
          have hpw := Nat.lt_of_lt_of_le hpb (hBj.out).size
          obtain ⟨Ax, cx, rfl, hcx, hlx, hrx⟩ := hr_.sm
          have q1 := Hd.mk (hat_ 1 _ rfl)
          clear hat_ hr_
          rw [seesP_all] at hsnj hflj
          generalize x.phis[j] = p at *
          have hplen := hpin1.out
          rw [hplen] at hsnj hflj
          clear hplen
          go_wp2
          clear y0 y1
          go_loopw [10] (fun s10 wr => ∃ l : Nat, l ≤ ps.length ∧ s10 = .int .i64 l ∧ Hd ((List.range l).all (seesK f bn p) = true) ∧ Hd (Below wj.heap.size wj wr)) (fun s10 _ => ps.length - (intOf s10).toNat)
          case atStart => exact ⟨0, Nat.zero_le _, rfl, ⟨rfl⟩, ⟨Below.refl _ _⟩⟩
          case round =>
            obtain ⟨l, hl, rfl, halll, hbl'⟩ := hrel
            obtain ⟨wl, rfl⟩ : ∃ wl : World, wl = wr := ⟨_, rfl⟩
            have hBl := Hd.mk (hBj.out.then hbl'.out)
            have hW0l := Hd.mk (hW0j.out.then hbl'.out)
            have hb2l := Hd.mk (hb2j.out.then hbl'.out)
            have hb12 := Hd.mk ((((hbr.out.then hbB.out).then hb2'.out).then hbj.out).then hbl'.out)
            have hzl := hbl'.out.size
            by_cases hltl : l < ps.length
            · have hltx : l < p.ins.length := by have := hpin1.out; omega
              obtain ⟨pk0, pk1⟩ := hpin.out l hltl
              have hid := hids.out p.ins[l] (List.getElem_mem hltx)
              have hsnl := Hd.mk (range_all_snoc (seesK f bn p) l)
              have hfll := fun h => Hd.mk (range_all_fail (seesK f bn p) ps.length l hltl h)
              have hkk : seesK f bn p l = !((reach f (-1)).getD (ps[l]).toNat false && !seen f p.ins[l] ps[l] (countOf f)) := by
                unfold seesK
                rw [getD_get _ l 0 hltx, ← hpsq'.out, getD_get _ l 0 hltl]
              rw [hkk] at hsnl hfll
              clear hkk
              obtain ⟨qb, qo, qcs, hA_, hqb, hk_, hat_⟩ := (hpR.out).in0 (hbj.out.then hbl'.out) l hltl
              cases hA_; cases hk_
              have hqw := Nat.lt_of_lt_of_le hqb (hbj.out.then hbl'.out).size
              have q0 := hat_ 0 _ rfl
              clear hat_
              obtain ⟨zb, zo, zcs, hA_, hzb2, hk_, hat_⟩ := (hrx.out).in0 (hBl.out) l hltx
              cases hA_; cases hk_
              have hzw := Nat.lt_of_lt_of_le hzb2 hBl.out.size
              have z0 := hat_ 0 _ rfl
              clear hat_
              have p1 := (bat hbl'.out pb hpw _).trans q1.out
              have x0 := (bat hW0l.out w.heap.size (by omega) 0).trans (hzf.out 0 _ rfl)
              have x1 := (bat hW0l.out w.heap.size (by omega) 1).trans (hzf.out 1 _ rfl)
              have x2 := (bat hW0l.out w.heap.size (by omega) 2).trans (hzf.out 2 _ rfl)
              have y0 := (bat hb2l.out wo.heap.size (by omega) 0).trans (hbc.out 0 _ rfl)
              simp at q0 z0 p1
              generalize ps[l] = pk at *
              generalize p.ins[l] = id at *
              obtain ⟨pn, rfl⟩ : ∃ pn : Nat, pk = pn := ⟨pk.toNat, by omega⟩
              have hpn : pn < f.blocks.length := by omega
              have hend := sees_end f id pn hid.1 hid.2 (by omega) (by omega)
              rw [blkAt_nat f pn hpn] at hend
              obtain ⟨fb, fo, fcs, hA_, hfb, ⟨fv1, fv2, rfl, hr_, hr2_⟩, hat_⟩ := (hb0.out).in0 (hBl.out) pn hpn
              cases hA_
              have hfw := Nat.lt_of_lt_of_le hfb (hBl.out).size
              obtain ⟨Ap2, cp2, rfl, hcp2, hlp2, -⟩ := hr_.sm
              obtain ⟨Ai2, ci2, rfl, hci2, hli2, -⟩ := hr2_.sm
              have m0 := hat_ 0 _ rfl
              have m1 := hat_ 1 _ rfl
              have m2 := hat_ 2 _ rfl
              have m3 := hat_ 3 _ rfl
              have m4 := hat_ 4 _ rfl
              have m5 := hat_ 5 _ rfl
              clear hat_ hr_ hr2_
              simp at m0 m1 m2 m3 m4 m5
              generalize f.blocks[pn] = pbk at *
              have ew2 : IntKind.i64.wrap ((pbk.phis.length : Int) + (pbk.insts.length : Int)) = (pbk.phis.length : Int) + (pbk.insts.length : Int) := IntWalk.i64_in _ (by omega)
              obtain ⟨wq, hwq⟩ : ∃ wq : World, wq = (wl.alloc (.cells #[.slice Ap2 pbk.phis.length cp2, .slice Ai2 pbk.insts.length ci2, .int .i64 pbk.term.kind, .int .i64 pbk.term.a, .int .i64 pbk.term.x, .int .i64 pbk.term.y] 32)).drew := ⟨_, rfl⟩
              have hqB : Hd (Below wl.heap.size wl wq) := ⟨by rw [hwq]; exact Below.drew ((Below.refl wl.heap.size wl).al (Nat.le_refl _) _)⟩
              have n0 : wq.cell? ⟨wl.heap.size, 0, none⟩ = some (.slice Ap2 pbk.phis.length cp2) := by rw [hwq]; exact new_cell wl _ _ rfl 0 _ rfl
              have n1 : wq.cell? ⟨wl.heap.size, 1, none⟩ = some (.slice Ai2 pbk.insts.length ci2) := by rw [hwq]; exact new_cell wl _ _ rfl 1 _ rfl
              have hzq : wq.heap.size = wl.heap.size + 1 := by rw [hwq]; exact (by intro W o; simp : ∀ (W : World) o, (W.alloc o).heap.size = W.heap.size + 1) wl _
              have hwq' := Hd.mk hwq
              clear hwq
              have el0 : (0 : Int) ≤ (l : Int) := by omega
              have el1 : (l : Int) < (ps.length : Int) := by omega
              have el2 : (l : Int) < (p.ins.length : Int) := by omega
              have ej0 : (0 : Int) ≤ (j : Int) := by omega
              have ej1 : (j : Int) < (x.phis.length : Int) := by omega
              have hdz : wl.drew.heap.size = wl.heap.size := rfl
              have hhp := hhas'.out (pn : Int) (by omega)
              rw [Int.toNat_natCast] at hhp hsnl hfll
              have hha := fun W (hW : Below w1.heap.size w1 W) => s_l1Has _ lv (pn : Int) W (hlv.out.mv hW)
              rw [hhp] at hha
              have hsee := fun W hW => hse id (pn : Int) ((pbk.phis.length : Int) + (pbk.insts.length : Int)) W hW hid.2 (by omega)
              rw [hend] at hsee
              clear hhp hend
              generalize (reach f (-1)).getD pn false = rq at *
              generalize seen f id (pn : Int) (countOf f) = sq at *
              go_wp2
              refine wp_via (fun a a' W => (∃ (u55 u56 u57 u58 u59 u60 u61 u62 : Value), a' = ((((((((a.put (some 55) u55).put (some 56) u56).put (some 57) u57).put (some 58) u58).put (some 59) u59).put (some 60) u60).put (some 61) u61).put (some 62) u62).put (some 11) (.pointer (some ⟨wl.heap.size, 0, none⟩))) ∧ W = wq) ?_ ?_
              · rw [hwq'.out]
                have hlw0 : w.heap.size < wl.heap.size := by omega
                have hlo0 : wo.heap.size < wl.heap.size := by omega
                clear hsnl hfll hsnj hflj hsn hfl hse hpr hha hsee hhas' hmem' hb0 hrp hri hrx hlv hpR hid hids hpin hpin1
                go_region
                all_goals
                  unfold Exit.then
                  go_simp
                all_goals exact ⟨_, _, _, _, _, _, _, _, rfl, rfl, rfl, rfl, rfl, rfl, rfl, rfl, rfl⟩
              rintro a' W ⟨⟨u55, u56, u57, u58, u59, u60, u61, u62, rfl⟩, hWq⟩
              rw [hWq]
              clear hWq
              simp only [Act.put, List.setIfInBounds_toArray, List.set_cons_zero, List.set_cons_succ]
              go_wp2
              have hlw : w.heap.size < wq.heap.size := by omega
              have hlo : wo.heap.size < wq.heap.size := by omega
              have hlp' : pb < wq.heap.size := by omega
              have hlq : qb < wq.heap.size := by omega
              have hlz : zb < wq.heap.size := by omega
              have hlf : wl.heap.size < wq.heap.size := by omega
              replace x0 := (bat hqB.out w.heap.size (by omega) 0).trans x0
              replace x1 := (bat hqB.out w.heap.size (by omega) 1).trans x1
              replace x2 := (bat hqB.out w.heap.size (by omega) 2).trans x2
              replace y0 := (bat hqB.out wo.heap.size (by omega) 0).trans y0
              replace p1 := (bat hqB.out pb (by omega) _).trans p1
              replace q0 := (bat hqB.out qb (by omega) _).trans q0
              replace z0 := (bat hqB.out zb (by omega) _).trans z0
              have hBq := Hd.mk (hBl.out.then hqB.out)
              have hb1q := Hd.mk (hb12.out.then hqB.out)
              have hblq := Hd.mk (hbl'.out.then hqB.out)
              clear m0 m1 m2 m3 m4 m5 hBl hW0l hb2l hqB hb12
              cases rq with
              | false =>
                have hall2 := Hd.mk (show (List.range (l + 1)).all (seesK f bn p) = true by rw [hsnl.out, halll.out]; rfl)
                clear hsnl hfll hsee
                refine wp_region_bel (by kernel_rfl) (by kernel_rfl) ?_
                simp only [List.toList_toArray]
                repeat' first
                  | (refine seq_val (by rfl) (by intro W hS; have s0 := (bat hS w.heap.size hlw 0).trans x0; have s1 := (bat hS w.heap.size hlw 1).trans x1; have s2 := (bat hS w.heap.size hlw 2).trans x2; have t0 := (bat hS wo.heap.size hlo 0).trans y0; have t1 := (bat hS pb hlp' _).trans p1; have t2 := (bat hS qb hlq _).trans q0; have t3 := (bat hS zb hlz _).trans z0; have t4 := (bat hS wl.heap.size hlf 0).trans n0; have t5 := (bat hS wl.heap.size hlf 1).trans n1; go_simp; first | done | rfl) ?_; simp only [Act.put, List.setIfInBounds_toArray, List.set_cons_zero, List.set_cons_succ])
                  | (refine seq_skip (by rfl) ?_; simp only [Act.put, List.setIfInBounds_toArray, List.set_cons_zero, List.set_cons_succ])
                  | (refine seq_ret 147 _ (by rfl) (by intro W hS; have s0 := (bat hS w.heap.size hlw 0).trans x0; have s1 := (bat hS w.heap.size hlw 1).trans x1; have s2 := (bat hS w.heap.size hlw 2).trans x2; have t0 := (bat hS wo.heap.size hlo 0).trans y0; have t1 := (bat hS pb hlp' _).trans p1; have t2 := (bat hS qb hlq _).trans q0; have t3 := (bat hS zb hlz _).trans z0; have t4 := (bat hS wl.heap.size hlf 0).trans n0; have t5 := (bat hS wl.heap.size hlf 1).trans n1; go_simp; first | done | rfl) (fun W hS => hha W (hb1q.out.then hS)) ?_; simp only [Act.put, List.setIfInBounds_toArray, List.set_cons_zero, List.set_cons_succ])
                  | fail
                refine seq_nil (fun W hS => ?_)
                have s0 := (bat hS w.heap.size hlw 0).trans x0
                have s1 := (bat hS w.heap.size hlw 1).trans x1
                have s2 := (bat hS w.heap.size hlw 2).trans x2
                have t0 := (bat hS wo.heap.size hlo 0).trans y0
                have t1 := (bat hS pb hlp' _).trans p1
                have t2 := (bat hS qb hlq _).trans q0
                have t3 := (bat hS zb hlz _).trans z0
                have t4 := (bat hS wl.heap.size hlf 0).trans n0
                have t5 := (bat hS wl.heap.size hlf 1).trans n1
                go_wp2
                go_roundw
                case rel => exact ⟨l + 1, by omega, by go_num, hall2, ⟨hblq.out.then hS⟩⟩
                case measure => simp [intOf]; omega
              | true =>
                cases sq with
                | true =>
                  have hall2 := Hd.mk (show (List.range (l + 1)).all (seesK f bn p) = true by rw [hsnl.out, halll.out]; rfl)
                  clear hsnl hfll
                  refine wp_region_bel (by kernel_rfl) (by kernel_rfl) ?_
                  simp only [List.toList_toArray]
                  repeat' first
                    | (refine seq_val (by rfl) (by intro W hS; have s0 := (bat hS w.heap.size hlw 0).trans x0; have s1 := (bat hS w.heap.size hlw 1).trans x1; have s2 := (bat hS w.heap.size hlw 2).trans x2; have t0 := (bat hS wo.heap.size hlo 0).trans y0; have t1 := (bat hS pb hlp' _).trans p1; have t2 := (bat hS qb hlq _).trans q0; have t3 := (bat hS zb hlz _).trans z0; have t4 := (bat hS wl.heap.size hlf 0).trans n0; have t5 := (bat hS wl.heap.size hlf 1).trans n1; go_simp; first | done | rfl) ?_; simp only [Act.put, List.setIfInBounds_toArray, List.set_cons_zero, List.set_cons_succ])
                    | (refine seq_skip (by rfl) ?_; simp only [Act.put, List.setIfInBounds_toArray, List.set_cons_zero, List.set_cons_succ])
                    | (refine seq_ret 147 _ (by rfl) (by intro W hS; have s0 := (bat hS w.heap.size hlw 0).trans x0; have s1 := (bat hS w.heap.size hlw 1).trans x1; have s2 := (bat hS w.heap.size hlw 2).trans x2; have t0 := (bat hS wo.heap.size hlo 0).trans y0; have t1 := (bat hS pb hlp' _).trans p1; have t2 := (bat hS qb hlq _).trans q0; have t3 := (bat hS zb hlz _).trans z0; have t4 := (bat hS wl.heap.size hlf 0).trans n0; have t5 := (bat hS wl.heap.size hlf 1).trans n1; go_simp; first | done | rfl) (fun W hS => hha W (hb1q.out.then hS)) ?_; simp only [Act.put, List.setIfInBounds_toArray, List.set_cons_zero, List.set_cons_succ])
                    | (refine seq_ret 152 _ (by rfl) (by intro W hS; have s0 := (bat hS w.heap.size hlw 0).trans x0; have s1 := (bat hS w.heap.size hlw 1).trans x1; have s2 := (bat hS w.heap.size hlw 2).trans x2; have t0 := (bat hS wo.heap.size hlo 0).trans y0; have t1 := (bat hS pb hlp' _).trans p1; have t2 := (bat hS qb hlq _).trans q0; have t3 := (bat hS zb hlz _).trans z0; have t4 := (bat hS wl.heap.size hlf 0).trans n0; have t5 := (bat hS wl.heap.size hlf 1).trans n1; go_simp; first | done | rfl) (fun W hS => hsee W (hBq.out.then hS)) ?_; simp only [Act.put, List.setIfInBounds_toArray, List.set_cons_zero, List.set_cons_succ])
                    | fail
                  refine seq_nil (fun W hS => ?_)
                  have s0 := (bat hS w.heap.size hlw 0).trans x0
                  have s1 := (bat hS w.heap.size hlw 1).trans x1
                  have s2 := (bat hS w.heap.size hlw 2).trans x2
                  have t0 := (bat hS wo.heap.size hlo 0).trans y0
                  have t1 := (bat hS pb hlp' _).trans p1
                  have t2 := (bat hS qb hlq _).trans q0
                  have t3 := (bat hS zb hlz _).trans z0
                  have t4 := (bat hS wl.heap.size hlf 0).trans n0
                  have t5 := (bat hS wl.heap.size hlf 1).trans n1
                  go_wp2
                  go_roundw
                  case rel => exact ⟨l + 1, by omega, by go_num, hall2, ⟨hblq.out.then hS⟩⟩
                  case measure => simp [intOf]; omega
                | false =>
                  have hv : R = false := by
                    rw [← hR'.out]
                    refine (hfl ?_).out
                    rw [(hflj (hfll rfl).out).out]; rfl
                  subst hv
                  clear hsnl hfll hsnj hflj hsn hfl
                  refine wp_region_bel (by kernel_rfl) (by kernel_rfl) ?_
                  simp only [List.toList_toArray]
                  repeat' first
                    | (refine seq_val (by rfl) (by intro W hS; have s0 := (bat hS w.heap.size hlw 0).trans x0; have s1 := (bat hS w.heap.size hlw 1).trans x1; have s2 := (bat hS w.heap.size hlw 2).trans x2; have t0 := (bat hS wo.heap.size hlo 0).trans y0; have t1 := (bat hS pb hlp' _).trans p1; have t2 := (bat hS qb hlq _).trans q0; have t3 := (bat hS zb hlz _).trans z0; have t4 := (bat hS wl.heap.size hlf 0).trans n0; have t5 := (bat hS wl.heap.size hlf 1).trans n1; go_simp; first | done | rfl) ?_; simp only [Act.put, List.setIfInBounds_toArray, List.set_cons_zero, List.set_cons_succ])
                    | (refine seq_skip (by rfl) ?_; simp only [Act.put, List.setIfInBounds_toArray, List.set_cons_zero, List.set_cons_succ])
                    | (refine seq_ret 147 _ (by rfl) (by intro W hS; have s0 := (bat hS w.heap.size hlw 0).trans x0; have s1 := (bat hS w.heap.size hlw 1).trans x1; have s2 := (bat hS w.heap.size hlw 2).trans x2; have t0 := (bat hS wo.heap.size hlo 0).trans y0; have t1 := (bat hS pb hlp' _).trans p1; have t2 := (bat hS qb hlq _).trans q0; have t3 := (bat hS zb hlz _).trans z0; have t4 := (bat hS wl.heap.size hlf 0).trans n0; have t5 := (bat hS wl.heap.size hlf 1).trans n1; go_simp; first | done | rfl) (fun W hS => hha W (hb1q.out.then hS)) ?_; simp only [Act.put, List.setIfInBounds_toArray, List.set_cons_zero, List.set_cons_succ])
                    | (refine seq_ret 152 _ (by rfl) (by intro W hS; have s0 := (bat hS w.heap.size hlw 0).trans x0; have s1 := (bat hS w.heap.size hlw 1).trans x1; have s2 := (bat hS w.heap.size hlw 2).trans x2; have t0 := (bat hS wo.heap.size hlo 0).trans y0; have t1 := (bat hS pb hlp' _).trans p1; have t2 := (bat hS qb hlq _).trans q0; have t3 := (bat hS zb hlz _).trans z0; have t4 := (bat hS wl.heap.size hlf 0).trans n0; have t5 := (bat hS wl.heap.size hlf 1).trans n1; go_simp; first | done | rfl) (fun W hS => hsee W (hBq.out.then hS)) ?_; simp only [Act.put, List.setIfInBounds_toArray, List.set_cons_zero, List.set_cons_succ])
                    | fail
                  refine seq_nil (fun W hS => ?_)
                  have s0 := (bat hS w.heap.size hlw 0).trans x0
                  have s1 := (bat hS w.heap.size hlw 1).trans x1
                  have s2 := (bat hS w.heap.size hlw 2).trans x2
                  have t0 := (bat hS wo.heap.size hlo 0).trans y0
                  have t1 := (bat hS pb hlp' _).trans p1
                  have t2 := (bat hS qb hlq _).trans q0
                  have t3 := (bat hS zb hlz _).trans z0
                  have t4 := (bat hS wl.heap.size hlf 0).trans n0
                  have t5 := (bat hS wl.heap.size hlf 1).trans n1
                  go_wp2
                  go_ret
                  exact ⟨rfl, hBq.out.then hS⟩
            · have e : l = ps.length := by omega
              subst e
              have hall2 := Hd.mk (show (x.phis.take (j + 1)).all (seesP f bn) = true by rw [hsnj.out, hallj.out, halll.out]; rfl)
              clear hsnj hflj
              go_wp2
              go_roundw
              case rel => exact ⟨j + 1, by omega, by go_num, hall2, ⟨hbj.out.then hbl'.out⟩⟩
              case measure => simp [intOf]; omega
        · have e : j = x.phis.length := by omega
          subst e
          rw [List.take_length] at hallj
          rw [show x.phis.all (seesP f bn) = true from hallj.out, Bool.true_and] at hsn hfl
          go_wp2
          clear y0 y1
          go_loopw [12] (fun s12 wr => ∃ l : Nat, l ≤ x.insts.length ∧ s12 = .int .i64 l ∧ Hd ((List.range l).all (seesI f bn) = true) ∧ Hd (Below wj.heap.size wj wr)) (fun s12 _ => x.insts.length - (intOf s12).toNat)
          case atStart => exact ⟨0, Nat.zero_le _, rfl, ⟨rfl⟩, ⟨Below.refl _ _⟩⟩
          case round =>
            obtain ⟨l, hl, rfl, halll, hbl'⟩ := hrel
            obtain ⟨wl, rfl⟩ : ∃ wl : World, wl = wr := ⟨_, rfl⟩
            have hBl := Hd.mk (hBj.out.then hbl'.out)
            have hW0l := Hd.mk (hW0j.out.then hbl'.out)
            have hb2l := Hd.mk (hb2j.out.then hbl'.out)
            have hzl := hbl'.out.size
            have y0 := (bat hb2l.out wo.heap.size (by omega) 0).trans (hbc.out 0 _ rfl)
            have y1 := (bat hb2l.out wo.heap.size (by omega) 1).trans (hbc.out 1 _ rfl)
            by_cases hltl : l < x.insts.length
            · have hio := hbo.out.2.1 x.insts[l] (List.getElem_mem hltl)
              have hids := Hd.mk (inst_parts hio).2.1
              have hsnl := Hd.mk (range_all_snoc (seesI f bn) l)
              have hfll := fun h => Hd.mk (range_all_fail (seesI f bn) x.insts.length l hltl h)
              have hsI2 : seesI f bn l = (opsOf x.insts[l]).all (fun id => seen f id bn (firstOf f bn + x.phis.length + l)) := by
                unfold seesI
                rw [hbk'.out, getD_get _ l inst0 hltl]
              rw [hsI2] at hsnl hfll
              clear hsI2
              obtain ⟨eb, eo, ecs, hA_, heb, ⟨iv1, rfl, hr_⟩, hat_⟩ := (hri.out).in0 (hBl.out) (l) (hltl)
              cases hA_
              have hew := Nat.lt_of_lt_of_le heb (hBl.out).size
              have g0 := hat_ 0 _ rfl
              have g1 := hat_ 1 _ rfl
              have g2 := hat_ 2 _ rfl
              have g3 := hat_ 3 _ rfl
              have g4 := hat_ 4 _ rfl
              have g5 := hat_ 5 _ rfl
              have g6 := hat_ 6 _ rfl
              clear hat_
              simp at g0 g1 g2 g3 g4 g5 g6
              obtain ⟨Aa, ca, rfl, hca, hla, hra⟩ := hr_.sm
              clear hr_
              have hop := fun W' (hW' : Below w.heap.size w W') => s_l2Operands x.insts[l] (.slice Aa x.insts[l].args.length ca) W' (hra.out.mv hW')
              have hol := opsOf_len x.insts[l] hla
              generalize x.insts[l] = i at *
              have hla' := hla
              obtain ⟨os, hosq⟩ : ∃ os, os = opsOf i := ⟨_, rfl⟩
              rw [← hosq] at hop hids hsnl hfll hol
              clear hosq hio
              obtain ⟨op, iw, ia, ib, ic, imm, args⟩ := i
              simp only [instV] at *
              have hc1 := hop wl hBl.out
              clear hop
              go_wp2_with fail
              refine hc1.mono ?_; rintro e w5 ⟨u5, rfl, ho5, hb5⟩
              have hoR := Hd.mk (OI.rd ho5 (by omega))
              obtain ⟨Ao, co, rfl, -, -, -, -⟩ := own_shape ho5
              have hb5' := Hd.mk hb5
              have hz5 := hb5.size
              clear hc1 ho5 hb5 y0 y1 g0 g1 g2 g3 g4 g5 g6
              go_wp2
              go_loopw [14] (fun s14 wr => ∃ q : Nat, q ≤ os.length ∧ s14 = .int .i64 q ∧ Hd ((os.take q).all (fun id => seen f id bn (firstOf f bn + x.phis.length + l)) = true) ∧ Hd (Below w5.heap.size w5 wr)) (fun s14 _ => os.length - (intOf s14).toNat)
              case atStart => exact ⟨0, Nat.zero_le _, rfl, ⟨rfl⟩, ⟨Below.refl _ _⟩⟩
              case round =>
                obtain ⟨q, hq, rfl, hallq, hbq⟩ := hrel
                have hBq := Hd.mk ((hBl.out.then hb5'.out).then hbq.out)
                have hW0q := Hd.mk ((hW0l.out.then hb5'.out).then hbq.out)
                have hb2q := Hd.mk ((hb2l.out.then hb5'.out).then hbq.out)
                have hzq := hbq.out.size
                by_cases hltq : q < os.length
                · have hid := hids.out os[q] (List.getElem_mem hltq)
                  have hsnq := Hd.mk (all_take_snoc (fun id => seen f id bn (firstOf f bn + x.phis.length + l)) os q hltq)
                  have hflq := fun h => Hd.mk (all_false_of (fun id => seen f id bn (firstOf f bn + x.phis.length + l)) os q hltq h)
                  obtain ⟨qb, qo, qcs, hA_, hqb, hk_, hat_⟩ := (hoR.out).in0 (hbq.out) q hltq
                  cases hA_; cases hk_
                  have hqw := Nat.lt_of_lt_of_le hqb (hbq.out).size
                  have q0 := hat_ 0 _ rfl
                  clear hat_
                  simp at q0
                  have x0 := (bat hW0q.out w.heap.size (by omega) 0).trans (hzf.out 0 _ rfl)
                  have x1 := (bat hW0q.out w.heap.size (by omega) 1).trans (hzf.out 1 _ rfl)
                  have x2 := (bat hW0q.out w.heap.size (by omega) 2).trans (hzf.out 2 _ rfl)
                  have y0 := (bat hb2q.out wo.heap.size (by omega) 0).trans (hbc.out 0 _ rfl)
                  have ew3 : IntKind.i64.wrap ((x.phis.length : Int) + (l : Int)) = (x.phis.length : Int) + (l : Int) := IntWalk.i64_in _ (by omega)
                  generalize os[q] = id at *
                  have hfi := sees_first f id bn ((x.phis.length : Int) + (l : Int)) hid.1 hid.2 (by omega)
                  rw [← Int.add_assoc] at hfi
                  have hsee := fun W hW => hse id (bn : Int) ((x.phis.length : Int) + (l : Int)) W hW hid.2 (by omega)
                  rw [hfi] at hsee
                  clear hfi
                  have hlw : w.heap.size < wr.heap.size := by omega
                  have hlo : wo.heap.size < wr.heap.size := by omega
                  have hlq : qb < wr.heap.size := by omega
                  have eq0 : (0 : Int) ≤ (q : Int) := by omega
                  have eq1 : (q : Int) < (os.length : Int) := by omega
                  cases hsq : seen f id bn (firstOf f bn + x.phis.length + l) with
                  | true =>
                    rw [hsq] at hsee
                    have hall2 := Hd.mk (show (os.take (q + 1)).all (fun id => seen f id bn (firstOf f bn + x.phis.length + l)) = true by rw [hsnq.out, hallq.out, hsq]; rfl)
                    clear hsnq hflq hsq
                    go_wp2
                    refine wp_region_bel (by kernel_rfl) (by kernel_rfl) ?_
                    simp only [List.toList_toArray]
                    repeat' first
                      | (refine seq_val (by rfl) (by intro W hS; have s0 := (bat hS w.heap.size hlw 0).trans x0; have s1 := (bat hS w.heap.size hlw 1).trans x1; have s2 := (bat hS w.heap.size hlw 2).trans x2; have t0 := (bat hS wo.heap.size hlo 0).trans y0; have t2 := (bat hS qb hlq _).trans q0; go_simp; first | done | rfl) ?_; simp only [Act.put, List.setIfInBounds_toArray, List.set_cons_zero, List.set_cons_succ])
                      | (refine seq_skip (by rfl) ?_; simp only [Act.put, List.setIfInBounds_toArray, List.set_cons_zero, List.set_cons_succ])
                      | (refine seq_ret 152 _ (by rfl) (by intro W hS; have s0 := (bat hS w.heap.size hlw 0).trans x0; have s1 := (bat hS w.heap.size hlw 1).trans x1; have s2 := (bat hS w.heap.size hlw 2).trans x2; have t0 := (bat hS wo.heap.size hlo 0).trans y0; have t2 := (bat hS qb hlq _).trans q0; go_simp; first | done | rfl) (fun W hS => hsee W (hBq.out.then hS)) ?_; simp only [Act.put, List.setIfInBounds_toArray, List.set_cons_zero, List.set_cons_succ])
                      | fail
                    refine seq_nil (fun W hS => ?_)
                    have s0 := (bat hS w.heap.size hlw 0).trans x0
                    have s1 := (bat hS w.heap.size hlw 1).trans x1
                    have s2 := (bat hS w.heap.size hlw 2).trans x2
                    have t0 := (bat hS wo.heap.size hlo 0).trans y0
                    have t2 := (bat hS qb hlq _).trans q0
                    go_wp2
                    go_roundw
                    case rel => exact ⟨q + 1, by omega, by go_num, hall2, ⟨hbq.out.then hS⟩⟩
                    case measure => simp [intOf]; omega
                  | false =>
                    rw [hsq] at hsee
                    have hv : R = false := by
                      rw [← hR'.out]
                      refine (hfl ?_).out
                      rw [(hfll (hflq hsq).out).out]; rfl
                    subst hv
                    clear hsnq hflq hsq hsnl hfll hsn hfl
                    go_wp2
                    refine wp_region_bel (by kernel_rfl) (by kernel_rfl) ?_
                    simp only [List.toList_toArray]
                    repeat' first
                      | (refine seq_val (by rfl) (by intro W hS; have s0 := (bat hS w.heap.size hlw 0).trans x0; have s1 := (bat hS w.heap.size hlw 1).trans x1; have s2 := (bat hS w.heap.size hlw 2).trans x2; have t0 := (bat hS wo.heap.size hlo 0).trans y0; have t2 := (bat hS qb hlq _).trans q0; go_simp; first | done | rfl) ?_; simp only [Act.put, List.setIfInBounds_toArray, List.set_cons_zero, List.set_cons_succ])
                      | (refine seq_skip (by rfl) ?_; simp only [Act.put, List.setIfInBounds_toArray, List.set_cons_zero, List.set_cons_succ])
                      | (refine seq_ret 152 _ (by rfl) (by intro W hS; have s0 := (bat hS w.heap.size hlw 0).trans x0; have s1 := (bat hS w.heap.size hlw 1).trans x1; have s2 := (bat hS w.heap.size hlw 2).trans x2; have t0 := (bat hS wo.heap.size hlo 0).trans y0; have t2 := (bat hS qb hlq _).trans q0; go_simp; first | done | rfl) (fun W hS => hsee W (hBq.out.then hS)) ?_; simp only [Act.put, List.setIfInBounds_toArray, List.set_cons_zero, List.set_cons_succ])
                      | fail
                    refine seq_nil (fun W hS => ?_)
                    have s0 := (bat hS w.heap.size hlw 0).trans x0
                    have s1 := (bat hS w.heap.size hlw 1).trans x1
                    have s2 := (bat hS w.heap.size hlw 2).trans x2
                    have t0 := (bat hS wo.heap.size hlo 0).trans y0
                    have t2 := (bat hS qb hlq _).trans q0
                    go_wp2
                    go_ret
                    exact ⟨rfl, hBq.out.then hS⟩
                · have e : q = os.length := by omega
                  subst e
                  rw [List.take_length] at hallq
                  have hall2 := Hd.mk (show (List.range (l + 1)).all (seesI f bn) = true by rw [hsnl.out, halll.out, hallq.out]; rfl)
                  clear hsnl hfll
                  go_wp2
                  go_roundw
                  case rel => exact ⟨l + 1, by omega, by go_num, hall2, ⟨(hbl'.out.then hb5'.out).then hbq.out⟩⟩
                  case measure => simp [intOf]; omega
            · have e : l = x.insts.length := by omega
              subst e
              rw [show (List.range x.insts.length).all (seesI f bn) = true from halll.out, Bool.true_and] at hsn hfl
              have z2 := (bat hb2l.out wo.heap.size (by omega) 2).trans (hbc.out 2 _ rfl)
              have z3 := (bat hb2l.out wo.heap.size (by omega) 3).trans (hbc.out 3 _ rfl)
              have x0 := (bat hW0l.out w.heap.size (by omega) 0).trans (hzf.out 0 _ rfl)
              have x1 := (bat hW0l.out w.heap.size (by omega) 1).trans (hzf.out 1 _ rfl)
              have x2 := (bat hW0l.out w.heap.size (by omega) 2).trans (hzf.out 2 _ rfl)
              have hta := Hd.mk (fun h => term_a hbo.out.2.2 h)
              have hend := Hd.mk (fun h0 h1 => sees_end f x.term.a bn h0 h1 (by omega) (by omega))
              have hbb : blkAt f (bn : Int) = x := hbk'.out
              rw [hbb, ← hal'.out] at hend
              clear hbb
              rw [hsI.out] at hsn hfl
              have hblx := Hd.mk ((((hbr.out.then hbB.out).then hb2'.out).then hbj.out).then hbl'.out)
              have hpass := fun (h : (!(x.term.kind == 1 || x.term.kind == 3) || seen f x.term.a bn (countOf f)) = true) => Hd.mk (show (lv.take (k + 1)).all (seesB f) = true by rw [hsn.out, hall.out, h]; rfl)
              have hfail := fun (h : (!(x.term.kind == 1 || x.term.kind == 3) || seen f x.term.a bn (countOf f)) = false) => Hd.mk (hR'.out.symm.trans (hfl h).out)
              clear hsn hfl hsI
              generalize x.term = t at *
              obtain ⟨tk, ta, tx, ty⟩ := t
              simp only at hpass hfail hta hend z2 z3
              have hlw : w.heap.size < wl.heap.size := by omega
              have hlo : wo.heap.size < wl.heap.size := by omega
              by_cases k13 : tk = 1 ∨ tk = 3
              · have hid := hta.out k13
                have hsee := hse ta (bn : Int) al wl hBl.out hid.2 (by omega)
                rw [hend.out hid.1 hid.2] at hsee
                have hk13 : (tk == 1 || tk == 3) = true := by rcases k13 with e | e <;> simp [e]
                rw [hk13, Bool.not_true, Bool.false_or] at hpass hfail
                generalize seen f ta (bn : Int) (countOf f) = sq at *
                rcases k13 with rfl | rfl
                · cases sq with
                  | true =>
                    have hall2 := hpass rfl
                    clear hpass hfail hk13
                    go_wp2_with fail
                    refine hsee.mono ?_; rintro e w6 ⟨rfl, hb6⟩
                    have hb6' := Hd.mk hb6
                    clear hb6 hsee
                    go_wp2
                    go_roundw
                    case rel => exact ⟨k + 1, by omega, by go_num, hall2, ⟨hblx.out.then hb6'.out⟩⟩
                    case measure => simp [intOf]; omega
                  | false =>
                    have hv := (hfail rfl).out
                    subst hv
                    clear hpass hfail hk13
                    go_wp2_with fail
                    refine hsee.mono ?_; rintro e w6 ⟨rfl, hb6⟩
                    have hb6' := Hd.mk hb6
                    clear hb6 hsee
                    go_wp2
                    go_ret
                    exact ⟨rfl, hBl.out.then hb6'.out⟩
                · cases sq with
                  | true =>
                    have hall2 := hpass rfl
                    clear hpass hfail hk13
                    go_wp2_with fail
                    refine hsee.mono ?_; rintro e w6 ⟨rfl, hb6⟩
                    have hb6' := Hd.mk hb6
                    clear hb6 hsee
                    go_wp2
                    go_roundw
                    case rel => exact ⟨k + 1, by omega, by go_num, hall2, ⟨hblx.out.then hb6'.out⟩⟩
                    case measure => simp [intOf]; omega
                  | false =>
                    have hv := (hfail rfl).out
                    subst hv
                    clear hpass hfail hk13
                    go_wp2_with fail
                    refine hsee.mono ?_; rintro e w6 ⟨rfl, hb6⟩
                    have hb6' := Hd.mk hb6
                    clear hb6 hsee
                    go_wp2
                    go_ret
                    exact ⟨rfl, hBl.out.then hb6'.out⟩
              have b1 : (tk == 1) = false := beqF fun e => k13 (.inl e)
              have b3 : (tk == 3) = false := beqF fun e => k13 (.inr e)
              have hall2 := hpass (by rw [b1, b3]; rfl)
              clear hpass hfail k13
              go_wp2
              go_roundw
              case rel => exact ⟨k + 1, by omega, by go_num, hall2, hblx⟩
              case measure => simp [intOf]; omega
    · have e : k = lv.length := by omega
      subst e
      rw [List.take_length] at hall
      have hv := hR'.out.symm.trans hall.out
      subst hv
      go_wp2
      go_ret
      exact ⟨rfl, hBw.out⟩
end Go.Proofs.YtkcgejbnhpccdaaGreat
