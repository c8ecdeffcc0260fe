import Derived.Test.YtkcgejbnhpccdaaGreatT15
import Derived.Deep.RegionHeld3
set_option linter.unusedSimpArgs false
set_option linter.unusedVariables false
namespace Go.Proofs.YtkcgejbnhpccdaaGreat
open Go.RowKit
def seesT (f : XFunc) (b : Int) : Bool := !((blkAt f b).term.kind == 1 || (blkAt f b).term.kind == 3) || seen f (blkAt f b).term.a b (countOf f)
theorem seesB_parts (f : XFunc) (b : Int) : seesB f b = ((blkAt f b).phis.all (seesP f b) && ((List.range (blkAt f b).insts.length).all (seesI f b) && seesT f b)) := by
  unfold seesB seesT
  rw [Bool.and_assoc]
def seesK (f : XFunc) (b : Int) (p : XPhi) (k : Nat) : Bool := !((reach f (-1)).getD ((predsOf f b).getD k 0).toNat false && !seen f (p.ins.getD k 0) ((predsOf f b).getD k 0) (countOf f))
theorem seesP_all (f : XFunc) (b : Int) (p : XPhi) : seesP f b p = (List.range p.ins.length).all (seesK f b p) := rfl
theorem preds_in (f : XFunc) (b : Int) (k : Nat) (h : k < (predsOf f b).length) : 0 ≤ (predsOf f b)[k] ∧ (predsOf f b)[k] < f.blocks.length := by
  have hm : (predsOf f b)[k] ∈ predsOf f b := List.getElem_mem h
  unfold predsOf at hm
  exact (upTo_mem _ _).1 (List.mem_filter.1 hm).1
theorem phisOk_at {f : XFunc} (h : phisOk f = true) (b : Nat) (hb : b < f.blocks.length) (p : XPhi) (hp : p ∈ f.blocks[b].phis) : p.ins.length = (predsOf f b).length := by
  unfold phisOk at h
  rw [List.all_eq_true] at h
  have := h b (by simpa using hb)
  rw [blkAt_nat f b hb, List.all_eq_true] at this
  simpa using this p hp
theorem first_rng (f : XFunc) (b : Int) (h : Fo f) : 0 ≤ firstOf f b ∧ firstOf f b ≤ 60 := by
  have h1 := countIn_le f.params.length (f.blocks.take b.toNat)
  have h2 := countIn_take_le f.params.length f.blocks b.toNat
  have h3 : countIn f.params.length f.blocks = countOf f := rfl
  have h4 := h.2.1
  unfold firstOf
  omega
theorem cell_off (W : World) (g j b o : Nat) (u : Value) (h : b ≠ g) : (W.setCell ⟨g, j, none⟩ u).cell? ⟨b, o, none⟩ = W.cell? ⟨b, o, none⟩ :=
  World.cell?_of_block (w := W) (w' := W.setCell ⟨g, j, none⟩ u) (a := ⟨b, o, none⟩) (Below.heap_setCell _ _ _ _ h)
theorem getD_get {α : Type} (l : List α) (k : Nat) (d : α) (h : k < l.length) : l.getD k d = l[k] := by rw [List.getD_eq_getElem?_getD, List.getElem?_eq_getElem h]; rfl
set_option maxRecDepth 20000 in
set_option maxHeartbeats 8000000 in
theorem c_areSeen (lo : Nat) (f : XFunc) (cs : List Value) (b : Nat) (v : Value) (w : World) (hf : KFunc lm w f cs) (hfo : Fo f) (hb : b < f.blocks.length) (hv : OwB lo w v (reach f (-1))) (hph : phisOk f = true) :
    Calls Tryz.prog 136 #[.agg cs.toArray, .int .i64 b, v] w (Ret (.bool (seesB f b)) w) := by
  have hpr := fun W hW => c_predsOf f cs b W (KM.mv hf hW)
  have hf' := Hd.mk hf
  obtain ⟨v1, v2, rfl, hp, hb'⟩ := hf
  obtain ⟨A1, c1, rfl, -, -, -⟩ := hp.sm
  obtain ⟨A2, c2, rfl, hcap, hl2, hb0⟩ := hb'.sm
  clear hp hb'
  have hbl := fun o o' o'' => (((Below.refl w.heap.size w).al (Nat.le_refl _) o).al (by simp) o').al (by simp; omega) o''
  have hrl := reach_len f (-1)
  obtain ⟨Av, cv, rfl, -, -, -, -⟩ := own_shape hv
  have hv' := Hd.mk hv
  clear hv
  generalize hR : seesB f b = R
  have hR' := Hd.mk hR
  clear hR
  rw [seesB_parts] at hR'
  have hbk := blkAt_nat f b hb
  have hpa := Hd.mk (phisOk_at hph b hb)
  clear hph
  obtain ⟨eb, eo, ecs, hA_, heb, ⟨bv1, bv2, rfl, hr_, hr2_⟩, hat_⟩ := (hb0.out).in0 (Below.refl w.heap.size w) (b) (hb)
  cases hA_
  have hew := Nat.lt_of_lt_of_le heb (Below.refl w.heap.size w).size
  have g0 := hat_ 0 _ rfl
  have g1 := hat_ 1 _ rfl
  have g2 := hat_ 2 _ rfl
  have g3 := hat_ 3 _ rfl
  have g4 := hat_ 4 _ rfl
  have g5 := hat_ 5 _ rfl
  clear hat_
  simp at g0 g1 g2 g3 g4 g5
  obtain ⟨Ap, cp, rfl, hcp, hlp, hrp⟩ := hr_.sm
  obtain ⟨Ai, ci, rfl, hci, hli, hri⟩ := hr2_.sm
  clear hr_ hr2_
  have heb1 : eb < w.heap.size + 1 := by omega
  have heb2 : eb < w.heap.size + 1 + 1 := by omega
  rw [hbk] at hR'
  have y0 : (0 : Int) ≤ (b : Int) := by omega
  have y1 : (b : Int) < (f.blocks.length : Int) := by omega
  have hsT := Hd.mk (show seesT f b = _ from rfl)
  have hbk' := Hd.mk hbk
  generalize f.blocks[b] = x at *
  obtain ⟨W1, hW1⟩ : ∃ W1 : World, W1 = ((w.alloc (.cells #[.slice A1 f.params.length c1, .int .i64 f.ret, .slice (some ⟨eb, eo, none⟩) f.blocks.length c2] 35)).alloc (.cells #[.int .i64 b] 2)).alloc (.cells #[.slice Ap x.phis.length cp, .slice Ai x.insts.length ci, .int .i64 x.term.kind, .int .i64 x.term.a, .int .i64 x.term.x, .int .i64 x.term.y] 32) := ⟨_, rfl⟩
  have hz1 : W1.heap.size = w.heap.size + 3 := by rw [hW1]; simp
  have hB1 : Below w.heap.size w W1 := by rw [hW1]; exact hbl _ _ _
  have hfb1 : FB W1 w.heap.size f := ⟨A1, c1, _, c2, by rw [hW1]; exact (World.cell?_alloc_past _ _ _ (by first | omega | (simp; done) | (simp; omega))).trans (by simp), by rw [hW1]; exact (World.cell?_alloc_past _ _ _ (by first | omega | (simp; done) | (simp; omega))).trans (by simp), by rw [hW1]; exact (World.cell?_alloc_past _ _ _ (by first | omega | (simp; done) | (simp; omega))).trans (by simp), KM.mv hf'.out hB1, by omega⟩
  have hnb1 : NB W1 (w.heap.size + 1) b := ⟨by rw [hW1]; exact (World.cell?_alloc_past _ _ _ (by first | omega | (simp; done) | (simp; omega))).trans (new_cell _ _ _ (by simp) 0 _ rfl), by omega⟩
  have hbc1 : ∀ o u, [Value.slice Ap x.phis.length cp, .slice Ai x.insts.length ci, .int .i64 x.term.kind, .int .i64 x.term.a, .int .i64 x.term.x, .int .i64 x.term.y][o]? = some u → W1.cell? ⟨w.heap.size + 2, o, none⟩ = some u := fun o u hu => by rw [hW1]; exact new_cell _ _ _ (by simp) o u (by simpa using hu)
  have hzf1 : ∀ o u, [Value.slice A1 f.params.length c1, .int .i64 f.ret, .slice (some ⟨eb, eo, none⟩) f.blocks.length c2][o]? = some u → W1.cell? ⟨w.heap.size, o, none⟩ = some u := fun o u hu => by rw [hW1]; exact (World.cell?_alloc_past _ _ _ (by first | omega | (simp; done) | (simp; omega))).trans ((World.cell?_alloc_past _ _ _ (by first | omega | (simp; done) | (simp; omega))).trans (new_cell _ _ _ rfl o u (by simpa using hu)))
  have hp1 := hpr W1 hB1
  have hW1' := Hd.mk hW1
  have hpl := preds_len f b
  have hpi := Hd.mk (preds_in f b)
  have hn10 := hfo.1.2.2
  have hc60 := hfo.2.1
  have hc0 := countOf_nn f
  have hfo' := Hd.mk hfo
  clear hW1 hpr hbl hbk hfo
  go_enter Tryz.func136, Tryz.ntmps136
  go_wp2_with fail
  rw [← hW1'.out]
  refine hp1.mono ?_; rintro e w2 ⟨u2, rfl, ho2, hb2⟩
  have hpr2 := Hd.mk (OI.rd ho2 (by omega))
  obtain ⟨Au, cu, rfl, -, -, -, -⟩ := own_shape ho2
  have hz2 := hb2.size
  have hfb2 := Hd.mk (hfb1.mv hb2)
  have hnb2 := Hd.mk (hnb1.mv hb2)
  have hbc2 := Hd.mk (fun o u hu => (bat hb2 (w.heap.size + 2) (by omega) o).trans (hbc1 o u hu))
  have hv2 := Hd.mk (own_mv (show w.ownsRow lo 4 1 _ _ _ from hv'.out) (hB1.then hb2))
  have hB2 := Hd.mk (hB1.then hb2)
  have hzf2 := Hd.mk (fun o u hu => (bat hb2 w.heap.size (by omega) o).trans (hzf1 o u hu))
  have k0 := hbc2.out 0 _ rfl
  clear hb2 ho2 hp1 hfb1 hnb1 hbc1 hv' hzf1
  go_wp2
  go_loopw [28] (fun s28 wr => ∃ j : Nat, j ≤ x.phis.length ∧ s28 = .int .i64 j ∧ Hd ((x.phis.take j).all (seesP f b) = true) ∧ Hd (Below w2.heap.size w2 wr)) (fun s28 _ => x.phis.length - (intOf s28).toNat)
  case atStart => exact ⟨0, Nat.zero_le _, rfl, ⟨rfl⟩, ⟨Below.refl _ _⟩⟩
  case round =>
    obtain ⟨j, hj, rfl, hallj, hbr⟩ := hrel
    obtain ⟨wo, rfl⟩ : ∃ wo : World, wo = wr := ⟨_, rfl⟩
    have hBo := Hd.mk (hB2.out.then hbr.out)
    have hzo := hbr.out.size
    by_cases hlt : j < x.phis.length
    · obtain ⟨eb, eo, ecs, hA_, heb, ⟨pv1, rfl, hr_⟩, hat_⟩ := (hrp.out).in0 (hBo.out) (j) (hlt)
      cases hA_
      have hew := Nat.lt_of_lt_of_le heb (hBo.out).size
      have g0 := hat_ 0 _ rfl
      have g1 := hat_ 1 _ rfl
      clear hat_
      simp at g0 g1
      obtain ⟨Ax, cx, rfl, hcx, hlx, hrx⟩ := hr_.sm
      clear hr_
      have hpin := hpa.out x.phis[j] (List.getElem_mem hlt)
      have hsn := Hd.mk (all_take_snoc (seesP f b) x.phis j hlt)
      have hfl := fun h => Hd.mk (all_false_of (seesP f b) x.phis j hlt h)
      rw [seesP_all] at hsn hfl
      generalize x.phis[j] = p at *
      have hal : Hd (∀ o, Below wo.heap.size wo (wo.alloc o)) := ⟨fun o => (Below.refl wo.heap.size wo).al (Nat.le_refl _) o⟩
      obtain ⟨wb, hwb⟩ : ∃ wb : World, wb = wo.alloc (.cells #[.int .i64 p.w, .slice Ax p.ins.length cx] 165) := ⟨_, rfl⟩
      have hbB : Hd (Below wo.heap.size wo wb) := ⟨by rw [hwb]; exact hal.out _⟩
      have hwb' := Hd.mk hwb
      have hpin' := Hd.mk hpin
      clear hwb hpin
      go_wp2
      rw [← hwb'.out]
      go_loopw [35] (fun s35 wr => ∃ k : Nat, k ≤ p.ins.length ∧ s35 = .int .i64 k ∧ Hd ((List.range k).all (seesK f b p) = true) ∧ Hd (Below wb.heap.size wb wr)) (fun s35 _ => p.ins.length - (intOf s35).toNat)
      case atStart => exact ⟨0, Nat.zero_le _, rfl, ⟨rfl⟩, ⟨Below.refl _ _⟩⟩
      case round =>
        obtain ⟨k, hk, rfl, hallk, hbk⟩ := hrel
        have hBw := Hd.mk (hBo.out.then (hbB.out.then hbk.out))
        have hB2w := Hd.mk (hbr.out.then (hbB.out.then hbk.out))
        have hzk := hB2w.out.size
        by_cases hltk : k < p.ins.length
        · have hkp : k < (predsOf f b).length := by have := hpin'.out; omega
          obtain ⟨eb, eo, ecs, hA_, heb, hk_, hat_⟩ := (hrx.out).in0 (hBw.out) (k) (hltk)
          cases hA_
          cases hk_
          have hew := Nat.lt_of_lt_of_le heb (hBw.out).size
          have g0 := hat_ 0 _ rfl
          clear hat_
          simp at g0
          have i0 := g0
          clear g0
          obtain ⟨eb, eo, ecs, hA_, heb, hk_, hat_⟩ := (hpr2.out).in0 (hB2w.out) (k) (hkp)
          cases hA_
          cases hk_
          have hew := Nat.lt_of_lt_of_le heb (hB2w.out).size
          have g0 := hat_ 0 _ rfl
          clear hat_
          simp at g0
          have p0 := g0
          have hpe := hew
          clear g0
          obtain ⟨q0, q1⟩ := hpi.out k hkp
          have hsK : seesK f b p k = !((reach f (-1)).getD ((predsOf f b)[k]).toNat false && !seen f p.ins[k] (predsOf f b)[k] (countOf f)) := by unfold seesK; rw [getD_get _ k 0 hkp, getD_get _ k 0 hltk]
          have hsnk := Hd.mk (range_all_snoc (seesK f b p) k)
          have hflk := fun h => Hd.mk (range_all_fail (seesK f b p) p.ins.length k hltk h)
          rw [hsK] at hsnk hflk
          clear hsK
          obtain ⟨gv, cv', hvv, hgv, hvc⟩ := OwB.at_ (show OwB lo w2 _ _ from hv2.out) (predsOf f b)[k].toNat (by omega)
          cases hvv
          have hseen := fun W (hW : Below w.heap.size w W) => c_isSeen f _ p.ins[k] (predsOf f b)[k] (countOf f) W (KM.mv hf'.out hW) hfo'.out ⟨q0, q1⟩
          have hcnt := fun W (hW : Below w.heap.size w W) => c_CountOf f _ W (KM.mv hf'.out hW)
          have y5 : (k : Int) < ((predsOf f b).length : Int) := by omega
          have y6 : (0 : Int) ≤ (k : Int) := by omega
          have y7 : (predsOf f b)[k] < ((reach f (-1)).length : Int) := by omega
          generalize (predsOf f b)[k] = pk at *
          generalize p.ins[k] = id at *
          generalize (reach f (-1)).getD pk.toNat false = rq at *
          generalize seen f id pk (countOf f) = sq at *
          have m0 := (bat hB2w.out w.heap.size (by omega) 0).trans (hzf2.out 0 _ rfl)
          have m1 := (bat hB2w.out w.heap.size (by omega) 1).trans (hzf2.out 1 _ rfl)
          have m2 := (bat hB2w.out w.heap.size (by omega) 2).trans (hzf2.out 2 _ rfl)
          have hlw : w.heap.size < wr.heap.size := by omega
          have hpass := fun (h : (!(rq && !sq)) = true) => Hd.mk (show (List.range (k + 1)).all (seesK f b p) = true by rw [hsnk.out, hallk.out, h]; rfl)
          have hfail := fun (h : (!(rq && !sq)) = false) => Hd.mk (show R = false by rw [← hR'.out, (hfl (hflk h).out).out]; rfl)
          clear hsnk hflk hsn hfl
          cases rq with
          | false =>
            have hps := hpass rfl
            clear hpass hfail hseen hcnt
            go_wp2
            refine wp_region_bel (by kernel_rfl) (by kernel_rfl) ?_
            simp only [List.toList_toArray]
            repeat' first
              | (refine seq_val (by rfl) (by intro W hS; have s0 := (bat hS w.heap.size hlw 0).trans m0; have s1 := (bat hS w.heap.size hlw 1).trans m1; have s2 := (bat hS w.heap.size hlw 2).trans m2; have s3 := (bat hS _ hpe (eo + k)).trans p0; have s4 := (bat (hB2w.out.then hS) gv hgv pk.toNat).trans hvc; go_simp; first | done | rfl) ?_; simp only [Act.put, List.setIfInBounds_toArray, List.set_cons_zero, List.set_cons_succ])
              | (refine seq_skip (by rfl) ?_; simp only [Act.put, List.setIfInBounds_toArray, List.set_cons_zero, List.set_cons_succ])
              | fail
            refine seq_nil (fun W hS => ?_)
            have s0 := (bat hS w.heap.size hlw 0).trans m0
            have s1 := (bat hS w.heap.size hlw 1).trans m1
            have s2 := (bat hS w.heap.size hlw 2).trans m2
            have s3 := (bat hS _ hpe (eo + k)).trans p0
            have s4 := (bat (hB2w.out.then hS) gv hgv pk.toNat).trans hvc
            go_wp2
            go_roundw
            case rel => exact ⟨k + 1, by omega, by go_num, hps, ⟨hbk.out.then hS⟩⟩
            case measure => simp [intOf]; omega
          | true =>
            cases sq with
            | true =>
              have hps := hpass rfl
              clear hpass hfail
              go_wp2
              refine wp_region_bel (by kernel_rfl) (by kernel_rfl) ?_
              simp only [List.toList_toArray]
              repeat' first
                | (refine seq_val (by rfl) (by intro W hS; have s0 := (bat hS w.heap.size hlw 0).trans m0; have s1 := (bat hS w.heap.size hlw 1).trans m1; have s2 := (bat hS w.heap.size hlw 2).trans m2; have s3 := (bat hS _ hpe (eo + k)).trans p0; have s4 := (bat (hB2w.out.then hS) gv hgv pk.toNat).trans hvc; go_simp; first | done | rfl) ?_; simp only [Act.put, List.setIfInBounds_toArray, List.set_cons_zero, List.set_cons_succ])
                | (refine seq_skip (by rfl) ?_; simp only [Act.put, List.setIfInBounds_toArray, List.set_cons_zero, List.set_cons_succ])
                | (refine seq_ret 94 _ (by rfl) (by intro W hS; have s0 := (bat hS w.heap.size hlw 0).trans m0; have s1 := (bat hS w.heap.size hlw 1).trans m1; have s2 := (bat hS w.heap.size hlw 2).trans m2; have s3 := (bat hS _ hpe (eo + k)).trans p0; have s4 := (bat (hB2w.out.then hS) gv hgv pk.toNat).trans hvc; go_simp; first | done | rfl) (fun W hS => hcnt W (hBw.out.then hS)) ?_; simp only [Act.put, List.setIfInBounds_toArray, List.set_cons_zero, List.set_cons_succ])
                | (refine seq_ret 179 _ (by rfl) (by intro W hS; have s0 := (bat hS w.heap.size hlw 0).trans m0; have s1 := (bat hS w.heap.size hlw 1).trans m1; have s2 := (bat hS w.heap.size hlw 2).trans m2; have s3 := (bat hS _ hpe (eo + k)).trans p0; have s4 := (bat (hB2w.out.then hS) gv hgv pk.toNat).trans hvc; go_simp; first | done | rfl) (fun W hS => hseen W (hBw.out.then hS)) ?_; simp only [Act.put, List.setIfInBounds_toArray, List.set_cons_zero, List.set_cons_succ])
                | fail
              refine seq_nil (fun W hS => ?_)
              have s0 := (bat hS w.heap.size hlw 0).trans m0
              have s1 := (bat hS w.heap.size hlw 1).trans m1
              have s2 := (bat hS w.heap.size hlw 2).trans m2
              have s3 := (bat hS _ hpe (eo + k)).trans p0
              have s4 := (bat (hB2w.out.then hS) gv hgv pk.toNat).trans hvc
              go_wp2
              go_roundw
              case rel => exact ⟨k + 1, by omega, by go_num, hps, ⟨hbk.out.then hS⟩⟩
              case measure => simp [intOf]; omega
            | false =>
              have hv := (hfail rfl).out
              subst hv
              clear hpass hfail
              go_wp2
              refine wp_region_bel (by kernel_rfl) (by kernel_rfl) ?_
              simp only [List.toList_toArray]
              repeat' first
                | (refine seq_val (by rfl) (by intro W hS; have s0 := (bat hS w.heap.size hlw 0).trans m0; have s1 := (bat hS w.heap.size hlw 1).trans m1; have s2 := (bat hS w.heap.size hlw 2).trans m2; have s3 := (bat hS _ hpe (eo + k)).trans p0; have s4 := (bat (hB2w.out.then hS) gv hgv pk.toNat).trans hvc; go_simp; first | done | rfl) ?_; simp only [Act.put, List.setIfInBounds_toArray, List.set_cons_zero, List.set_cons_succ])
                | (refine seq_skip (by rfl) ?_; simp only [Act.put, List.setIfInBounds_toArray, List.set_cons_zero, List.set_cons_succ])
                | (refine seq_ret 94 _ (by rfl) (by intro W hS; have s0 := (bat hS w.heap.size hlw 0).trans m0; have s1 := (bat hS w.heap.size hlw 1).trans m1; have s2 := (bat hS w.heap.size hlw 2).trans m2; have s3 := (bat hS _ hpe (eo + k)).trans p0; have s4 := (bat (hB2w.out.then hS) gv hgv pk.toNat).trans hvc; go_simp; first | done | rfl) (fun W hS => hcnt W (hBw.out.then hS)) ?_; simp only [Act.put, List.setIfInBounds_toArray, List.set_cons_zero, List.set_cons_succ])
                | (refine seq_ret 179 _ (by rfl) (by intro W hS; have s0 := (bat hS w.heap.size hlw 0).trans m0; have s1 := (bat hS w.heap.size hlw 1).trans m1; have s2 := (bat hS w.heap.size hlw 2).trans m2; have s3 := (bat hS _ hpe (eo + k)).trans p0; have s4 := (bat (hB2w.out.then hS) gv hgv pk.toNat).trans hvc; go_simp; first | done | rfl) (fun W hS => hseen W (hBw.out.then hS)) ?_; simp only [Act.put, List.setIfInBounds_toArray, List.set_cons_zero, List.set_cons_succ])
                | fail
              refine seq_nil (fun W hS => ?_)
              have s0 := (bat hS w.heap.size hlw 0).trans m0
              have s1 := (bat hS w.heap.size hlw 1).trans m1
              have s2 := (bat hS w.heap.size hlw 2).trans m2
              have s3 := (bat hS _ hpe (eo + k)).trans p0
              have s4 := (bat (hB2w.out.then hS) gv hgv pk.toNat).trans hvc
              go_wp2
              go_ret
              exact ⟨rfl, hBw.out.then hS⟩
        · have e : k = p.ins.length := by omega
          subst e
          have hps := Hd.mk (show (x.phis.take (j + 1)).all (seesP f b) = true by rw [hsn.out, hallj.out, hallk.out]; rfl)
          clear hsn hfl
          go_wp2
          go_roundw
          case rel => exact ⟨j + 1, by omega, by go_num, hps, ⟨hbr.out.then (hbB.out.then hbk.out)⟩⟩
          case measure => simp [intOf]; omega
    · have e : j = x.phis.length := by omega
      subst e
      rw [List.take_length] at hallj
      have m0 := (bat hbr.out w.heap.size (by omega) 0).trans (hzf2.out 0 _ rfl)
      have m1 := (bat hbr.out w.heap.size (by omega) 1).trans (hzf2.out 1 _ rfl)
      have m2 := (bat hbr.out w.heap.size (by omega) 2).trans (hzf2.out 2 _ rfl)
      have m3 := (bat hbr.out (w.heap.size + 1) (by omega) 0).trans hnb2.out.1
      have m4 := (bat hbr.out (w.heap.size + 2) (by omega) 0).trans (hbc2.out 0 _ rfl)
      have hfst := fun W (hW : Below w.heap.size w W) => c_firstOf f _ b W (KM.mv hf'.out hW) (by omega)
      obtain ⟨fst, hfq⟩ : ∃ q, firstOf f b + x.phis.length = q := ⟨_, rfl⟩
      have hfr : 0 ≤ firstOf f b ∧ firstOf f b ≤ 60 := first_rng f b hfo'.out
      have e1 : IntKind.i64.wrap (firstOf f b + (x.phis.length : Int)) = fst := by rw [← hfq]; exact IntWalk.i64_in _ (by omega)
      have e2 : IntKind.i64.wrap fst = fst := by rw [← hfq]; exact IntWalk.i64_in _ (by omega)
      have hBD : Hd (Below wo.heap.size wo wo.drew) := ⟨Below.drew (Below.refl _ _)⟩
      have hBA : Hd (∀ o, Below wo.heap.size wo (wo.drew.alloc o)) := ⟨fun o => hBD.out.then ((Below.refl _ _).al (Nat.le_refl _) o)⟩
      have hdz : wo.drew.heap.size = wo.heap.size := rfl
      go_wp2
      refine wp_via (fun a a' W => ∃ (u61 u62 u63 u64 u65 u66 u67 : Value) (g : Nat), a' = (((((((a.put (some 61) u61).put (some 62) u62).put (some 63) u63).put (some 64) u64).put (some 65) u65).put (some 66) u66).put (some 67) u67).put (some 13) (.pointer (some ⟨g, 0, none⟩)) ∧ Hd (Below wo.heap.size wo W) ∧ Hd (NB W g fst)) ?_ ?_
      · go_region_held3 (fun W => W.cell? ⟨w.heap.size, 0, none⟩ = some (.slice A1 f.params.length c1) ∧ W.cell? ⟨w.heap.size, 1, none⟩ = some (.int .i64 f.ret) ∧ W.cell? ⟨w.heap.size, 2, none⟩ = some (.slice (some ⟨eb, eo, none⟩) f.blocks.length c2) ∧ W.cell? ⟨w.heap.size + 1, 0, none⟩ = some (.int .i64 b) ∧ W.cell? ⟨w.heap.size + 2, 0, none⟩ = some (.slice Ap x.phis.length cp))
              (first | exact ⟨m0, m1, m2, m3, m4⟩ | exact ⟨r0, r1, r2, r3, r4⟩ | exact ⟨(World.cell?_alloc_past _ _ _ (by first | omega | (simp; done) | (simp; omega))).trans m0, (World.cell?_alloc_past _ _ _ (by first | omega | (simp; done) | (simp; omega))).trans m1, (World.cell?_alloc_past _ _ _ (by first | omega | (simp; done) | (simp; omega))).trans m2, (World.cell?_alloc_past _ _ _ (by first | omega | (simp; done) | (simp; omega))).trans m3, (World.cell?_alloc_past _ _ _ (by first | omega | (simp; done) | (simp; omega))).trans m4⟩ | exact ⟨(World.cell?_alloc_past _ _ _ (by first | omega | (simp; done) | (simp; omega))).trans r0, (World.cell?_alloc_past _ _ _ (by first | omega | (simp; done) | (simp; omega))).trans r1, (World.cell?_alloc_past _ _ _ (by first | omega | (simp; done) | (simp; omega))).trans r2, (World.cell?_alloc_past _ _ _ (by first | omega | (simp; done) | (simp; omega))).trans r3, (World.cell?_alloc_past _ _ _ (by first | omega | (simp; done) | (simp; omega))).trans r4⟩ | exact ⟨(cell_off _ _ _ _ _ _ (by omega)).trans r0, (cell_off _ _ _ _ _ _ (by omega)).trans r1, (cell_off _ _ _ _ _ _ (by omega)).trans r2, (cell_off _ _ _ _ _ _ (by omega)).trans r3, (cell_off _ _ _ _ _ _ (by omega)).trans r4⟩ | exact ⟨(cell_off _ _ _ _ _ _ (by omega)).trans ((World.cell?_alloc_past _ _ _ (by first | omega | (simp; done) | (simp; omega))).trans r0), (cell_off _ _ _ _ _ _ (by omega)).trans ((World.cell?_alloc_past _ _ _ (by first | omega | (simp; done) | (simp; omega))).trans r1), (cell_off _ _ _ _ _ _ (by omega)).trans ((World.cell?_alloc_past _ _ _ (by first | omega | (simp; done) | (simp; omega))).trans r2), (cell_off _ _ _ _ _ _ (by omega)).trans ((World.cell?_alloc_past _ _ _ (by first | omega | (simp; done) | (simp; omega))).trans r3), (cell_off _ _ _ _ _ _ (by omega)).trans ((World.cell?_alloc_past _ _ _ (by first | omega | (simp; done) | (simp; omega))).trans r4)⟩)
              ((go_at_call 95; refine (hfst _ ?_).mono ?_; (first | exact hBo.out.then hBD.out | exact hBo.out.then (hBA.out _)); rintro e w4 ⟨rfl, hb4⟩; have hB4 := (by first | exact hBD.out.then hb4 | exact (hBA.out _).then hb4 : Below wo.heap.size wo w4); have r0 := (bat hB4 w.heap.size (by omega) 0).trans m0; have r1 := (bat hB4 w.heap.size (by omega) 1).trans m1; have r2 := (bat hB4 w.heap.size (by omega) 2).trans m2; have r3 := (bat hB4 (w.heap.size + 1) (by omega) 0).trans m3; have r4 := (bat hB4 (w.heap.size + 2) (by omega) 0).trans m4; have hz4 := hB4.size; (first | (have c4 : w4.cell? ⟨wo.heap.size, 0, none⟩ = some (.int .i64 0) := (bat hb4 wo.heap.size (by first | omega | (simp; done) | (simp; omega)) 0).trans (new_cell wo.drew #[.int .i64 0] 2 rfl 0 _ rfl); have f4 : w4.frozen? ⟨wo.heap.size, 0, none⟩ = false := (fat hb4 wo.heap.size (by first | omega | (simp; done) | (simp; omega)) 0).trans (World.frozen?_alloc_new wo.drew _ _ 0)) | skip)))
        · exact Exists.intro _ (Exists.intro _ (Exists.intro _ (Exists.intro _ (Exists.intro _ (Exists.intro _ (Exists.intro _ (Exists.intro _ ⟨rfl, ⟨hB4.then ((Below.refl _ _).al (Nat.le_refl _) _)⟩, ⟨new_cell _ _ _ rfl 0 _ rfl, by simp⟩⟩)))))))
        · exact Exists.intro _ (Exists.intro _ (Exists.intro _ (Exists.intro _ (Exists.intro _ (Exists.intro _ (Exists.intro _ (Exists.intro _ ⟨rfl, ⟨hB4.setCell (p := ⟨wo.heap.size, 0, none⟩) (Nat.le_refl _) _⟩, ⟨World.cell?_setCell_same' w4 _ _ (by rw [c4]; rfl), by have := hb4.size; rw [setCell_size]; simp at this; omega⟩⟩)))))))
      · rintro a' W ⟨u61, u62, u63, u64, u65, u66, u67, g, rfl, hBW, hNW⟩
        clear m0 m1 m2 m3 m4 e1 hBA hBD hdz
        have hzW := hBW.out.size
        have hB2W := Hd.mk (hbr.out.then hBW.out)
        have hBwW := Hd.mk (hBo.out.then hBW.out)
        have hfbW := Hd.mk (hfb2.out.mv hB2W.out)
        have hnbW := Hd.mk (hnb2.out.mv hB2W.out)
        have k1 := (bat hB2W.out (w.heap.size + 2) (by omega) 1).trans (hbc2.out 1 _ rfl)
        go_wp2
        go_loopw [71] (fun s71 wr => ∃ k : Nat, k ≤ x.insts.length ∧ s71 = .int .i64 k ∧ Hd ((List.range k).all (seesI f b) = true) ∧ Hd (Below W.heap.size W wr)) (fun s71 _ => x.insts.length - (intOf s71).toNat)
        case atStart => exact ⟨0, Nat.zero_le _, rfl, ⟨rfl⟩, ⟨Below.refl _ _⟩⟩
        case round =>
          obtain ⟨k, hk, rfl, hallk, hbk⟩ := hrel
          have hBe := Hd.mk (hBwW.out.then hbk.out)
          have hzk := hbk.out.size
          have hfbk := Hd.mk (hfbW.out.mv hbk.out)
          have hnbk := Hd.mk (hnbW.out.mv hbk.out)
          have hNk := Hd.mk (hNW.out.mv hbk.out)
          by_cases hltk : k < x.insts.length
          · obtain ⟨eb, eo, ecs, hA_, heb, ⟨iv1, rfl, hr_⟩, hat_⟩ := (hri.out).in0 (hBe.out) (k) (hltk)
            cases hA_
            have hew := Nat.lt_of_lt_of_le heb (hBe.out).size
            have g0 := hat_ 0 _ rfl
            have g1 := hat_ 1 _ rfl
            have g2 := hat_ 2 _ rfl
            have g3 := hat_ 3 _ rfl
            have g4 := hat_ 4 _ rfl
            have g5 := hat_ 5 _ rfl
            have g6 := hat_ 6 _ rfl
            clear hat_
            simp at g0 g1 g2 g3 g4 g5 g6
            obtain ⟨Aa, ca, rfl, hca, hla, hra⟩ := hr_.sm
            clear hr_
            have hsI : seesI f b k = (opsOf x.insts[k]).all (fun id => seen f id b (fst + k)) := by
              unfold seesI
              rw [hbk'.out, getD_get _ k inst0 hltk, hfq]
            have hsnk := Hd.mk (range_all_snoc (seesI f b) k)
            have hflk := fun h => Hd.mk (range_all_fail (seesI f b) x.insts.length k hltk h)
            rw [hsI] at hsnk hflk
            clear hsI
            have hop := fun W' (hW' : Below w.heap.size w W') => c_OperandsOf x.insts[k] (.slice Aa x.insts[k].args.length ca) W' (hra.out.mv hW')
            have hol := opsOf_le x.insts[k]
            generalize x.insts[k] = i at *
            obtain ⟨op, iw, ia, ib, ic, imm, args⟩ := i
            simp only [instV] at *
            obtain ⟨wk, hwk⟩ : ∃ wk : World, wk = (wr.alloc (.cells #[.int .i64 k] 3)).alloc (.cells #[.int .i64 op, .int .i64 iw, .int .i64 ia, .int .i64 ib, .int .i64 ic, .int .i64 imm, .slice Aa args.length ca] 26) := ⟨_, rfl⟩
            have hbwk : Below wr.heap.size wr wk := by rw [hwk]; exact ((Below.refl _ _).al (Nat.le_refl _) _).al (by simp) _
            have hzwk : wk.heap.size = wr.heap.size + 2 := by rw [hwk]; simp
            have hNwk : NB wk wr.heap.size k := ⟨by rw [hwk]; exact (World.cell?_alloc_past _ _ _ (by first | omega | (simp; done) | (simp; omega))).trans (new_cell _ _ _ rfl 0 _ rfl), by omega⟩
            have hop1 := hop wk (hBe.out.then hbwk)
            have hwk' := Hd.mk hwk
            have hbwk' := Hd.mk hbwk
            clear hwk hop
            go_wp2_with fail
            rw [← hwk'.out]
            refine hop1.mono ?_; rintro e w5 ⟨u5, rfl, ho5, hb5⟩
            have hol5 : (opsOf ⟨op, iw, ia, ib, ic, imm, args⟩).length ≤ 1048576 := by
              rcases hol with h | ⟨h, -⟩
              · omega
              · rw [h]; exact hla
            have hr5 := OI.rd ho5 hol5
            obtain ⟨A5, c5, rfl, -, -, -, -⟩ := own_shape ho5
            have hB5 := Hd.mk (hbwk'.out.then hb5)
            have eg := enters_of Tryz.func180 (by kernel_rfl) rfl
            have hcon := c_ConI (.slice A5 _ c5) _ _ _ (fun id => !seen f id b (fst + k)) w5 hr5 eg (pb_areSeen1 w5 f b fst k w.heap.size (w.heap.size + 1) g wr.heap.size (hfbk.out.mv hB5.out) hfo'.out ⟨by omega, by omega⟩ (hnbk.out.mv hB5.out) (hNk.out.mv hB5.out) (hNwk.mv hb5) (by omega) (by omega))
            simp only [any_not] at hcon
            clear ho5 hr5 hb5 hop1
            go_wp2_with fail
            refine hcon.mono ?_; rintro e w6 ⟨rfl, hb6⟩
            have hB6 := Hd.mk (hB5.out.then hb6)
            clear hb6 hcon
            cases hq : (opsOf ⟨op, iw, ia, ib, ic, imm, args⟩).all (fun id => seen f id b (fst + k)) with
            | false =>
              have hv : R = false := by rw [← hR'.out, (hflk hq).out]; simp
              subst hv
              clear hflk hsnk hq
              go_wp2
              go_ret
              exact ⟨rfl, hBe.out.then hB6.out⟩
            | true =>
              rw [hq] at hsnk
              have hps := Hd.mk (hsnk.out.trans (by rw [hallk.out]; first | done | rfl))
              clear hflk hsnk hq
              go_wp2
              go_roundw
              case rel => exact ⟨k + 1, by omega, by go_num, hps, ⟨hbk.out.then hB6.out⟩⟩
              case measure => simp [intOf]; omega
          · have e : k = x.insts.length := by omega
            subst e
            have hR3 := Hd.mk (show seesT f b = R by rw [← hR'.out, hallj.out, hallk.out]; simp)
            have hB2k := Hd.mk (hB2W.out.then hbk.out)
            have m0 := (bat hB2k.out w.heap.size (by omega) 0).trans (hzf2.out 0 _ rfl)
            have m1 := (bat hB2k.out w.heap.size (by omega) 1).trans (hzf2.out 1 _ rfl)
            have m2 := (bat hB2k.out w.heap.size (by omega) 2).trans (hzf2.out 2 _ rfl)
            have m3 := (bat hB2k.out (w.heap.size + 1) (by omega) 0).trans hnb2.out.1
            have m4 := (bat hB2k.out (w.heap.size + 2) (by omega) 2).trans (hbc2.out 2 _ rfl)
            have m5 := (bat hB2k.out (w.heap.size + 2) (by omega) 3).trans (hbc2.out 3 _ rfl)
            have hlw : w.heap.size < wr.heap.size := by omega
            have hlw1 : w.heap.size + 1 < wr.heap.size := by omega
            have hlw2 : w.heap.size + 2 < wr.heap.size := by omega
            have hkf := Hd.mk (KM.mv hf'.out hBe.out)
            have hseen := fun W (hW : Below w.heap.size w W) => c_isSeen f _ x.term.a b (countOf f) W (KM.mv hf'.out hW) hfo'.out ⟨by omega, by omega⟩
            have hcnt := fun W (hW : Below w.heap.size w W) => c_CountOf f _ W (KM.mv hf'.out hW)
            have hsT2 := hR3.out
            unfold seesT at hsT2
            rw [hbk'.out] at hsT2
            have hsT3 := Hd.mk hsT2
            clear hsT2 hR3 hkf
            generalize seen f x.term.a b (countOf f) = sq at *
            generalize x.term = t at *
            obtain ⟨tk, ta, tx, ty⟩ := t
            simp only at *
            by_cases k1 : tk = 1
            · subst k1
              have hv : R = sq := by rw [← hsT3.out]; simp
              subst hv
              go_wp2
              refine wp_region_bel (by kernel_rfl) (by kernel_rfl) ?_
              simp only [List.toList_toArray]
              repeat' first
                | (refine seq_val (by rfl) (by intro W hS; have s0 := (bat hS w.heap.size hlw 0).trans m0; have s1 := (bat hS w.heap.size hlw 1).trans m1; have s2 := (bat hS w.heap.size hlw 2).trans m2; have s3 := (bat hS (w.heap.size + 1) hlw1 0).trans m3; have s4 := (bat hS (w.heap.size + 2) hlw2 2).trans m4; have s5 := (bat hS (w.heap.size + 2) hlw2 3).trans m5; go_simp; first | done | rfl) ?_; simp only [Act.put, List.setIfInBounds_toArray, List.set_cons_zero, List.set_cons_succ])
                | (refine seq_skip (by rfl) ?_; simp only [Act.put, List.setIfInBounds_toArray, List.set_cons_zero, List.set_cons_succ])
                | (refine seq_ret 94 _ (by rfl) (by intro W hS; have s0 := (bat hS w.heap.size hlw 0).trans m0; have s1 := (bat hS w.heap.size hlw 1).trans m1; have s2 := (bat hS w.heap.size hlw 2).trans m2; have s3 := (bat hS (w.heap.size + 1) hlw1 0).trans m3; have s4 := (bat hS (w.heap.size + 2) hlw2 2).trans m4; have s5 := (bat hS (w.heap.size + 2) hlw2 3).trans m5; go_simp; first | done | rfl) (fun W hS => hcnt W (hBe.out.then hS)) ?_; simp only [Act.put, List.setIfInBounds_toArray, List.set_cons_zero, List.set_cons_succ])
                | (refine seq_ret 179 _ (by rfl) (by intro W hS; have s0 := (bat hS w.heap.size hlw 0).trans m0; have s1 := (bat hS w.heap.size hlw 1).trans m1; have s2 := (bat hS w.heap.size hlw 2).trans m2; have s3 := (bat hS (w.heap.size + 1) hlw1 0).trans m3; have s4 := (bat hS (w.heap.size + 2) hlw2 2).trans m4; have s5 := (bat hS (w.heap.size + 2) hlw2 3).trans m5; go_simp; first | done | rfl) (fun W hS => hseen W (hBe.out.then hS)) ?_; simp only [Act.put, List.setIfInBounds_toArray, List.set_cons_zero, List.set_cons_succ])
                | fail
              refine seq_nil (fun W hS => ?_)
              have s0 := (bat hS w.heap.size hlw 0).trans m0
              have s1 := (bat hS w.heap.size hlw 1).trans m1
              have s2 := (bat hS w.heap.size hlw 2).trans m2
              have s3 := (bat hS (w.heap.size + 1) hlw1 0).trans m3
              have s4 := (bat hS (w.heap.size + 2) hlw2 2).trans m4
              have s5 := (bat hS (w.heap.size + 2) hlw2 3).trans m5
              go_wp2
              go_ret
              exact ⟨rfl, hBe.out.then hS⟩
            have b1 := beqF k1
            by_cases k3 : tk = 3
            · subst k3
              have hv : R = sq := by rw [← hsT3.out]; simp
              subst hv
              go_wp2
              refine wp_region_bel (by kernel_rfl) (by kernel_rfl) ?_
              simp only [List.toList_toArray]
              repeat' first
                | (refine seq_val (by rfl) (by intro W hS; have s0 := (bat hS w.heap.size hlw 0).trans m0; have s1 := (bat hS w.heap.size hlw 1).trans m1; have s2 := (bat hS w.heap.size hlw 2).trans m2; have s3 := (bat hS (w.heap.size + 1) hlw1 0).trans m3; have s4 := (bat hS (w.heap.size + 2) hlw2 2).trans m4; have s5 := (bat hS (w.heap.size + 2) hlw2 3).trans m5; go_simp; first | done | rfl) ?_; simp only [Act.put, List.setIfInBounds_toArray, List.set_cons_zero, List.set_cons_succ])
                | (refine seq_skip (by rfl) ?_; simp only [Act.put, List.setIfInBounds_toArray, List.set_cons_zero, List.set_cons_succ])
                | (refine seq_ret 94 _ (by rfl) (by intro W hS; have s0 := (bat hS w.heap.size hlw 0).trans m0; have s1 := (bat hS w.heap.size hlw 1).trans m1; have s2 := (bat hS w.heap.size hlw 2).trans m2; have s3 := (bat hS (w.heap.size + 1) hlw1 0).trans m3; have s4 := (bat hS (w.heap.size + 2) hlw2 2).trans m4; have s5 := (bat hS (w.heap.size + 2) hlw2 3).trans m5; go_simp; first | done | rfl) (fun W hS => hcnt W (hBe.out.then hS)) ?_; simp only [Act.put, List.setIfInBounds_toArray, List.set_cons_zero, List.set_cons_succ])
                | (refine seq_ret 179 _ (by rfl) (by intro W hS; have s0 := (bat hS w.heap.size hlw 0).trans m0; have s1 := (bat hS w.heap.size hlw 1).trans m1; have s2 := (bat hS w.heap.size hlw 2).trans m2; have s3 := (bat hS (w.heap.size + 1) hlw1 0).trans m3; have s4 := (bat hS (w.heap.size + 2) hlw2 2).trans m4; have s5 := (bat hS (w.heap.size + 2) hlw2 3).trans m5; go_simp; first | done | rfl) (fun W hS => hseen W (hBe.out.then hS)) ?_; simp only [Act.put, List.setIfInBounds_toArray, List.set_cons_zero, List.set_cons_succ])
                | fail
              refine seq_nil (fun W hS => ?_)
              have s0 := (bat hS w.heap.size hlw 0).trans m0
              have s1 := (bat hS w.heap.size hlw 1).trans m1
              have s2 := (bat hS w.heap.size hlw 2).trans m2
              have s3 := (bat hS (w.heap.size + 1) hlw1 0).trans m3
              have s4 := (bat hS (w.heap.size + 2) hlw2 2).trans m4
              have s5 := (bat hS (w.heap.size + 2) hlw2 3).trans m5
              go_wp2
              go_ret
              exact ⟨rfl, hBe.out.then hS⟩
            have b3 := beqF k3
            have hv : R = true := by rw [← hsT3.out]; simp [k1, k3]
            subst hv
            clear hseen hcnt
            go_wp2
            refine wp_region_bel (by kernel_rfl) (by kernel_rfl) ?_
            simp only [List.toList_toArray]
            repeat' first
              | (refine seq_val (by rfl) (by intro W hS; have s0 := (bat hS w.heap.size hlw 0).trans m0; have s1 := (bat hS w.heap.size hlw 1).trans m1; have s2 := (bat hS w.heap.size hlw 2).trans m2; have s3 := (bat hS (w.heap.size + 1) hlw1 0).trans m3; have s4 := (bat hS (w.heap.size + 2) hlw2 2).trans m4; have s5 := (bat hS (w.heap.size + 2) hlw2 3).trans m5; go_simp; first | done | rfl) ?_; simp only [Act.put, List.setIfInBounds_toArray, List.set_cons_zero, List.set_cons_succ])
              | (refine seq_skip (by rfl) ?_; simp only [Act.put, List.setIfInBounds_toArray, List.set_cons_zero, List.set_cons_succ])
              | fail
            refine seq_nil (fun W hS => ?_)
            have s0 := (bat hS w.heap.size hlw 0).trans m0
            have s1 := (bat hS w.heap.size hlw 1).trans m1
            have s2 := (bat hS w.heap.size hlw 2).trans m2
            have s3 := (bat hS (w.heap.size + 1) hlw1 0).trans m3
            have s4 := (bat hS (w.heap.size + 2) hlw2 2).trans m4
            have s5 := (bat hS (w.heap.size + 2) hlw2 3).trans m5
            go_wp2
            go_ret
            exact ⟨rfl, hBe.out.then hS⟩
end Go.Proofs.YtkcgejbnhpccdaaGreat
