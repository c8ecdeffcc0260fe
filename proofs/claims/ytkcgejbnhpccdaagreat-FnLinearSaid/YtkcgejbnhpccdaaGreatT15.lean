import Derived.Test.YtkcgejbnhpccdaaGreatT14
import Derived.Deep.RegionWith
import Derived.Test.YtkcgejbnhpccdaaGreatT10
set_option linter.unusedSimpArgs false
set_option linter.unusedVariables false
namespace Go.Proofs.YtkcgejbnhpccdaaGreat
open Go.RowKit
theorem c_areTypes1 (f : XFunc) (id pw : Int) (b bp : Nat) (w : World) (hb : FB w b f) (hfo : Fo f) (hp : w.cell? ⟨bp, 0, none⟩ = some (.int .i64 pw)) (hbp : bp < w.heap.size) :
    Calls Tryz.prog 174 #[.int .i64 id, .pointer (some ⟨b, 0, none⟩), .pointer (some ⟨bp, 0, none⟩)] w (Ret (.bool (!(typeOf f id == pw))) w) := by
  obtain ⟨A1, c1, A2, c2, h0, h1, h2, h3, h4⟩ := hb
  have ht := fun N => c_TypeOfB f _ id (w.drewN N) (KM.mv h3 (pw_drewN (Below.refl _ _) N)) hfo
  generalize typeOf f id = t at *
  clear h3
  go_enter Tryz.func174, Tryz.ntmps174
  go_wp2
  go_region_with ((go_at_call 142; refine (ht _).mono ?_; rintro e w1 ⟨rfl, hb1⟩; have hb2 : Below w.heap.size w w1 := ⟨hb1.os, hb1.tape, hb1.output, hb1.size, hb1.block⟩; have q0 := (bat hb2 bp hbp 0).trans hp))
  all_goals
    go_wp2
    go_ret
    exact ⟨by first | rfl | simp [bne], by first | exact hb2 | exact hb2.drew⟩
theorem FB.drewN {W : World} {b : Nat} {f : XFunc} (h : FB W b f) (n : Nat) : FB (W.drewN n) b f := h.mv (pw_drewN (Below.refl _ _) n)
theorem FB.drew {W : World} {b : Nat} {f : XFunc} (h : FB W b f) : FB W.drew b f := h.mv (Below.drew (Below.refl _ _))
theorem pb_areTypes1 (W : World) (f : XFunc) (b bp : Nat) (pw : Int) (hb : FB W b f) (hfo : Fo f) (hp : W.cell? ⟨bp, 0, none⟩ = some (.int .i64 pw)) (hbp : bp < W.heap.size) :
    PB Tryz.prog 174 #[.pointer (some ⟨b, 0, none⟩), .pointer (some ⟨bp, 0, none⟩)] KInt arg1 (fun id => !(typeOf f id == pw)) W := fun W' x cs hW hk => by
  cases hk
  exact c_areTypes1 f x pw b bp W' (hb.mv hW) hfo ((hW.cell (p := ⟨bp, 0, none⟩) hbp).trans hp) (Nat.lt_of_lt_of_le hbp hW.size)
theorem c_areTypes2 (f : XFunc) (i : XInst) (cs : List Value) (b : Nat) (w : World) (hb : FB w b f) (hfo : Fo f) (hk : KInst lm w i cs) : Calls Tryz.prog 175 #[.agg cs.toArray, .pointer (some ⟨b, 0, none⟩)] w (Ret (.bool (!typedI f i)) w) := by
  obtain ⟨A1, c1, A2, c2, h0, h1, h2, h3, h4⟩ := hb
  obtain ⟨v, rfl, hr⟩ := hk
  obtain ⟨A7, c7, rfl, -, -, -⟩ := hr.sm
  have hbl := fun o => (Below.refl w.heap.size w).al (Nat.le_refl _) o
  have ht := fun W hW => c_areTyped f _ i (.slice A7 i.args.length c7) W (KM.mv h3 hW) hfo (hr.mv hW)
  generalize typedI f i = q at *
  obtain ⟨op, wd, a, b', c, imm, args⟩ := i
  simp only [instV] at *
  clear h3 hr
  go_enter Tryz.func175, Tryz.ntmps175
  go_wp2_with fail
  refine (ht _ (hbl _)).mono ?_; rintro e w1 ⟨rfl, hb1⟩
  go_wp2
  go_ret
  exact ⟨rfl, (hbl _).then hb1⟩
theorem pb_areTypes2 (W : World) (f : XFunc) (b : Nat) (hb : FB W b f) (hfo : Fo f) : PB Tryz.prog 175 #[.pointer (some ⟨b, 0, none⟩)] (KInst lm) argN (fun i => !typedI f i) W := fun W' x cs hW hk =>
  c_areTypes2 f x cs b W' (hb.mv hW) hfo hk
set_option maxRecDepth 20000 in
set_option maxHeartbeats 8000000 in
theorem c_areTypes (f : XFunc) (cs : List Value) (w : World) (hf : KFunc lm w f cs) (hfo : Fo f) : Calls Tryz.prog 131 #[.agg cs.toArray] w (Ret (.bool (typesOk f)) w) := by
  have hf' := Hd.mk hf
  obtain ⟨v1, v2, rfl, hp, hb⟩ := hf
  obtain ⟨A1, c1, rfl, -, hl1, -⟩ := hp.sm
  obtain ⟨A2, c2, rfl, hcap, hl2, hb0⟩ := hb.sm
  have hbl := fun o => (Below.refl w.heap.size w).al (Nat.le_refl _) o
  clear hp hb
  have eg1 := enters_of Tryz.func174 (by kernel_rfl) rfl
  have eg2 := enters_of Tryz.func175 (by kernel_rfl) rfl
  have hfb0 : Hd (FB (w.alloc (.cells #[.slice A1 f.params.length c1, .int .i64 f.ret, .slice A2 f.blocks.length c2] 35)) w.heap.size f) := ⟨A1, c1, A2, c2, by simp, by simp, by simp, KM.mv hf'.out (hbl _), by simp⟩
  generalize hR : typesOk f = R
  have hR' := Hd.mk hR
  clear hR
  unfold typesOk at hR'
  have hfo' := Hd.mk hfo
  clear hfo
  go_enter Tryz.func131, Tryz.ntmps131
  go_wp2
  go_loopw [11] (fun s11 wr => ∃ k : Nat, k ≤ f.blocks.length ∧ s11 = .int .i64 k ∧ Hd ((f.blocks.take k).all (typesB f) = true) ∧ Hd (Below w.heap.size w wr) ∧ Hd (FB wr w.heap.size f)) (fun s11 _ => f.blocks.length - (intOf s11).toNat)
  case atStart => exact ⟨0, Nat.zero_le _, rfl, ⟨rfl⟩, ⟨hbl _⟩, hfb0⟩
  case round =>
    obtain ⟨k, hk, rfl, hall, hbr, hfb⟩ := hrel
    clear hfb0
    obtain ⟨wo, rfl⟩ : ∃ wo : World, wo = wr := ⟨_, rfl⟩
    by_cases hlt : k < f.blocks.length
    · obtain ⟨eb, eo, ecs, hA_, heb, ⟨bv1, bv2, rfl, hr_, hr2_⟩, hat_⟩ := (hb0.out).in0 (hbr.out) (k) (hlt)
      cases hA_
      have hew := Nat.lt_of_lt_of_le heb (hbr.out).size
      have g0 := hat_ 0 _ rfl
      have g1 := hat_ 1 _ rfl
      have g2 := hat_ 2 _ rfl
      have g3 := hat_ 3 _ rfl
      have g4 := hat_ 4 _ rfl
      have g5 := hat_ 5 _ rfl
      clear hat_
      simp at g0 g1 g2 g3 g4 g5
      obtain ⟨Ap, cp, rfl, hcp, hlp, hrp⟩ := hr_.sm
      obtain ⟨Ai, ci, rfl, hci, hli, hri⟩ := hr2_.sm
      clear hr_ hr2_
      have hsn := Hd.mk (all_take_snoc (typesB f) f.blocks k hlt)
      have hfl := fun h => Hd.mk (all_false_of (typesB f) f.blocks k hlt h)
      generalize f.blocks[k] = x at *
      have hz := hbr.out.size
      have hal : Hd (∀ o, Below wo.heap.size wo (wo.alloc o)) := ⟨fun o => (Below.refl wo.heap.size wo).al (Nat.le_refl _) o⟩
      obtain ⟨wb, hwb⟩ : ∃ wb : World, wb = wo.alloc (.cells #[.slice Ap x.phis.length cp, .slice Ai x.insts.length ci, .int .i64 x.term.kind, .int .i64 x.term.a, .int .i64 x.term.x, .int .i64 x.term.y] 32) := ⟨_, rfl⟩
      have hbB : Hd (Below wo.heap.size wo wb) := ⟨by rw [hwb]; exact hal.out _⟩
      have hbc : Hd (∀ o, wb.cell? ⟨wo.heap.size, o, none⟩ = [Value.slice Ap x.phis.length cp, .slice Ai x.insts.length ci, .int .i64 x.term.kind, .int .i64 x.term.a, .int .i64 x.term.x, .int .i64 x.term.y][o]?) := ⟨fun o => by rw [hwb]; simp⟩
      have hzb : wb.heap.size = wo.heap.size + 1 := by rw [hwb]; simp
      have hwb' := Hd.mk hwb
      clear hwb
      have y1 := hbc.out 0
      simp at y1
      go_wp2
      rw [← hwb'.out]
      go_loopw [18] (fun s18 wr => ∃ j : Nat, j ≤ x.phis.length ∧ s18 = .int .i64 j ∧ Hd ((x.phis.take j).all (fun p => p.ins.all fun id => typeOf f id == p.w) = true) ∧ Hd (Below wb.heap.size wb wr)) (fun s18 _ => x.phis.length - (intOf s18).toNat)
      case atStart => exact ⟨0, Nat.zero_le _, rfl, ⟨rfl⟩, ⟨Below.refl _ _⟩⟩
      case round =>
        obtain ⟨j, hj, rfl, hallj, hbj⟩ := hrel
        have hBo : Hd (Below wo.heap.size wo wr) := ⟨hbB.out.then hbj.out⟩
        have hBw := Hd.mk (hbr.out.then hBo.out)
        have hfbj := Hd.mk (hfb.out.mv hBo.out)
        have zj := hbj.out.size
        have zj2 : wo.heap.size < wr.heap.size := by omega
        by_cases hltj : j < x.phis.length
        · obtain ⟨eb, eo, ecs, hA_, heb, ⟨pv1, rfl, hr_⟩, hat_⟩ := (hrp.out).in0 (hBw.out) (j) (hltj)
          cases hA_
          have hew := Nat.lt_of_lt_of_le heb (hBw.out).size
          have g0 := hat_ 0 _ rfl
          have g1 := hat_ 1 _ rfl
          clear hat_
          simp at g0 g1
          obtain ⟨Ax, cx, rfl, hcx, hlx, hrx⟩ := hr_.sm
          clear hr_
          have hsnj := Hd.mk (all_take_snoc (fun p => p.ins.all fun id => typeOf f id == p.w) x.phis j hltj)
          have hflj := fun h => Hd.mk (all_false_of (fun p => p.ins.all fun id => typeOf f id == p.w) x.phis j hltj h)
          generalize x.phis[j] = p at *
          have hcon := fun W (hW : Below wr.heap.size wr W) (hc : W.cell? ⟨wr.heap.size, 0, none⟩ = some (.int .i64 p.w)) (hlt : wr.heap.size < W.heap.size) => c_ConI (.slice Ax p.ins.length cx) p.ins _ _ (fun id => !(typeOf f id == p.w)) W (hrx.out.mv (hBw.out.then hW)) eg1 (pb_areTypes1 W f w.heap.size wr.heap.size p.w (hfbj.out.mv hW) hfo'.out hc hlt)
          simp only [any_not] at hcon
          have hal2 : Hd (∀ o, Below wr.heap.size wr (wr.alloc o)) := ⟨fun o => (Below.refl wr.heap.size wr).al (Nat.le_refl _) o⟩
          go_wp2_with fail
          refine (hcon _ (hal2.out _) (by simp) (by simp)).mono ?_; rintro e w2 ⟨rfl, hb2⟩
          have hb2' := Hd.mk ((hal2.out _).then hb2)
          clear hcon hb2
          cases hq : p.ins.all (fun id => typeOf f id == p.w) with
          | false =>
            have hv : R = false := by
              rw [← hR'.out]
              refine (hfl ?_).out
              unfold typesB
              rw [(hflj hq).out]; rfl
            subst hv
            clear hfl hflj hsnj hsn hq
            go_wp2
            go_ret
            exact ⟨rfl, hBw.out.then hb2'.out⟩
          | true =>
            rw [hq] at hsnj
            have hall2 := Hd.mk (hsnj.out.trans (by rw [hallj.out]; first | done | rfl))
            clear hflj hsnj hq
            go_wp2
            go_roundw
            case rel => exact ⟨j + 1, by omega, by go_num, hall2, ⟨hbj.out.then hb2'.out⟩⟩
            case measure => simp [intOf]; omega
        · have e : j = x.phis.length := by omega
          subst e
          rw [List.take_length] at hallj
          have y0 := (bat hbj.out wo.heap.size (by omega) 1).trans (hbc.out 1)
          have y2 := (bat hbj.out wo.heap.size (by omega) 2).trans (hbc.out 2)
          have y3 := (bat hbj.out wo.heap.size (by omega) 3).trans (hbc.out 3)
          have y4 := (bat hbj.out wo.heap.size (by omega) 4).trans (hbc.out 4)
          have y5 := (bat hbj.out wo.heap.size (by omega) 5).trans (hbc.out 5)
          simp at y0 y2 y3 y4 y5
          have hcon := c_ConInst (.slice Ai x.insts.length ci) x.insts _ _ (fun i => !typedI f i) wr (hri.out.mv hBw.out) eg2 (pb_areTypes2 wr f w.heap.size hfbj.out hfo'.out)
          simp only [any_not] at hcon
          go_wp2_with fail
          refine hcon.mono ?_; rintro e w2 ⟨rfl, hb2⟩
          have hb2' := Hd.mk hb2
          have hz2 := hb2.size
          replace y2 := (bat hb2 wo.heap.size (by omega) 2).trans y2
          replace y3 := (bat hb2 wo.heap.size (by omega) 3).trans y3
          replace y4 := (bat hb2 wo.heap.size (by omega) 4).trans y4
          replace y5 := (bat hb2 wo.heap.size (by omega) 5).trans y5
          have hfb2 := hfbj.out.mv hb2
          have hB2 := Hd.mk (hBw.out.then hb2)
          clear hcon hb2 y0 hfbj
          cases hq : x.insts.all (typedI f) with
          | false =>
            have hv : R = false := by
              rw [← hR'.out]
              refine (hfl ?_).out
              unfold typesB
              rw [hq, Bool.and_false]; rfl
            subst hv
            clear hfl hsn hq hfb2
            go_wp2
            go_ret
            exact ⟨rfl, hB2.out⟩
          | true =>
            have hTB := Hd.mk (show typesB f x = typedT f x.term by unfold typesB; rw [hallj.out, hq]; rfl)
            clear hq
            generalize x.term = t at *
            obtain ⟨tk, ta, tx, ty⟩ := t
            simp only at *
            have hal2 : Hd (∀ o, Below w2.heap.size w2 (w2.alloc o)) := ⟨fun o => (Below.refl w2.heap.size w2).al (Nat.le_refl _) o⟩
            obtain ⟨w3, hw3⟩ : ∃ w3 : World, w3 = w2.alloc (.cells #[.int .i64 tk, .int .i64 ta, .int .i64 tx, .int .i64 ty] 29) := ⟨_, rfl⟩
            have hb3 : Below w2.heap.size w2 w3 := by rw [hw3]; exact hal2.out _
            have hz3 : w3.heap.size = w2.heap.size + 1 := by rw [hw3]; simp
            have p0 : w3.cell? ⟨w2.heap.size, 0, none⟩ = some (.int .i64 tk) := by rw [hw3]; simp
            have p1 : w3.cell? ⟨w2.heap.size, 1, none⟩ = some (.int .i64 ta) := by rw [hw3]; simp
            have hfb3 := Hd.mk (hfb2.mv hb3)
            have hB3 : Hd (Below wo.heap.size wo w3) := ⟨(hBo.out.then hb2'.out).then hb3⟩
            have hw3' := Hd.mk hw3
            obtain ⟨B1, d1, B2, d2, n0, n1, n2, hkf3, hlt3⟩ := hfb3.out
            have hty := fun W (hS : Below w3.heap.size w3 W) => c_TypeOfB f _ ta W (KM.mv hkf3 hS) hfo'.out
            have hpass := fun (h : typedT f ⟨tk, ta, tx, ty⟩ = true) => Hd.mk (show (f.blocks.take (k + 1)).all (typesB f) = true by rw [hsn.out, hall.out, hTB.out, h]; rfl)
            have hfail := fun (h : typedT f ⟨tk, ta, tx, ty⟩ = false) => Hd.mk (hR'.out.symm.trans (hfl (hTB.out.trans h)).out)
            have hb3' := Hd.mk hb3
            have hzo : wo.heap.size < w2.heap.size := by omega
            clear hw3 hb3 hfb2 hTB hsn hfl hkf3 hB2 hal2
            unfold typedT at hpass hfail
            simp only at hpass hfail
            by_cases k1 : tk = 1
            · subst k1
              by_cases ht : typeOf f ta = f.ret
              · have hps := hpass (by simp [ht])
                have d0 : (f.ret != f.ret) = false := by simp
                rw [ht] at hty
                clear hpass hfail ht
                go_wp2
                rw [← hw3'.out]
                refine wp_region_bel (by kernel_rfl) (by kernel_rfl) ?_
                simp only [List.toList_toArray]
                repeat' first
                  | (refine seq_val (by rfl) (by intro W hS; have s0 := (bat hS w.heap.size hlt3 0).trans n0; have s1 := (bat hS w.heap.size hlt3 1).trans n1; have s2 := (bat hS w.heap.size hlt3 2).trans n2; have s3 := (bat hS w2.heap.size (by omega) 0).trans p0; have s4 := (bat hS w2.heap.size (by omega) 1).trans p1; go_simp; first | done | rfl) ?_; simp only [Act.put, List.setIfInBounds_toArray, List.set_cons_zero, List.set_cons_succ])
                  | (refine seq_skip (by rfl) ?_; simp only [Act.put, List.setIfInBounds_toArray, List.set_cons_zero, List.set_cons_succ])
                  | (refine seq_ret 142 _ (by rfl) (by intro W hS; have s0 := (bat hS w.heap.size hlt3 0).trans n0; have s1 := (bat hS w.heap.size hlt3 1).trans n1; have s2 := (bat hS w.heap.size hlt3 2).trans n2; have s3 := (bat hS w2.heap.size (by omega) 0).trans p0; have s4 := (bat hS w2.heap.size (by omega) 1).trans p1; go_simp; first | done | rfl) (fun W hS => hty W hS) ?_; simp only [Act.put, List.setIfInBounds_toArray, List.set_cons_zero, List.set_cons_succ])
                  | fail
                refine seq_nil (fun W hS => ?_)
                have s0 := (bat hS w.heap.size hlt3 0).trans n0
                have s1 := (bat hS w.heap.size hlt3 1).trans n1
                have s2 := (bat hS w.heap.size hlt3 2).trans n2
                have s3 := (bat hS w2.heap.size (by omega) 0).trans p0
                have s4 := (bat hS w2.heap.size (by omega) 1).trans p1
                go_wp2
                go_roundw
                case rel => exact ⟨k + 1, by omega, by go_num, hps, ⟨(hbr.out.then hB3.out).then hS⟩, ⟨hfb3.out.mv hS⟩⟩
                case measure => simp [intOf]; omega
              · have hv : R = false := (hfail (by simp [ht])).out
                have d0 := bneT ht
                subst hv
                clear hpass hfail
                generalize typeOf f ta = T at *
                go_wp2
                rw [← hw3'.out]
                refine wp_region_bel (by kernel_rfl) (by kernel_rfl) ?_
                simp only [List.toList_toArray]
                repeat' first
                  | (refine seq_val (by rfl) (by intro W hS; have s0 := (bat hS w.heap.size hlt3 0).trans n0; have s1 := (bat hS w.heap.size hlt3 1).trans n1; have s2 := (bat hS w.heap.size hlt3 2).trans n2; have s3 := (bat hS w2.heap.size (by omega) 0).trans p0; have s4 := (bat hS w2.heap.size (by omega) 1).trans p1; go_simp; first | done | rfl) ?_; simp only [Act.put, List.setIfInBounds_toArray, List.set_cons_zero, List.set_cons_succ])
                  | (refine seq_skip (by rfl) ?_; simp only [Act.put, List.setIfInBounds_toArray, List.set_cons_zero, List.set_cons_succ])
                  | (refine seq_ret 142 _ (by rfl) (by intro W hS; have s0 := (bat hS w.heap.size hlt3 0).trans n0; have s1 := (bat hS w.heap.size hlt3 1).trans n1; have s2 := (bat hS w.heap.size hlt3 2).trans n2; have s3 := (bat hS w2.heap.size (by omega) 0).trans p0; have s4 := (bat hS w2.heap.size (by omega) 1).trans p1; go_simp; first | done | rfl) (fun W hS => hty W hS) ?_; simp only [Act.put, List.setIfInBounds_toArray, List.set_cons_zero, List.set_cons_succ])
                  | fail
                refine seq_nil (fun W hS => ?_)
                have s0 := (bat hS w.heap.size hlt3 0).trans n0
                have s1 := (bat hS w.heap.size hlt3 1).trans n1
                have s2 := (bat hS w.heap.size hlt3 2).trans n2
                have s3 := (bat hS w2.heap.size (by omega) 0).trans p0
                have s4 := (bat hS w2.heap.size (by omega) 1).trans p1
                go_wp2
                go_ret
                exact ⟨rfl, (hbr.out.then hB3.out).then hS⟩
            have b1 := beqF k1
            by_cases k3 : tk = 3
            · subst k3
              by_cases ht : typeOf f ta = 1
              · have hps := hpass (by simp [ht])
                rw [ht] at hty
                clear hpass hfail ht
                go_wp2
                rw [← hw3'.out]
                refine wp_region_bel (by kernel_rfl) (by kernel_rfl) ?_
                simp only [List.toList_toArray]
                repeat' first
                  | (refine seq_val (by rfl) (by intro W hS; have s0 := (bat hS w.heap.size hlt3 0).trans n0; have s1 := (bat hS w.heap.size hlt3 1).trans n1; have s2 := (bat hS w.heap.size hlt3 2).trans n2; have s3 := (bat hS w2.heap.size (by omega) 0).trans p0; have s4 := (bat hS w2.heap.size (by omega) 1).trans p1; go_simp; first | done | rfl) ?_; simp only [Act.put, List.setIfInBounds_toArray, List.set_cons_zero, List.set_cons_succ])
                  | (refine seq_skip (by rfl) ?_; simp only [Act.put, List.setIfInBounds_toArray, List.set_cons_zero, List.set_cons_succ])
                  | (refine seq_ret 142 _ (by rfl) (by intro W hS; have s0 := (bat hS w.heap.size hlt3 0).trans n0; have s1 := (bat hS w.heap.size hlt3 1).trans n1; have s2 := (bat hS w.heap.size hlt3 2).trans n2; have s3 := (bat hS w2.heap.size (by omega) 0).trans p0; have s4 := (bat hS w2.heap.size (by omega) 1).trans p1; go_simp; first | done | rfl) (fun W hS => hty W hS) ?_; simp only [Act.put, List.setIfInBounds_toArray, List.set_cons_zero, List.set_cons_succ])
                  | fail
                refine seq_nil (fun W hS => ?_)
                have s0 := (bat hS w.heap.size hlt3 0).trans n0
                have s1 := (bat hS w.heap.size hlt3 1).trans n1
                have s2 := (bat hS w.heap.size hlt3 2).trans n2
                have s3 := (bat hS w2.heap.size (by omega) 0).trans p0
                have s4 := (bat hS w2.heap.size (by omega) 1).trans p1
                go_wp2
                go_roundw
                case rel => exact ⟨k + 1, by omega, by go_num, hps, ⟨(hbr.out.then hB3.out).then hS⟩, ⟨hfb3.out.mv hS⟩⟩
                case measure => simp [intOf]; omega
              · have hv : R = false := (hfail (by simp [ht])).out
                have d0 := bneT ht
                subst hv
                clear hpass hfail
                generalize typeOf f ta = T at *
                go_wp2
                rw [← hw3'.out]
                refine wp_region_bel (by kernel_rfl) (by kernel_rfl) ?_
                simp only [List.toList_toArray]
                repeat' first
                  | (refine seq_val (by rfl) (by intro W hS; have s0 := (bat hS w.heap.size hlt3 0).trans n0; have s1 := (bat hS w.heap.size hlt3 1).trans n1; have s2 := (bat hS w.heap.size hlt3 2).trans n2; have s3 := (bat hS w2.heap.size (by omega) 0).trans p0; have s4 := (bat hS w2.heap.size (by omega) 1).trans p1; go_simp; first | done | rfl) ?_; simp only [Act.put, List.setIfInBounds_toArray, List.set_cons_zero, List.set_cons_succ])
                  | (refine seq_skip (by rfl) ?_; simp only [Act.put, List.setIfInBounds_toArray, List.set_cons_zero, List.set_cons_succ])
                  | (refine seq_ret 142 _ (by rfl) (by intro W hS; have s0 := (bat hS w.heap.size hlt3 0).trans n0; have s1 := (bat hS w.heap.size hlt3 1).trans n1; have s2 := (bat hS w.heap.size hlt3 2).trans n2; have s3 := (bat hS w2.heap.size (by omega) 0).trans p0; have s4 := (bat hS w2.heap.size (by omega) 1).trans p1; go_simp; first | done | rfl) (fun W hS => hty W hS) ?_; simp only [Act.put, List.setIfInBounds_toArray, List.set_cons_zero, List.set_cons_succ])
                  | fail
                refine seq_nil (fun W hS => ?_)
                have s0 := (bat hS w.heap.size hlt3 0).trans n0
                have s1 := (bat hS w.heap.size hlt3 1).trans n1
                have s2 := (bat hS w.heap.size hlt3 2).trans n2
                have s3 := (bat hS w2.heap.size (by omega) 0).trans p0
                have s4 := (bat hS w2.heap.size (by omega) 1).trans p1
                go_wp2
                go_ret
                exact ⟨rfl, (hbr.out.then hB3.out).then hS⟩
            have b3 := beqF k3
            have hps := hpass (by simp [k1, k3])
            clear hpass hfail hty
            go_wp2
            rw [← hw3'.out]
            go_quiet (fail)
            go_wp2
            go_roundw
            case rel => exact ⟨k + 1, by omega, by go_num, hps, ⟨drewN_below (hbr.out.then hB3.out) _⟩, ⟨FB.drewN hfb3.out _⟩⟩
            case measure => simp [intOf]; omega
    · have e : k = f.blocks.length := by omega
      subst e
      have hv : R = true := by rw [← hR'.out, ← hall.out, List.take_length]
      subst hv
      go_wp2
      go_ret
      exact ⟨rfl, hbr.out⟩
section
variable (L : Nat)
def KMod (w : World) (x : XMod) (cs : List Value) : Prop := ∃ v, cs = [v] ∧ Rd L 3 (KFunc L) w v x.funcs
instance : KM (KMod L) := ⟨fun ⟨v, h, r⟩ hb => ⟨v, h, r.mv hb⟩⟩
end
def NB (W : World) (b : Nat) (n : Int) : Prop := W.cell? ⟨b, 0, none⟩ = some (.int .i64 n) ∧ b < W.heap.size
theorem NB.mv {W W' : World} {b : Nat} {n : Int} (h : NB W b n) (hb : Below W.heap.size W W') : NB W' b n := ⟨(bat hb b h.2 0).trans h.1, Nat.lt_of_lt_of_le h.2 hb.size⟩
def MB (W : World) (b : Nat) (m : XMod) : Prop := ∃ A c, W.cell? ⟨b, 0, none⟩ = some (.slice A m.funcs.length c) ∧ KMod lm W m [.slice A m.funcs.length c] ∧ b < W.heap.size
theorem MB.mv {W W' : World} {b : Nat} {m : XMod} (h : MB W b m) (hb : Below W.heap.size W W') : MB W' b m := by
  obtain ⟨A, c, h1, h2, h3⟩ := h
  exact ⟨A, c, (bat hb b h3 0).trans h1, KM.mv h2 hb, Nat.lt_of_lt_of_le h3 hb.size⟩
set_option maxHeartbeats 1000000 in
theorem c_isSeen (f : XFunc) (cs : List Value) (id b ahead : Int) (w : World) (hf : KFunc lm w f cs) (hfo : Fo f) (hb : 0 ≤ b ∧ b < f.blocks.length) : Calls Tryz.prog 179 #[.agg cs.toArray, .int .i64 id, .int .i64 b, .int .i64 ahead] w (Ret (.bool (seen f id b ahead)) w) := by
  have hpl := fun W hW => c_PlaceOf f cs id W (KM.mv hf hW) (by have := hfo.2.1; omega)
  have hdm := fun a W hW => c_dominates f cs a b W (KM.mv hf hW) hfo.1 hb
  obtain ⟨v1, v2, rfl, hp, hb'⟩ := hf
  obtain ⟨A1, c1, rfl, -, -, -⟩ := hp.sm
  obtain ⟨A2, c2, rfl, -, -, -⟩ := hb'.sm
  have hbl := fun o => (Below.refl w.heap.size w).al (Nat.le_refl _) o
  clear hp hb' hfo
  generalize hRR : seen f id b ahead = R
  have hR := Hd.mk hRR.symm
  clear hRR
  unfold seen at hR
  generalize placeOf f id = pl at *
  obtain ⟨p1, p2⟩ := pl
  simp only at *
  by_cases h1 : p1 = -1
  · subst h1
    have hv : R = true := by rw [hR.out]; rfl
    subst hv
    clear hR hdm
    go_enter Tryz.func179, Tryz.ntmps179
    go_wp2_with fail
    refine (hpl _ (hbl _)).mono ?_; rintro e w1 ⟨rfl, hb1⟩
    go_wp2
    go_ret
    exact ⟨rfl, (hbl _).then hb1⟩
  have d1 := beqF h1
  by_cases h2 : p1 = b
  · have hv : R = decide (id < ahead) := by rw [hR.out, if_neg (by simpa using h1), if_pos (by simpa using h2)]
    subst hv
    subst h2
    clear hR hdm
    go_enter Tryz.func179, Tryz.ntmps179
    go_wp2_with fail
    refine (hpl _ (hbl _)).mono ?_; rintro e w1 ⟨rfl, hb1⟩
    go_wp2
    go_ret
    exact ⟨rfl, (hbl _).then hb1⟩
  have d2 := beqF h2
  have hv : R = dom f p1 b := by rw [hR.out, if_neg (by simpa using h1), if_neg (by simpa using h2)]
  subst hv
  have hd := hdm p1
  generalize dom f p1 b = R at *
  clear hR hdm
  go_enter Tryz.func179, Tryz.ntmps179
  go_wp2_with fail
  refine (hpl _ (hbl _)).mono ?_; rintro e w1 ⟨rfl, hb1⟩
  have k0 := bat hb1 w.heap.size (by simp)
  simp at k0
  have hB1 := (hbl _).then hb1
  go_wp2_with fail
  refine (hd _ hB1).mono ?_; rintro e w2 ⟨rfl, hb2⟩
  go_wp2
  go_ret
  exact ⟨rfl, hB1.then hb2⟩
theorem c_areSeen1 (f : XFunc) (id b fst : Int) (k : Nat) (bf bb bq bk : Nat) (w : World) (hf : FB w bf f) (hfo : Fo f) (hb : 0 ≤ b ∧ b < f.blocks.length) (h1 : NB w bb b) (h2 : NB w bq fst) (h3 : NB w bk k) (hr : -9223372036854775808 ≤ fst + k ∧ fst + k ≤ 9223372036854775807) (hk : (k : Int) ≤ 9223372036854775807) :
    Calls Tryz.prog 180 #[.int .i64 id, .pointer (some ⟨bf, 0, none⟩), .pointer (some ⟨bb, 0, none⟩), .pointer (some ⟨bq, 0, none⟩), .pointer (some ⟨bk, 0, none⟩)] w (Ret (.bool (!seen f id b (fst + k))) w) := by
  obtain ⟨A1, c1, A2, c2, q0, q1, q2, q3, q4⟩ := hf
  have hs := c_isSeen f _ id b (fst + k) w q3 hfo hb
  generalize seen f id b (fst + k) = R at *
  obtain ⟨h1, -⟩ := h1
  obtain ⟨h2, -⟩ := h2
  obtain ⟨h3, -⟩ := h3
  have e1 : IntKind.i64.wrap (fst + (k : Int)) = fst + k := IntWalk.i64_in _ hr
  have e2 : IntKind.i64.wrap (k : Int) = (k : Int) := IntWalk.i64_in _ (by omega)
  clear q3 hr hk
  go_enter Tryz.func180, Tryz.ntmps180
  go_wp2_with fail
  refine hs.mono ?_; rintro e w1 ⟨rfl, hb1⟩
  go_wp2
  go_ret
  exact ⟨rfl, hb1⟩
theorem pb_areSeen1 (W : World) (f : XFunc) (b fst : Int) (k : Nat) (bf bb bq bk : Nat) (hf : FB W bf f) (hfo : Fo f) (hb : 0 ≤ b ∧ b < f.blocks.length) (h1 : NB W bb b) (h2 : NB W bq fst) (h3 : NB W bk k) (hr : -9223372036854775808 ≤ fst + k ∧ fst + k ≤ 9223372036854775807) (hk : (k : Int) ≤ 9223372036854775807) :
    PB Tryz.prog 180 #[.pointer (some ⟨bf, 0, none⟩), .pointer (some ⟨bb, 0, none⟩), .pointer (some ⟨bq, 0, none⟩), .pointer (some ⟨bk, 0, none⟩)] KInt arg1 (fun id => !seen f id b (fst + k)) W := fun W' x cs hW hx => by
  cases hx
  exact c_areSeen1 f x b fst k bf bb bq bk W' (hf.mv hW) hfo hb (h1.mv hW) (h2.mv hW) (h3.mv hW) hr hk
theorem new_cell (W : World) (arr : Array Value) (e : TypeId) {b : Nat} (hb : b = W.heap.size) (j : Nat) (v : Value) (h : arr[j]? = some v) : (W.alloc (.cells arr e)).cell? ⟨b, j, none⟩ = some v := by
  subst hb; rw [World.cell?_alloc_new]; exact h
theorem fits2_drop (f : XFunc) : ∀ (xs ws : List Int) (k : Nat) (h : k < xs.length) (h' : k < ws.length), fits2 f (xs.drop k) (ws.drop k) = (typeOf f xs[k] == ws[k] && fits2 f (xs.drop (k + 1)) (ws.drop (k + 1))) := fun xs ws k h h' => by
  rw [List.drop_eq_getElem_cons h, List.drop_eq_getElem_cons h']; rfl
set_option maxRecDepth 20000 in
set_option maxHeartbeats 4000000 in
theorem c_isCall (m : XMod) (cm : List Value) (f : XFunc) (cf : List Value) (i : XInst) (v : Value) (w : World) (hm : KMod lm w m cm) (hf : KFunc lm w f cf) (hfo : Fo f) (hv : RI lm w v i.args) (him : 0 ≤ i.imm ∧ i.imm < m.funcs.length) :
    Calls Tryz.prog 134 #[.agg cm.toArray, .agg cf.toArray, instV i v] w (Ret (.bool (callOk m f i)) w) := by
  have hty := fun W (hW : Below w.heap.size w W) id => c_TypeOfB f cf id W (KM.mv hf hW) hfo
  obtain ⟨vm, rfl, rm⟩ := hm
  obtain ⟨v1, v2, rfl, hp, hb⟩ := hf
  obtain ⟨A1, c1, rfl, -, -, -⟩ := hp.sm
  obtain ⟨A2, c2, rfl, -, -, -⟩ := hb.sm
  obtain ⟨A7, c7, rfl, hc7, hl7, hv0⟩ := hv.sm
  obtain ⟨Am, cm, rfl, hcm, hlm', rm0⟩ := rm.sm
  clear hp hb hfo rm hv
  have hbl := fun o o' o'' o3 => ((((Below.refl w.heap.size w).al (Nat.le_refl _) o).al (by simp) o').al (by simp; omega) o'').al (by simp; omega) o3
  obtain ⟨k, hk⟩ : ∃ k : Nat, i.imm = k := ⟨i.imm.toNat, by omega⟩
  have hkl : k < m.funcs.length := by omega
  obtain ⟨eb, eo, ecs, hA_, heb, ⟨fv1, fv2, rfl, hr_, hr2_⟩, hat_⟩ := (rm0.out).in0 (Below.refl w.heap.size w) (k) (hkl)
  cases hA_
  have hew := Nat.lt_of_lt_of_le heb (Below.refl w.heap.size w).size
  have g0 := hat_ 0 _ rfl
  have g1 := hat_ 1 _ rfl
  have g2 := hat_ 2 _ rfl
  clear hat_
  simp at g0 g1 g2
  obtain ⟨Af, cf, rfl, hcf, hlf, hrf⟩ := hr_.sm
  obtain ⟨Ab, cb, rfl, hcb, hlb, hrb⟩ := hr2_.sm
  clear hr_ hr2_
  generalize hRR : callOk m f i = R
  have hR := Hd.mk hRR.symm
  clear hRR
  unfold callOk at hR
  rw [show m.funcs.getD i.imm.toNat func0 = m.funcs[k] by rw [hk, Int.toNat_natCast, List.getD_eq_getElem?_getD, List.getElem?_eq_getElem hkl]; rfl] at hR
  obtain ⟨op, wd, a, b, c, imm, args⟩ := i
  simp only [instV] at *
  subst hk
  have y0 : (0 : Int) ≤ (k : Int) := by omega
  have y1 : (k : Int) < (m.funcs.length : Int) := by omega
  generalize m.funcs[k] = t at *
  have heb1 : eb < w.heap.size + 1 := by omega
  have heb2 : eb < w.heap.size + 1 + 1 := by omega
  have heb3 : eb < w.heap.size + 1 + 1 + 1 := by omega
  by_cases h1 : wd = t.ret
  rotate_left
  · have hv : R = false := by rw [hR.out]; simp [h1]
    subst hv
    have d1 := bneT h1
    clear hR hty
    go_enter Tryz.func134, Tryz.ntmps134
    go_wp2
    go_ret
    exact ⟨rfl, hbl _ _ _ _⟩
  by_cases h2 : args.length = t.params.length
  rotate_left
  · have hv : R = false := by rw [hR.out]; simp [h2]
    subst hv
    have d2 : ((args.length : Int) != (t.params.length : Int)) = true := bneT (by omega)
    clear hR hty
    go_enter Tryz.func134, Tryz.ntmps134
    go_wp2
    go_ret
    exact ⟨rfl, hbl _ _ _ _⟩
  have hR2 := Hd.mk (show R = fits2 f args t.params by rw [hR.out]; simp [h1, h2])
  clear hR
  subst h1
  have d1 : (t.ret != t.ret) = false := by simp
  have d2 : ((args.length : Int) != (t.params.length : Int)) = false := by rw [h2]; simp
  have h2' := Hd.mk h2
  clear h2
  obtain ⟨W0, hW0⟩ : ∃ W0 : World, W0 = (((w.alloc (.cells #[.slice (some ⟨eb, eo, none⟩) m.funcs.length cm] 38)).alloc (.cells #[.slice A1 f.params.length c1, .int .i64 f.ret, .slice A2 f.blocks.length c2] 35)).alloc (.cells #[.int .i64 op, .int .i64 t.ret, .int .i64 a, .int .i64 b, .int .i64 c, .int .i64 k, .slice A7 args.length c7] 26)).alloc (.cells #[.slice Af t.params.length cf, .int .i64 t.ret, .slice Ab t.blocks.length cb] 35) := ⟨_, rfl⟩
  have hz0 : W0.heap.size = w.heap.size + 4 := by rw [hW0]; simp
  have hB0 : Hd (Below w.heap.size w W0) := ⟨by rw [hW0]; exact hbl _ _ _ _⟩
  have n0 : W0.cell? ⟨w.heap.size + 1, 0, none⟩ = some (.slice A1 f.params.length c1) := by rw [hW0]; exact (World.cell?_alloc_past _ _ _ (by first | omega | (simp; done) | (simp; omega))).trans ((World.cell?_alloc_past _ _ _ (by first | omega | (simp; done) | (simp; omega))).trans (by simp))
  have n1 : W0.cell? ⟨w.heap.size + 1, 1, none⟩ = some (.int .i64 f.ret) := by rw [hW0]; exact (World.cell?_alloc_past _ _ _ (by first | omega | (simp; done) | (simp; omega))).trans ((World.cell?_alloc_past _ _ _ (by first | omega | (simp; done) | (simp; omega))).trans (by simp))
  have n2 : W0.cell? ⟨w.heap.size + 1, 2, none⟩ = some (.slice A2 f.blocks.length c2) := by rw [hW0]; exact (World.cell?_alloc_past _ _ _ (by first | omega | (simp; done) | (simp; omega))).trans ((World.cell?_alloc_past _ _ _ (by first | omega | (simp; done) | (simp; omega))).trans (by simp))
  have n3 : W0.cell? ⟨w.heap.size + 3, 0, none⟩ = some (.slice Af t.params.length cf) := by rw [hW0]; exact new_cell _ _ _ (by simp) 0 _ rfl
  have hW0' := Hd.mk hW0
  have hty' := Hd.mk hty
  clear hW0 hbl hty
  go_enter Tryz.func134, Tryz.ntmps134
  go_wp2
  rw [← hW0'.out]
  go_loopw [33] (fun s33 wr => ∃ j : Nat, j ≤ args.length ∧ s33 = .int .i64 j ∧ Hd (fits2 f (args.drop j) (t.params.drop j) = R) ∧ Hd (Below W0.heap.size W0 wr)) (fun s33 _ => args.length - (intOf s33).toNat)
  case atStart => exact ⟨0, Nat.zero_le _, rfl, ⟨by rw [hR2.out]; rfl⟩, ⟨Below.refl _ _⟩⟩
  case round =>
    obtain ⟨j, hj, rfl, hrj, hbr⟩ := hrel
    have hBw := Hd.mk (hB0.out.then hbr.out)
    have hzr := hbr.out.size
    by_cases hlt : j < args.length
    · have hltp : j < t.params.length := by have := h2'.out; omega
      obtain ⟨eb, eo, ecs, hA_, heb, hk_, hat_⟩ := (hv0.out).in0 (hBw.out) (j) (hlt)
      cases hA_
      cases hk_
      have hew := Nat.lt_of_lt_of_le heb (hBw.out).size
      have g0 := hat_ 0 _ rfl
      clear hat_
      simp at g0
      have p0 := g0
      have hep := hew
      clear g0 hew
      obtain ⟨eb, eo, ecs, hA_, heb, hk_, hat_⟩ := (hrf.out).in0 (hBw.out) (j) (hltp)
      cases hA_
      cases hk_
      have hew := Nat.lt_of_lt_of_le heb (hBw.out).size
      have g0 := hat_ 0 _ rfl
      clear hat_
      simp at g0
      have hdr := Hd.mk ((fits2_drop f args t.params j hlt hltp).symm.trans hrj.out)
      have y4 : (j : Int) < (t.params.length : Int) := by omega
      have y5 : (0 : Int) ≤ (j : Int) := by omega
      have hta := hty'.out
      generalize args[j] = x at *
      generalize t.params[j] = pw at *
      have m0 := (bat hbr.out (w.heap.size + 1) (by omega) 0).trans n0
      have m1 := (bat hbr.out (w.heap.size + 1) (by omega) 1).trans n1
      have m2 := (bat hbr.out (w.heap.size + 1) (by omega) 2).trans n2
      have m3 := (bat hbr.out (w.heap.size + 3) (by omega) 0).trans n3
      have hlw1 : w.heap.size + 1 < wr.heap.size := by omega
      have hlw3 : w.heap.size + 3 < wr.heap.size := by omega
      by_cases hq : typeOf f x = pw
      · have hrj2 := Hd.mk (show fits2 f (args.drop (j + 1)) (t.params.drop (j + 1)) = R by have := hdr.out; rw [show (typeOf f x == pw) = true by simpa using hq, Bool.true_and] at this; exact this)
        clear hdr
        go_wp2
        refine wp_region_bel (by kernel_rfl) (by kernel_rfl) ?_
        simp only [List.toList_toArray]
        repeat' first
          | (refine seq_val (by rfl) (by intro W hS; have s0 := (bat hS (w.heap.size + 1) hlw1 0).trans m0; have s1 := (bat hS (w.heap.size + 1) hlw1 1).trans m1; have s2 := (bat hS (w.heap.size + 1) hlw1 2).trans m2; have s3 := (bat hS (w.heap.size + 3) hlw3 0).trans m3; have s4 := (bat hS _ hew (eo + j)).trans g0; go_simp; first | done | rfl) ?_; simp only [Act.put, List.setIfInBounds_toArray, List.set_cons_zero, List.set_cons_succ])
          | (refine seq_skip (by rfl) ?_; simp only [Act.put, List.setIfInBounds_toArray, List.set_cons_zero, List.set_cons_succ])
          | (refine seq_ret 142 _ (by rfl) (by intro W hS; have s0 := (bat hS (w.heap.size + 1) hlw1 0).trans m0; have s1 := (bat hS (w.heap.size + 1) hlw1 1).trans m1; have s2 := (bat hS (w.heap.size + 1) hlw1 2).trans m2; have s3 := (bat hS (w.heap.size + 3) hlw3 0).trans m3; have s4 := (bat hS _ hew (eo + j)).trans g0; go_simp; first | done | rfl) (fun W hS => (hq ▸ hta W (hBw.out.then hS) x : Calls Tryz.prog 142 _ W (Ret (.int .i64 pw) W))) ?_; simp only [Act.put, List.setIfInBounds_toArray, List.set_cons_zero, List.set_cons_succ])
          | fail
        refine seq_nil (fun W hS => ?_)
        have s0 := (bat hS (w.heap.size + 1) hlw1 0).trans m0
        have s1 := (bat hS (w.heap.size + 1) hlw1 1).trans m1
        have s2 := (bat hS (w.heap.size + 1) hlw1 2).trans m2
        have s3 := (bat hS (w.heap.size + 3) hlw3 0).trans m3
        have s4 := (bat hS _ hew (eo + j)).trans g0
        go_wp2
        go_roundw
        case rel => exact ⟨j + 1, by omega, by go_num, hrj2, ⟨hbr.out.then hS⟩⟩
        case measure => simp [intOf]; omega
      · have hv : R = false := by have := hdr.out; rw [show (typeOf f x == pw) = false by simpa using hq, Bool.false_and] at this; exact this.symm
        subst hv
        have d3 := bneT hq
        have hta2 := fun W hS => hta W hS x
        clear hta hdr hty'
        generalize typeOf f x = tx at *
        go_wp2
        refine wp_region_bel (by kernel_rfl) (by kernel_rfl) ?_
        simp only [List.toList_toArray]
        repeat' first
          | (refine seq_val (by rfl) (by intro W hS; have s0 := (bat hS (w.heap.size + 1) hlw1 0).trans m0; have s1 := (bat hS (w.heap.size + 1) hlw1 1).trans m1; have s2 := (bat hS (w.heap.size + 1) hlw1 2).trans m2; have s3 := (bat hS (w.heap.size + 3) hlw3 0).trans m3; have s4 := (bat hS _ hew (eo + j)).trans g0; go_simp; first | done | rfl) ?_; simp only [Act.put, List.setIfInBounds_toArray, List.set_cons_zero, List.set_cons_succ])
          | (refine seq_skip (by rfl) ?_; simp only [Act.put, List.setIfInBounds_toArray, List.set_cons_zero, List.set_cons_succ])
          | (refine seq_ret 142 _ (by rfl) (by intro W hS; have s0 := (bat hS (w.heap.size + 1) hlw1 0).trans m0; have s1 := (bat hS (w.heap.size + 1) hlw1 1).trans m1; have s2 := (bat hS (w.heap.size + 1) hlw1 2).trans m2; have s3 := (bat hS (w.heap.size + 3) hlw3 0).trans m3; have s4 := (bat hS _ hew (eo + j)).trans g0; go_simp; first | done | rfl) (fun W hS => hta2 W (hBw.out.then hS)) ?_; simp only [Act.put, List.setIfInBounds_toArray, List.set_cons_zero, List.set_cons_succ])
          | fail
        refine seq_nil (fun W hS => ?_)
        have s0 := (bat hS (w.heap.size + 1) hlw1 0).trans m0
        have s1 := (bat hS (w.heap.size + 1) hlw1 1).trans m1
        have s2 := (bat hS (w.heap.size + 1) hlw1 2).trans m2
        have s3 := (bat hS (w.heap.size + 3) hlw3 0).trans m3
        have s4 := (bat hS _ hew (eo + j)).trans g0
        go_wp2
        go_ret
        exact ⟨rfl, hBw.out.then hS⟩
    · have e : j = args.length := by omega
      subst e
      have hv : R = true := by
        rw [← hrj.out, List.drop_length]; rfl
      subst hv
      go_wp2
      go_ret
      exact ⟨rfl, hBw.out⟩
end Go.Proofs.YtkcgejbnhpccdaaGreat
