import Derived.Test.YtkcgejbnhpccdaaGreatT31
set_option linter.unusedSimpArgs false
set_option linter.unusedVariables false
namespace Go.Proofs.YtkcgejbnhpccdaaGreat
open Go.RowKit
def inP (f : XFunc) (p : XPhi) : Bool := p.ins.all fun id => typeOf f id == p.w
theorem typesB_parts (f : XFunc) (b : XBlock) : typesB f b = (b.phis.all (inP f) && (b.insts.all (typedI f) && typedT f b.term)) := by
  unfold typesB
  rw [Bool.and_assoc]; rfl
theorem term_a {ids n : Int} {t : XTerm} (h : termOk ids n t = true) (hk : t.kind = 1 ∨ t.kind = 3) : 0 ≤ t.a ∧ t.a < ids := by
  unfold termOk isIdB inR at h
  rcases hk with e | e
  · rw [if_pos (by simp [e])] at h
    simp at h; omega
  · rw [if_neg (by simp [e]), if_neg (by simp [e]), if_pos (by simp [e])] at h
    simp at h; omega
theorem phi_ids {ids : Int} {p : XPhi} (h : phiOk ids p = true) : ∀ id ∈ p.ins, 0 ≤ id ∧ id < ids := by
  unfold phiOk at h
  simp only [Bool.and_eq_true, List.all_eq_true] at h
  exact fun id hid => (isIdB_iff _ _).1 (h.2 id hid)
set_option maxRecDepth 20000 in
set_option maxHeartbeats 8000000 in
theorem s_l4Types (f : XFunc) (cs : List Value) (n : Int) (w : World) (hf : KFunc lm w f cs) (hok : funcOk f n = true) : Calls Tryz.prog 102 #[.agg cs.toArray] w (Ret (.bool (typesOk f)) w) := by
  have hf' := Hd.mk hf
  obtain ⟨v1, v2, rfl, hp, hb⟩ := hf
  obtain ⟨A1, c1, rfl, -, hl1, -⟩ := hp.sm
  obtain ⟨A2, c2, rfl, hcap, hl2, hb0⟩ := hb.sm
  clear hp hb
  have hbl := fun o => (Below.refl w.heap.size w).al (Nat.le_refl _) o
  obtain ⟨W0, hW0⟩ : ∃ W0 : World, W0 = w.alloc (.cells #[.slice A1 f.params.length c1, .int .i64 f.ret, .slice A2 f.blocks.length c2] 35) := ⟨_, rfl⟩
  have hB0 : Below w.heap.size w W0 := by rw [hW0]; exact hbl _
  have hz0 : W0.heap.size = w.heap.size + 1 := by rw [hW0]; simp
  have hzf : Hd (∀ o u, [Value.slice A1 f.params.length c1, .int .i64 f.ret, .slice A2 f.blocks.length c2][o]? = some u → W0.cell? ⟨w.heap.size, o, none⟩ = some u) := ⟨fun o u hu => by rw [hW0]; exact new_cell _ _ _ rfl o u (by simpa using hu)⟩
  have hW0' := Hd.mk hW0
  have hB0' := Hd.mk hB0
  have hok' := Hd.mk hok
  have hc60 := (func_fo hok).2.1
  clear hW0 hB0 hok
  generalize hR : typesOk f = R
  have hR' := Hd.mk hR
  clear hR
  unfold typesOk at hR'
  have hty := fun W (hW : Below w.heap.size w W) id (hid : id < countOf f) => s_TypeOfK f _ id n W (KM.mv hf'.out hW) hok'.out (by omega)
  have har := fun i v W (hW : Below w.heap.size w W) (hi : instOk (countOf f) n i = true) (hv : RI lm W v i.args) => s_l4Args f _ i v n W (KM.mv hf'.out hW) hok'.out hi hv
  go_enter Tryz.func102, Tryz.ntmps102
  go_wp2_with fail
  rw [← hW0'.out]
  go_wp2
  go_loopw [3] (fun s3 wr => ∃ k : Nat, k ≤ f.blocks.length ∧ s3 = .int .i64 k ∧ Hd ((f.blocks.take k).all (typesB f) = true) ∧ Hd (Below W0.heap.size W0 wr)) (fun s3 _ => f.blocks.length - (intOf s3).toNat)
  case atStart => exact ⟨0, Nat.zero_le _, rfl, ⟨rfl⟩, ⟨Below.refl _ _⟩⟩
  case round =>
    obtain ⟨k, hk, rfl, hall, hbr⟩ := hrel
    obtain ⟨wo, rfl⟩ : ∃ wo : World, wo = wr := ⟨_, rfl⟩
    have hBw := Hd.mk (hB0'.out.then hbr.out)
    have hzo := hbr.out.size
    have x0 := (bat hbr.out w.heap.size (by omega) 0).trans (hzf.out 0 _ rfl)
    have x1 := (bat hbr.out w.heap.size (by omega) 1).trans (hzf.out 1 _ rfl)
    have x2 := (bat hbr.out w.heap.size (by omega) 2).trans (hzf.out 2 _ rfl)
    by_cases hlt : k < f.blocks.length
    · have hsn := Hd.mk (all_take_snoc (typesB f) f.blocks k hlt)
      have hfl := fun h => Hd.mk (all_false_of (typesB f) f.blocks k hlt h)
      have hbo := Hd.mk (fn_block hok'.out f.blocks[k] (List.getElem_mem hlt))
      obtain ⟨eb, eo, ecs, hA_, heb, ⟨bv1, bv2, rfl, hr_, hr2_⟩, hat_⟩ := (hb0.out).in0 (hBw.out) (k) (hlt)
      cases hA_
      have hew := Nat.lt_of_lt_of_le heb (hBw.out).size
      have g0 := hat_ 0 _ rfl
      have g1 := hat_ 1 _ rfl
      have g2 := hat_ 2 _ rfl
      have g3 := hat_ 3 _ rfl
      have g4 := hat_ 4 _ rfl
      have g5 := hat_ 5 _ rfl
      clear hat_
      simp at g0 g1 g2 g3 g4 g5
      obtain ⟨Ap, cp, rfl, hcp, hlp, hrp⟩ := hr_.sm
      obtain ⟨Ai, ci, rfl, hci, hli, hri⟩ := hr2_.sm
      clear hr_ hr2_
      generalize f.blocks[k] = x at *
      rw [typesB_parts] at hsn hfl
      obtain ⟨wb, hwb⟩ : ∃ wb : World, wb = wo.alloc (.cells #[.slice Ap x.phis.length cp, .slice Ai x.insts.length ci, .int .i64 x.term.kind, .int .i64 x.term.a, .int .i64 x.term.x, .int .i64 x.term.y] 32) := ⟨_, rfl⟩
      have hbB : Hd (Below wo.heap.size wo wb) := ⟨by rw [hwb]; exact (Below.refl wo.heap.size wo).al (Nat.le_refl _) _⟩
      have hbc : Hd (∀ o u, [Value.slice Ap x.phis.length cp, .slice Ai x.insts.length ci, .int .i64 x.term.kind, .int .i64 x.term.a, .int .i64 x.term.x, .int .i64 x.term.y][o]? = some u → wb.cell? ⟨wo.heap.size, o, none⟩ = some u) := ⟨fun o u hu => by rw [hwb]; exact new_cell _ _ _ rfl o u (by simpa using hu)⟩
      have hzb : wb.heap.size = wo.heap.size + 1 := by rw [hwb]; simp
      have hwb' := Hd.mk hwb
      clear hwb
      go_wp2
      rw [← hwb'.out]
      have hBb := Hd.mk (hbr.out.then hbB.out)
      clear x0 x1 x2 g0 g1 g2 g3 g4 g5
      go_loopw [5] (fun s5 wr => ∃ j : Nat, j ≤ x.phis.length ∧ s5 = .int .i64 j ∧ Hd ((x.phis.take j).all (inP f) = true) ∧ Hd (Below wb.heap.size wb wr)) (fun s5 _ => x.phis.length - (intOf s5).toNat)
      case atStart => exact ⟨0, Nat.zero_le _, rfl, ⟨rfl⟩, ⟨Below.refl _ _⟩⟩
      case round =>
        obtain ⟨j, hj, rfl, hallj, hbj⟩ := hrel
        obtain ⟨wj, rfl⟩ : ∃ wj : World, wj = wr := ⟨_, rfl⟩
        have hBj := Hd.mk (hBw.out.then (hbB.out.then hbj.out))
        have hB0j := Hd.mk (hBb.out.then hbj.out)
        have hzj := hbj.out.size
        have y0 := (bat hbj.out wo.heap.size (by omega) 0).trans (hbc.out 0 _ rfl)
        have y1 := (bat hbj.out wo.heap.size (by omega) 1).trans (hbc.out 1 _ rfl)
        by_cases hltj : j < x.phis.length
        · have hpo := Hd.mk (phi_ids (hbo.out.1 x.phis[j] (List.getElem_mem hltj)))
          have hsnj := Hd.mk (all_take_snoc (inP f) x.phis j hltj)
          have hflj := fun h => Hd.mk (all_false_of (inP f) x.phis j hltj h)
          obtain ⟨eb, eo, ecs, hA_, heb, ⟨pv1, rfl, hr_⟩, hat_⟩ := (hrp.out).in0 (hBj.out) (j) (hltj)
          cases hA_
          have hew := Nat.lt_of_lt_of_le heb (hBj.out).size
          have g0 := hat_ 0 _ rfl
          have g1 := hat_ 1 _ rfl
          clear hat_
          simp at g0 g1
          obtain ⟨Ax, cx, rfl, hcx, hlx, hrx⟩ := hr_.sm
          clear hr_
          generalize x.phis[j] = p at *
          have hpe := hew
          have q0 := Hd.mk g0
          have q1 := Hd.mk g1
          clear g0 g1
          have hepj : eb < wj.heap.size := hpe
          go_wp2
          go_loopw [6] (fun s6 wr => ∃ l : Nat, l ≤ p.ins.length ∧ s6 = .int .i64 l ∧ Hd ((p.ins.take l).all (fun id => typeOf f id == p.w) = true) ∧ Hd (Below wj.heap.size wj wr)) (fun s6 _ => p.ins.length - (intOf s6).toNat)
          case atStart => exact ⟨0, Nat.zero_le _, rfl, ⟨rfl⟩, ⟨Below.refl _ _⟩⟩
          case round =>
            obtain ⟨l, hl, rfl, halll, hbl'⟩ := hrel
            have hBl := Hd.mk (hBj.out.then hbl'.out)
            have hB0l := Hd.mk (hB0j.out.then hbl'.out)
            have hzl := hbl'.out.size
            have x0 := (bat hB0l.out w.heap.size (by omega) 0).trans (hzf.out 0 _ rfl)
            have x1 := (bat hB0l.out w.heap.size (by omega) 1).trans (hzf.out 1 _ rfl)
            have x2 := (bat hB0l.out w.heap.size (by omega) 2).trans (hzf.out 2 _ rfl)
            have z0 := (bat (hbj.out.then hbl'.out) wo.heap.size (by omega) 0).trans (hbc.out 0 _ rfl)
            have p0 := (bat hbl'.out eb hepj _).trans q0.out
            have p1 := (bat hbl'.out eb hepj _).trans q1.out
            have hlw : w.heap.size < wr.heap.size := by omega
            have hlo : wo.heap.size < wr.heap.size := by omega
            have hle : eb < wr.heap.size := by omega
            have ej0 : (0 : Int) ≤ (j : Int) := by omega
            have ej1 : (j : Int) < (x.phis.length : Int) := by omega
            have el0 : (0 : Int) ≤ (l : Int) := by omega
            have heb' := heb
            have hew' := hew
            clear y0 y1 hew heb
            by_cases hltl : l < p.ins.length
            · have hid := hpo.out p.ins[l] (List.getElem_mem hltl)
              have hsnl := Hd.mk (all_take_snoc (fun id => typeOf f id == p.w) p.ins l hltl)
              have hfll := fun h => Hd.mk (all_false_of (fun id => typeOf f id == p.w) p.ins l hltl h)
              have el1 : (l : Int) < (p.ins.length : Int) := by omega
              obtain ⟨nb, no, ncs, hA_, hnb, hk_, hat_⟩ := (hrx.out).in0 (hBl.out) l hltl
              cases hA_; cases hk_
              have hnw := Nat.lt_of_lt_of_le hnb hBl.out.size
              have m0 := hat_ 0 _ rfl
              simp at m0
              clear hat_
              generalize p.ins[l] = id at *
              have htl := fun W hW => hty W hW id hid.2
              generalize typeOf f id = T at *
              by_cases he : T = p.w
              · have hall2 := Hd.mk (show (p.ins.take (l + 1)).all (fun id => typeOf f id == p.w) = true by rw [hsnl.out, halll.out, he]; simp)
                have d : (T != p.w) = false := by rw [he]; simp
                clear hsnl hfll he
                go_wp2
                refine wp_region_bel (by kernel_rfl) (by kernel_rfl) ?_
                simp only [List.toList_toArray]
                repeat' first
                  | (refine seq_val (by rfl) (by intro W hS; have s0 := (bat hS w.heap.size hlw 0).trans x0; have s1 := (bat hS w.heap.size hlw 1).trans x1; have s2 := (bat hS w.heap.size hlw 2).trans x2; have t0 := (bat hS wo.heap.size hlo 0).trans z0; have u0 := (bat hS eb hle _).trans p0; have u1 := (bat hS eb hle _).trans p1; have v0 := (bat hS nb hnw _).trans m0; go_simp; first | done | rfl) ?_; simp only [Act.put, List.setIfInBounds_toArray, List.set_cons_zero, List.set_cons_succ])
                  | (refine seq_skip (by rfl) ?_; simp only [Act.put, List.setIfInBounds_toArray, List.set_cons_zero, List.set_cons_succ])
                  | (refine seq_ret 149 _ (by rfl) (by intro W hS; have s0 := (bat hS w.heap.size hlw 0).trans x0; have s1 := (bat hS w.heap.size hlw 1).trans x1; have s2 := (bat hS w.heap.size hlw 2).trans x2; have t0 := (bat hS wo.heap.size hlo 0).trans z0; have u0 := (bat hS eb hle _).trans p0; have u1 := (bat hS eb hle _).trans p1; have v0 := (bat hS nb hnw _).trans m0; go_simp; first | done | rfl) (fun W hS => htl W (hBl.out.then hS)) ?_; simp only [Act.put, List.setIfInBounds_toArray, List.set_cons_zero, List.set_cons_succ])
                  | fail
                refine seq_nil (fun W hS => ?_)
                have s0 := (bat hS w.heap.size hlw 0).trans x0
                have s1 := (bat hS w.heap.size hlw 1).trans x1
                have s2 := (bat hS w.heap.size hlw 2).trans x2
                have t0 := (bat hS wo.heap.size hlo 0).trans z0
                have u0 := (bat hS eb hle _).trans p0
                have u1 := (bat hS eb hle _).trans p1
                have v0 := (bat hS nb hnw _).trans m0
                go_wp2
                go_roundw
                case rel => exact ⟨l + 1, by omega, by go_num, hall2, ⟨hbl'.out.then hS⟩⟩
                case measure => simp [intOf]; omega
              · have hv : R = false := by
                  rw [← hR'.out, (hfl _).out]
                  rw [(hflj (show inP f p = false from (hfll (by simpa using he)).out)).out]; rfl
                have d : (T != p.w) = true := bneT he
                subst hv
                clear hsnl hfll hsnj hflj hsn hfl he
                go_wp2
                refine wp_region_bel (by kernel_rfl) (by kernel_rfl) ?_
                simp only [List.toList_toArray]
                repeat' first
                  | (refine seq_val (by rfl) (by intro W hS; have s0 := (bat hS w.heap.size hlw 0).trans x0; have s1 := (bat hS w.heap.size hlw 1).trans x1; have s2 := (bat hS w.heap.size hlw 2).trans x2; have t0 := (bat hS wo.heap.size hlo 0).trans z0; have u0 := (bat hS eb hle _).trans p0; have u1 := (bat hS eb hle _).trans p1; have v0 := (bat hS nb hnw _).trans m0; go_simp; first | done | rfl) ?_; simp only [Act.put, List.setIfInBounds_toArray, List.set_cons_zero, List.set_cons_succ])
                  | (refine seq_skip (by rfl) ?_; simp only [Act.put, List.setIfInBounds_toArray, List.set_cons_zero, List.set_cons_succ])
                  | (refine seq_ret 149 _ (by rfl) (by intro W hS; have s0 := (bat hS w.heap.size hlw 0).trans x0; have s1 := (bat hS w.heap.size hlw 1).trans x1; have s2 := (bat hS w.heap.size hlw 2).trans x2; have t0 := (bat hS wo.heap.size hlo 0).trans z0; have u0 := (bat hS eb hle _).trans p0; have u1 := (bat hS eb hle _).trans p1; have v0 := (bat hS nb hnw _).trans m0; go_simp; first | done | rfl) (fun W hS => htl W (hBl.out.then hS)) ?_; simp only [Act.put, List.setIfInBounds_toArray, List.set_cons_zero, List.set_cons_succ])
                  | fail
                refine seq_nil (fun W hS => ?_)
                have s0 := (bat hS w.heap.size hlw 0).trans x0
                have s1 := (bat hS w.heap.size hlw 1).trans x1
                have s2 := (bat hS w.heap.size hlw 2).trans x2
                have t0 := (bat hS wo.heap.size hlo 0).trans z0
                have u0 := (bat hS eb hle _).trans p0
                have u1 := (bat hS eb hle _).trans p1
                have v0 := (bat hS nb hnw _).trans m0
                go_wp2
                go_ret
                exact ⟨rfl, hBl.out.then hS⟩
            · have e : l = p.ins.length := by omega
              subst e
              rw [List.take_length] at halll
              have hall2 := Hd.mk (show (x.phis.take (j + 1)).all (inP f) = true by rw [hsnj.out, hallj.out]; exact halll.out)
              clear hsnj hflj
              go_wp2
              go_roundw
              case rel => exact ⟨j + 1, by omega, by go_num, hall2, ⟨hbj.out.then hbl'.out⟩⟩
              case measure => simp [intOf]; omega
        · have e : j = x.phis.length := by omega
          subst e
          rw [List.take_length] at hallj
          go_wp2
          go_loopw [7] (fun s7 wr => ∃ l : Nat, l ≤ x.insts.length ∧ s7 = .int .i64 l ∧ Hd ((x.insts.take l).all (typedI f) = true) ∧ Hd (Below wj.heap.size wj wr)) (fun s7 _ => x.insts.length - (intOf s7).toNat)
          case atStart => exact ⟨0, Nat.zero_le _, rfl, ⟨rfl⟩, ⟨Below.refl _ _⟩⟩
          case round =>
            obtain ⟨l, hl, rfl, halll, hbl'⟩ := hrel
            have hBl := Hd.mk (hBj.out.then hbl'.out)
            have hB0l := Hd.mk (hB0j.out.then hbl'.out)
            have hzl := hbl'.out.size
            have x0 := (bat hB0l.out w.heap.size (by omega) 0).trans (hzf.out 0 _ rfl)
            have x1 := (bat hB0l.out w.heap.size (by omega) 1).trans (hzf.out 1 _ rfl)
            have x2 := (bat hB0l.out w.heap.size (by omega) 2).trans (hzf.out 2 _ rfl)
            have z1 := (bat (hbj.out.then hbl'.out) wo.heap.size (by omega) 1).trans (hbc.out 1 _ rfl)
            have hlw : w.heap.size < wr.heap.size := by omega
            have hlo : wo.heap.size < wr.heap.size := by omega
            have el0 : (0 : Int) ≤ (l : Int) := by omega
            clear y0 y1
            by_cases hltl : l < x.insts.length
            · have hio := hbo.out.2.1 x.insts[l] (List.getElem_mem hltl)
              have hsnl := Hd.mk (all_take_snoc (typedI f) x.insts l hltl)
              have hfll := fun h => Hd.mk (all_false_of (typedI f) x.insts l hltl h)
              have el1 : (l : Int) < (x.insts.length : Int) := by omega
              obtain ⟨eb, eo, ecs, hA_, heb, ⟨iv1, rfl, hr_⟩, hat_⟩ := (hri.out).in0 (hBl.out) (l) (hltl)
              cases hA_
              have hew := Nat.lt_of_lt_of_le heb (hBl.out).size
              have g0 := hat_ 0 _ rfl
              have g1 := hat_ 1 _ rfl
              have g2 := hat_ 2 _ rfl
              have g3 := hat_ 3 _ rfl
              have g4 := hat_ 4 _ rfl
              have g5 := hat_ 5 _ rfl
              have g6 := hat_ 6 _ rfl
              clear hat_
              simp at g0 g1 g2 g3 g4 g5 g6
              obtain ⟨Aa, ca, rfl, hca, hla, hra⟩ := hr_.sm
              clear hr_
              have hle : eb < wr.heap.size := hew
              generalize x.insts[l] = i at *
              have hal := fun W (hW : Below w.heap.size w W) => har i (.slice Aa i.args.length ca) W hW hio (hra.out.mv hW)
              generalize typedI f i = q at *
              obtain ⟨op, wd, a, b, c, imm, args⟩ := i
              simp only [instV] at *
              cases q with
              | true =>
                have hall2 := Hd.mk (show (x.insts.take (l + 1)).all (typedI f) = true by rw [hsnl.out, halll.out]; rfl)
                clear hsnl hfll
                go_wp2
                refine wp_region_bel (by kernel_rfl) (by kernel_rfl) ?_
                simp only [List.toList_toArray]
                repeat' first
                  | (refine seq_val (by rfl) (by intro W hS; have s0 := (bat hS w.heap.size hlw 0).trans x0; have s1 := (bat hS w.heap.size hlw 1).trans x1; have s2 := (bat hS w.heap.size hlw 2).trans x2; have t1 := (bat hS wo.heap.size hlo 1).trans z1; have u0 := (bat hS eb hle _).trans g0; have u1 := (bat hS eb hle _).trans g1; have u2 := (bat hS eb hle _).trans g2; have u3 := (bat hS eb hle _).trans g3; have u4 := (bat hS eb hle _).trans g4; have u5 := (bat hS eb hle _).trans g5; have u6 := (bat hS eb hle _).trans g6; go_simp; first | done | rfl) ?_; simp only [Act.put, List.setIfInBounds_toArray, List.set_cons_zero, List.set_cons_succ])
                  | (refine seq_skip (by rfl) ?_; simp only [Act.put, List.setIfInBounds_toArray, List.set_cons_zero, List.set_cons_succ])
                  | (refine seq_ret 150 _ (by rfl) (by intro W hS; have s0 := (bat hS w.heap.size hlw 0).trans x0; have s1 := (bat hS w.heap.size hlw 1).trans x1; have s2 := (bat hS w.heap.size hlw 2).trans x2; have t1 := (bat hS wo.heap.size hlo 1).trans z1; have u0 := (bat hS eb hle _).trans g0; have u1 := (bat hS eb hle _).trans g1; have u2 := (bat hS eb hle _).trans g2; have u3 := (bat hS eb hle _).trans g3; have u4 := (bat hS eb hle _).trans g4; have u5 := (bat hS eb hle _).trans g5; have u6 := (bat hS eb hle _).trans g6; go_simp; first | done | rfl) (fun W hS => hal W (hBl.out.then hS)) ?_; simp only [Act.put, List.setIfInBounds_toArray, List.set_cons_zero, List.set_cons_succ])
                  | fail
                refine seq_nil (fun W hS => ?_)
                have s0 := (bat hS w.heap.size hlw 0).trans x0
                have s1 := (bat hS w.heap.size hlw 1).trans x1
                have s2 := (bat hS w.heap.size hlw 2).trans x2
                have t1 := (bat hS wo.heap.size hlo 1).trans z1
                have u0 := (bat hS eb hle _).trans g0
                have u1 := (bat hS eb hle _).trans g1
                have u2 := (bat hS eb hle _).trans g2
                have u3 := (bat hS eb hle _).trans g3
                have u4 := (bat hS eb hle _).trans g4
                have u5 := (bat hS eb hle _).trans g5
                have u6 := (bat hS eb hle _).trans g6
                go_wp2
                go_roundw
                case rel => exact ⟨l + 1, by omega, by go_num, hall2, ⟨hbl'.out.then hS⟩⟩
                case measure => simp [intOf]; omega
              | false =>
                have hv : R = false := by
                  rw [← hR'.out, (hfl _).out]
                  rw [(hfll rfl).out, Bool.false_and, Bool.and_false]
                subst hv
                clear hsnl hfll hsn hfl
                go_wp2
                refine wp_region_bel (by kernel_rfl) (by kernel_rfl) ?_
                simp only [List.toList_toArray]
                repeat' first
                  | (refine seq_val (by rfl) (by intro W hS; have s0 := (bat hS w.heap.size hlw 0).trans x0; have s1 := (bat hS w.heap.size hlw 1).trans x1; have s2 := (bat hS w.heap.size hlw 2).trans x2; have t1 := (bat hS wo.heap.size hlo 1).trans z1; have u0 := (bat hS eb hle _).trans g0; have u1 := (bat hS eb hle _).trans g1; have u2 := (bat hS eb hle _).trans g2; have u3 := (bat hS eb hle _).trans g3; have u4 := (bat hS eb hle _).trans g4; have u5 := (bat hS eb hle _).trans g5; have u6 := (bat hS eb hle _).trans g6; go_simp; first | done | rfl) ?_; simp only [Act.put, List.setIfInBounds_toArray, List.set_cons_zero, List.set_cons_succ])
                  | (refine seq_skip (by rfl) ?_; simp only [Act.put, List.setIfInBounds_toArray, List.set_cons_zero, List.set_cons_succ])
                  | (refine seq_ret 150 _ (by rfl) (by intro W hS; have s0 := (bat hS w.heap.size hlw 0).trans x0; have s1 := (bat hS w.heap.size hlw 1).trans x1; have s2 := (bat hS w.heap.size hlw 2).trans x2; have t1 := (bat hS wo.heap.size hlo 1).trans z1; have u0 := (bat hS eb hle _).trans g0; have u1 := (bat hS eb hle _).trans g1; have u2 := (bat hS eb hle _).trans g2; have u3 := (bat hS eb hle _).trans g3; have u4 := (bat hS eb hle _).trans g4; have u5 := (bat hS eb hle _).trans g5; have u6 := (bat hS eb hle _).trans g6; go_simp; first | done | rfl) (fun W hS => hal W (hBl.out.then hS)) ?_; simp only [Act.put, List.setIfInBounds_toArray, List.set_cons_zero, List.set_cons_succ])
                  | fail
                refine seq_nil (fun W hS => ?_)
                have s0 := (bat hS w.heap.size hlw 0).trans x0
                have s1 := (bat hS w.heap.size hlw 1).trans x1
                have s2 := (bat hS w.heap.size hlw 2).trans x2
                have t1 := (bat hS wo.heap.size hlo 1).trans z1
                have u0 := (bat hS eb hle _).trans g0
                have u1 := (bat hS eb hle _).trans g1
                have u2 := (bat hS eb hle _).trans g2
                have u3 := (bat hS eb hle _).trans g3
                have u4 := (bat hS eb hle _).trans g4
                have u5 := (bat hS eb hle _).trans g5
                have u6 := (bat hS eb hle _).trans g6
                go_wp2
                go_ret
                exact ⟨rfl, hBl.out.then hS⟩
            · have e : l = x.insts.length := by omega
              subst e
              rw [List.take_length] at halll
              have z2 := (bat (hbj.out.then hbl'.out) wo.heap.size (by omega) 2).trans (hbc.out 2 _ rfl)
              have z3 := (bat (hbj.out.then hbl'.out) wo.heap.size (by omega) 3).trans (hbc.out 3 _ rfl)
              have hta := Hd.mk (fun h => term_a hbo.out.2.2 h)
              rw [show x.phis.all (inP f) = true from hallj.out, show x.insts.all (typedI f) = true from halll.out, Bool.true_and, Bool.true_and] at hsn hfl
              have hpass := fun (h : typedT f x.term = true) => Hd.mk (show (f.blocks.take (k + 1)).all (typesB f) = true by rw [hsn.out, hall.out, h]; rfl)
              have hfail := fun (h : typedT f x.term = false) => Hd.mk (hR'.out.symm.trans (hfl h).out)
              have hB0n := Hd.mk hB0l.out
              clear hsn hfl
              generalize x.term = t at *
              obtain ⟨tk, ta, tx, ty⟩ := t
              unfold typedT at hpass hfail
              simp only at hpass hfail hta z2 z3
              have htT := fun W hW (h : ta < countOf f) => hty W hW ta h
              clear hty har
              by_cases k1 : tk = 1
              · subst k1
                have htl := fun W hW => htT W hW (hta.out (.inl rfl)).2
                generalize typeOf f ta = T at *
                clear htT
                by_cases ht : T = f.ret
                · have hps := hpass (by simp [ht])
                  have d0 : (T != f.ret) = false := by simp [ht]
                  clear hpass hfail ht
                  go_wp2
                  refine wp_region_bel (by kernel_rfl) (by kernel_rfl) ?_
                  simp only [List.toList_toArray]
                  repeat' first
                    | (refine seq_val (by rfl) (by intro W hS; have s0 := (bat hS w.heap.size hlw 0).trans x0; have s1 := (bat hS w.heap.size hlw 1).trans x1; have s2 := (bat hS w.heap.size hlw 2).trans x2; have t2 := (bat hS wo.heap.size hlo 2).trans z2; have t3 := (bat hS wo.heap.size hlo 3).trans z3; go_simp; first | done | rfl) ?_; simp only [Act.put, List.setIfInBounds_toArray, List.set_cons_zero, List.set_cons_succ])
                    | (refine seq_skip (by rfl) ?_; simp only [Act.put, List.setIfInBounds_toArray, List.set_cons_zero, List.set_cons_succ])
                    | (refine seq_ret 149 _ (by rfl) (by intro W hS; have s0 := (bat hS w.heap.size hlw 0).trans x0; have s1 := (bat hS w.heap.size hlw 1).trans x1; have s2 := (bat hS w.heap.size hlw 2).trans x2; have t2 := (bat hS wo.heap.size hlo 2).trans z2; have t3 := (bat hS wo.heap.size hlo 3).trans z3; go_simp; first | done | rfl) (fun W hS => htl W (hBl.out.then hS)) ?_; simp only [Act.put, List.setIfInBounds_toArray, List.set_cons_zero, List.set_cons_succ])
                    | fail
                  refine seq_nil (fun W hS => ?_)
                  have s0 := (bat hS w.heap.size hlw 0).trans x0
                  have s1 := (bat hS w.heap.size hlw 1).trans x1
                  have s2 := (bat hS w.heap.size hlw 2).trans x2
                  have t2 := (bat hS wo.heap.size hlo 2).trans z2
                  have t3 := (bat hS wo.heap.size hlo 3).trans z3
                  go_wp2
                  go_roundw
                  case rel => exact ⟨k + 1, by omega, by go_num, hps, ⟨hB0n.out.then hS⟩⟩
                  case measure => simp [intOf]; omega
                · have hv : R = false := (hfail (by simp [ht])).out
                  have d0 := bneT ht
                  subst hv
                  clear hpass hfail
                  go_wp2
                  refine wp_region_bel (by kernel_rfl) (by kernel_rfl) ?_
                  simp only [List.toList_toArray]
                  repeat' first
                    | (refine seq_val (by rfl) (by intro W hS; have s0 := (bat hS w.heap.size hlw 0).trans x0; have s1 := (bat hS w.heap.size hlw 1).trans x1; have s2 := (bat hS w.heap.size hlw 2).trans x2; have t2 := (bat hS wo.heap.size hlo 2).trans z2; have t3 := (bat hS wo.heap.size hlo 3).trans z3; go_simp; first | done | rfl) ?_; simp only [Act.put, List.setIfInBounds_toArray, List.set_cons_zero, List.set_cons_succ])
                    | (refine seq_skip (by rfl) ?_; simp only [Act.put, List.setIfInBounds_toArray, List.set_cons_zero, List.set_cons_succ])
                    | (refine seq_ret 149 _ (by rfl) (by intro W hS; have s0 := (bat hS w.heap.size hlw 0).trans x0; have s1 := (bat hS w.heap.size hlw 1).trans x1; have s2 := (bat hS w.heap.size hlw 2).trans x2; have t2 := (bat hS wo.heap.size hlo 2).trans z2; have t3 := (bat hS wo.heap.size hlo 3).trans z3; go_simp; first | done | rfl) (fun W hS => htl W (hBl.out.then hS)) ?_; simp only [Act.put, List.setIfInBounds_toArray, List.set_cons_zero, List.set_cons_succ])
                    | fail
                  refine seq_nil (fun W hS => ?_)
                  have s0 := (bat hS w.heap.size hlw 0).trans x0
                  have s1 := (bat hS w.heap.size hlw 1).trans x1
                  have s2 := (bat hS w.heap.size hlw 2).trans x2
                  have t2 := (bat hS wo.heap.size hlo 2).trans z2
                  have t3 := (bat hS wo.heap.size hlo 3).trans z3
                  go_wp2
                  go_ret
                  exact ⟨rfl, hBl.out.then hS⟩
              have b1 := beqF k1
              by_cases k3 : tk = 3
              · subst k3
                have htl := fun W hW => htT W hW (hta.out (.inr rfl)).2
                generalize typeOf f ta = T at *
                clear htT
                by_cases ht : T = 1
                · have hps := hpass (by simp [ht])
                  have d0 : (T != 1) = false := by simp [ht]
                  clear hpass hfail ht
                  go_wp2
                  refine wp_region_bel (by kernel_rfl) (by kernel_rfl) ?_
                  simp only [List.toList_toArray]
                  repeat' first
                    | (refine seq_val (by rfl) (by intro W hS; have s0 := (bat hS w.heap.size hlw 0).trans x0; have s1 := (bat hS w.heap.size hlw 1).trans x1; have s2 := (bat hS w.heap.size hlw 2).trans x2; have t2 := (bat hS wo.heap.size hlo 2).trans z2; have t3 := (bat hS wo.heap.size hlo 3).trans z3; go_simp; first | done | rfl) ?_; simp only [Act.put, List.setIfInBounds_toArray, List.set_cons_zero, List.set_cons_succ])
                    | (refine seq_skip (by rfl) ?_; simp only [Act.put, List.setIfInBounds_toArray, List.set_cons_zero, List.set_cons_succ])
                    | (refine seq_ret 149 _ (by rfl) (by intro W hS; have s0 := (bat hS w.heap.size hlw 0).trans x0; have s1 := (bat hS w.heap.size hlw 1).trans x1; have s2 := (bat hS w.heap.size hlw 2).trans x2; have t2 := (bat hS wo.heap.size hlo 2).trans z2; have t3 := (bat hS wo.heap.size hlo 3).trans z3; go_simp; first | done | rfl) (fun W hS => htl W (hBl.out.then hS)) ?_; simp only [Act.put, List.setIfInBounds_toArray, List.set_cons_zero, List.set_cons_succ])
                    | fail
                  refine seq_nil (fun W hS => ?_)
                  have s0 := (bat hS w.heap.size hlw 0).trans x0
                  have s1 := (bat hS w.heap.size hlw 1).trans x1
                  have s2 := (bat hS w.heap.size hlw 2).trans x2
                  have t2 := (bat hS wo.heap.size hlo 2).trans z2
                  have t3 := (bat hS wo.heap.size hlo 3).trans z3
                  go_wp2
                  go_roundw
                  case rel => exact ⟨k + 1, by omega, by go_num, hps, ⟨hB0n.out.then hS⟩⟩
                  case measure => simp [intOf]; omega
                · have hv : R = false := (hfail (by simp [ht])).out
                  have d0 := bneT ht
                  subst hv
                  clear hpass hfail
                  go_wp2
                  refine wp_region_bel (by kernel_rfl) (by kernel_rfl) ?_
                  simp only [List.toList_toArray]
                  repeat' first
                    | (refine seq_val (by rfl) (by intro W hS; have s0 := (bat hS w.heap.size hlw 0).trans x0; have s1 := (bat hS w.heap.size hlw 1).trans x1; have s2 := (bat hS w.heap.size hlw 2).trans x2; have t2 := (bat hS wo.heap.size hlo 2).trans z2; have t3 := (bat hS wo.heap.size hlo 3).trans z3; go_simp; first | done | rfl) ?_; simp only [Act.put, List.setIfInBounds_toArray, List.set_cons_zero, List.set_cons_succ])
                    | (refine seq_skip (by rfl) ?_; simp only [Act.put, List.setIfInBounds_toArray, List.set_cons_zero, List.set_cons_succ])
                    | (refine seq_ret 149 _ (by rfl) (by intro W hS; have s0 := (bat hS w.heap.size hlw 0).trans x0; have s1 := (bat hS w.heap.size hlw 1).trans x1; have s2 := (bat hS w.heap.size hlw 2).trans x2; have t2 := (bat hS wo.heap.size hlo 2).trans z2; have t3 := (bat hS wo.heap.size hlo 3).trans z3; go_simp; first | done | rfl) (fun W hS => htl W (hBl.out.then hS)) ?_; simp only [Act.put, List.setIfInBounds_toArray, List.set_cons_zero, List.set_cons_succ])
                    | fail
                  refine seq_nil (fun W hS => ?_)
                  have s0 := (bat hS w.heap.size hlw 0).trans x0
                  have s1 := (bat hS w.heap.size hlw 1).trans x1
                  have s2 := (bat hS w.heap.size hlw 2).trans x2
                  have t2 := (bat hS wo.heap.size hlo 2).trans z2
                  have t3 := (bat hS wo.heap.size hlo 3).trans z3
                  go_wp2
                  go_ret
                  exact ⟨rfl, hBl.out.then hS⟩
              have b3 := beqF k3
              have hps := hpass (by simp [k1, k3])
              clear hpass hfail htT
              go_wp2
              refine wp_region_bel (by kernel_rfl) (by kernel_rfl) ?_
              simp only [List.toList_toArray]
              repeat' first
                | (refine seq_val (by rfl) (by intro W hS; have s0 := (bat hS w.heap.size hlw 0).trans x0; have s1 := (bat hS w.heap.size hlw 1).trans x1; have s2 := (bat hS w.heap.size hlw 2).trans x2; have t2 := (bat hS wo.heap.size hlo 2).trans z2; have t3 := (bat hS wo.heap.size hlo 3).trans z3; go_simp; first | done | rfl) ?_; simp only [Act.put, List.setIfInBounds_toArray, List.set_cons_zero, List.set_cons_succ])
                | (refine seq_skip (by rfl) ?_; simp only [Act.put, List.setIfInBounds_toArray, List.set_cons_zero, List.set_cons_succ])
                | fail
              refine seq_nil (fun W hS => ?_)
              have s0 := (bat hS w.heap.size hlw 0).trans x0
              have s1 := (bat hS w.heap.size hlw 1).trans x1
              have s2 := (bat hS w.heap.size hlw 2).trans x2
              have t2 := (bat hS wo.heap.size hlo 2).trans z2
              have t3 := (bat hS wo.heap.size hlo 3).trans z3
              go_wp2
              go_roundw
              case rel => exact ⟨k + 1, by omega, by go_num, hps, ⟨hB0n.out.then hS⟩⟩
              case measure => simp [intOf]; omega
    · have e : k = f.blocks.length := by omega
      subst e
      rw [List.take_length] at hall
      have hv := hR'.out.symm.trans hall.out
      subst hv
      go_wp2
      go_ret
      exact ⟨rfl, hBw.out⟩
end Go.Proofs.YtkcgejbnhpccdaaGreat
