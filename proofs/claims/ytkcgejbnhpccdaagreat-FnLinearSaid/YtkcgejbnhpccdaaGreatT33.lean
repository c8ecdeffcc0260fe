import Derived.Test.YtkcgejbnhpccdaaGreatT32
set_option linter.unusedSimpArgs false
set_option linter.unusedVariables false
namespace Go.Proofs.YtkcgejbnhpccdaaGreat
open Go.RowKit
def fitK (f : XFunc) (xs ws : List Int) (k : Nat) : Bool := typeOf f (xs.getD k 0) == ws.getD k 0
theorem fits2_range (f : XFunc) : ∀ (xs ws : List Int), xs.length = ws.length → fits2 f xs ws = (List.range xs.length).all (fitK f xs ws)
  | [], ws, _ => by cases ws <;> rfl
  | a :: r, [], h => by simp at h
  | a :: r, w :: ws, h => by
    rw [List.length_cons, List.range_succ_eq_map, List.all_cons, List.all_map]
    have ih := fits2_range f r ws (by simpa using h)
    show (typeOf f a == w && fits2 f r ws) = _
    rw [ih]; rfl
def ciB (m : XMod) (f : XFunc) (i : XInst) : Bool := !(i.op == 26 && !callOk m f i)
theorem callsB_all (m : XMod) (f : XFunc) (b : XBlock) : callsB m f b = b.insts.all (ciB m f) := rfl
theorem ciB_26 (m : XMod) (f : XFunc) (i : XInst) (h : i.op = 26) : ciB m f i = callOk m f i := by unfold ciB; rw [h]; simp
theorem ciB_no (m : XMod) (f : XFunc) (i : XInst) (h : i.op ≠ 26) : ciB m f i = true := by unfold ciB; rw [beqF h]; rfl
theorem callOk_at (m : XMod) (f : XFunc) (i : XInst) (g : XFunc) (hg : m.funcs.getD i.imm.toNat func0 = g) : callOk m f i = (i.w == g.ret && (i.args.length == g.params.length && fits2 f i.args g.params)) := by
  unfold callOk
  rw [hg, Bool.and_assoc]
def callOkP (f : XFunc) (i : XInst) (g : XFunc) : Bool := i.w == g.ret && (i.args.length == g.params.length && fits2 f i.args g.params)
theorem inst_args {ids n : Int} {i : XInst} (h : instOk ids n i = true) (h26 : i.op = 26) : ∀ id ∈ i.args, 0 ≤ id ∧ id < ids := by
  have h1 := (inst_parts h).2.1
  have : opsOf i = i.args := by unfold opsOf bin cst inR; rw [h26]; simp
  rwa [this] at h1
set_option maxRecDepth 20000 in
set_option maxHeartbeats 8000000 in
theorem s_l4Calls (m : XMod) (cm : List Value) (f : XFunc) (cs : List Value) (n : Int) (w : World) (hm : KMod lm w m cm) (hf : KFunc lm w f cs) (hok : funcOk f n = true) (hqc : ∀ b ∈ f.blocks, ∀ i ∈ b.insts, QCall m i) :
    Calls Tryz.prog 103 #[.agg cm.toArray, .agg cs.toArray] w (Ret (.bool (callsOk m f)) w) := by
  have hm' := Hd.mk hm
  have hf' := Hd.mk hf
  obtain ⟨vm, rfl, hrm⟩ := hm
  obtain ⟨Am, cm, rfl, hcm, hlm, hm0⟩ := hrm.sm
  obtain ⟨v1, v2, rfl, hp, hb⟩ := hf
  obtain ⟨A1, c1, rfl, -, hl1, -⟩ := hp.sm
  obtain ⟨A2, c2, rfl, hcap, hl2, hb0⟩ := hb.sm
  clear hp hb hrm
  have hbl := fun o o' => ((Below.refl w.heap.size w).al (Nat.le_refl _) o).al (by simp) o'
  obtain ⟨W0, hW0⟩ : ∃ W0 : World, W0 = (w.alloc (.cells #[.slice Am m.funcs.length cm] 38)).alloc (.cells #[.slice A1 f.params.length c1, .int .i64 f.ret, .slice A2 f.blocks.length c2] 35) := ⟨_, rfl⟩
  have hB0 : Below w.heap.size w W0 := by rw [hW0]; exact hbl _ _
  have hz0 : W0.heap.size = w.heap.size + 2 := by rw [hW0]; simp
  have hmc : Hd (W0.cell? ⟨w.heap.size, 0, none⟩ = some (.slice Am m.funcs.length cm)) := ⟨by rw [hW0]; simp⟩
  have hzf : Hd (∀ o u, [Value.slice A1 f.params.length c1, .int .i64 f.ret, .slice A2 f.blocks.length c2][o]? = some u → W0.cell? ⟨w.heap.size + 1, o, none⟩ = some u) := ⟨fun o u hu => by rw [hW0]; exact new_cell _ _ _ (by simp) o u (by simpa using hu)⟩
  have hW0' := Hd.mk hW0
  have hB0' := Hd.mk hB0
  have hok' := Hd.mk hok
  have hqc' := Hd.mk hqc
  have hc60 := (func_fo hok).2.1
  clear hW0 hB0 hok hqc
  generalize hR : callsOk m f = R
  have hR' := Hd.mk hR
  clear hR
  rw [callsOk_all] at hR'
  have hty := fun W (hW : Below w.heap.size w W) id (hid : id < countOf f) => s_TypeOfK f _ id n W (KM.mv hf'.out hW) hok'.out (by omega)
  go_enter Tryz.func103, Tryz.ntmps103
  go_wp2_with fail
  rw [← hW0'.out]
  go_wp2
  go_loopw [5] (fun s5 wr => ∃ k : Nat, k ≤ f.blocks.length ∧ s5 = .int .i64 k ∧ Hd ((f.blocks.take k).all (callsB m f) = true) ∧ Hd (Below W0.heap.size W0 wr)) (fun s5 _ => f.blocks.length - (intOf s5).toNat)
  case atStart => exact ⟨0, Nat.zero_le _, rfl, ⟨rfl⟩, ⟨Below.refl _ _⟩⟩
  case round =>
    obtain ⟨k, hk, rfl, hall, hbr⟩ := hrel
    obtain ⟨wo, rfl⟩ : ∃ wo : World, wo = wr := ⟨_, rfl⟩
    have hBw := Hd.mk (hB0'.out.then hbr.out)
    have hzo := hbr.out.size
    have x2 := (bat hbr.out (w.heap.size + 1) (by omega) 2).trans (hzf.out 2 _ rfl)
    by_cases hlt : k < f.blocks.length
    · have hsn := Hd.mk (all_take_snoc (callsB m f) f.blocks k hlt)
      have hfl := fun h => Hd.mk (all_false_of (callsB m f) f.blocks k hlt h)
      have hbo := Hd.mk (fn_block hok'.out f.blocks[k] (List.getElem_mem hlt)).2.1
      have hqo := Hd.mk (hqc'.out f.blocks[k] (List.getElem_mem hlt))
      obtain ⟨eb, eo, ecs, hA_, heb, ⟨bv1, bv2, rfl, hr_, hr2_⟩, hat_⟩ := (hb0.out).in0 (hBw.out) (k) (hlt)
      cases hA_
      have hew := Nat.lt_of_lt_of_le heb (hBw.out).size
      have g0 := hat_ 0 _ rfl
      have g1 := hat_ 1 _ rfl
      have g2 := hat_ 2 _ rfl
      have g3 := hat_ 3 _ rfl
      have g4 := hat_ 4 _ rfl
      have g5 := hat_ 5 _ rfl
      clear hat_
      simp at g0 g1 g2 g3 g4 g5
      obtain ⟨Ap, cp, rfl, hcp, hlp, hrp⟩ := hr_.sm
      obtain ⟨Ai, ci, rfl, hci, hli, hri⟩ := hr2_.sm
      clear hr_ hr2_
      generalize f.blocks[k] = x at *
      rw [callsB_all] at hsn hfl
      have hbe := hew
      have b1 := Hd.mk g1
      have ek1 : (k : Int) < (f.blocks.length : Int) := by omega
      have ek0 : (0 : Int) ≤ (k : Int) := by omega
      go_wp2
      clear x2 g0 g1 g2 g3 g4 g5 heb hew
      go_loopw [6] (fun s6 wr => ∃ j : Nat, j ≤ x.insts.length ∧ s6 = .int .i64 j ∧ Hd ((x.insts.take j).all (ciB m f) = true) ∧ Hd (Below wo.heap.size wo wr)) (fun s6 _ => x.insts.length - (intOf s6).toNat)
      case atStart => exact ⟨0, Nat.zero_le _, rfl, ⟨rfl⟩, ⟨Below.refl _ _⟩⟩
      case round =>
        obtain ⟨j, hj, rfl, hallj, hbj⟩ := hrel
        obtain ⟨wj, rfl⟩ : ∃ wj : World, wj = wr := ⟨_, rfl⟩
        have hBj := Hd.mk (hBw.out.then hbj.out)
        have hB0j := Hd.mk (hbr.out.then hbj.out)
        have hzj := hbj.out.size
        have x2 := (bat hB0j.out (w.heap.size + 1) (by omega) 2).trans (hzf.out 2 _ rfl)
        have y1 := (bat hbj.out eb hbe _).trans b1.out
        have hej : eb < wj.heap.size := by omega
        by_cases hltj : j < x.insts.length
        · have hio := Hd.mk (hbo.out x.insts[j] (List.getElem_mem hltj))
          have hqi := Hd.mk (hqo.out x.insts[j] (List.getElem_mem hltj))
          have hsnj := Hd.mk (all_take_snoc (ciB m f) x.insts j hltj)
          have hflj := fun h => Hd.mk (all_false_of (ciB m f) x.insts j hltj h)
          obtain ⟨ib, io, ics, hA_, hib, ⟨iv1, rfl, hr_⟩, hat_⟩ := (hri.out).in0 (hBj.out) (j) (hltj)
          cases hA_
          have hiw := Nat.lt_of_lt_of_le hib (hBj.out).size
          obtain ⟨Aa, ca, rfl, hca, hla, hra⟩ := hr_.sm
          have g0 := hat_ 0 _ rfl
          have g1 := hat_ 1 _ rfl
          have g2 := hat_ 2 _ rfl
          have g3 := hat_ 3 _ rfl
          have g4 := hat_ 4 _ rfl
          have g5 := hat_ 5 _ rfl
          have g6 := hat_ 6 _ rfl
          clear hat_ hr_
          simp at g0 g1 g2 g3 g4 g5 g6
          generalize x.insts[j] = i at *
          obtain ⟨wi, hwi⟩ : ∃ wi : World, wi = wj.alloc (.cells #[.int .i64 i.op, .int .i64 i.w, .int .i64 i.a, .int .i64 i.b, .int .i64 i.c, .int .i64 i.imm, .slice Aa i.args.length ca] 26) := ⟨_, rfl⟩
          have hbi : Hd (Below wj.heap.size wj wi) := ⟨by rw [hwi]; exact (Below.refl wj.heap.size wj).al (Nat.le_refl _) _⟩
          have hic : Hd (∀ o u, [Value.int .i64 i.op, .int .i64 i.w, .int .i64 i.a, .int .i64 i.b, .int .i64 i.c, .int .i64 i.imm, .slice Aa i.args.length ca][o]? = some u → wi.cell? ⟨wj.heap.size, o, none⟩ = some u) := ⟨fun o u hu => by rw [hwi]; exact new_cell _ _ _ rfl o u (by simpa using hu)⟩
          have hzi : wi.heap.size = wj.heap.size + 1 := by rw [hwi]; simp
          have hwi' := Hd.mk hwi
          clear hwi
          have hBi := Hd.mk (hBj.out.then hbi.out)
          have hB0i := Hd.mk (hB0j.out.then hbi.out)
          have e0 := hic.out 0 _ rfl
          have e1 := hic.out 1 _ rfl
          have e5 := hic.out 5 _ rfl
          have e6 := hic.out 6 _ rfl
          by_cases h26 : i.op = 26
          · obtain ⟨q0, q1⟩ := hqi.out h26
            have hio' := Hd.mk (inst_args hio.out h26)
            rw [ciB_26 m f i h26] at hsnj hflj
            obtain ⟨gb, go, gcs, hA_, hgb, ⟨fv1, fv2, rfl, hr_, hr2_⟩, hat_⟩ := (hm0.out).in0 (hBj.out) (i.imm.toNat) (by omega)
            cases hA_
            have hgw := Nat.lt_of_lt_of_le hgb (hBj.out).size
            obtain ⟨Af, cf, rfl, hcf, hlf, hrf⟩ := hr_.sm
            obtain ⟨Ab, cb, rfl, hcb, hlb, hrb⟩ := hr2_.sm
            have m0 := (bat hB0j.out w.heap.size (by omega) 0).trans hmc.out
            have d0 := hat_ 0 _ rfl
            have d1 := hat_ 1 _ rfl
            have d2 := hat_ 2 _ rfl
            clear hat_ hr_ hr2_
            simp at d0 d1 d2
            have hco := callOk_at m f i m.funcs[i.imm.toNat] (getD_get _ _ _ (by omega))
            rw [hco] at hsnj hflj
            clear hco
            generalize m.funcs[i.imm.toNat] = g at *
            obtain ⟨wg, hwg⟩ : ∃ wg : World, wg = wi.alloc (.cells #[.slice Af g.params.length cf, .int .i64 g.ret, .slice Ab g.blocks.length cb] 35) := ⟨_, rfl⟩
            have hbg : Hd (Below wi.heap.size wi wg) := ⟨by rw [hwg]; exact (Below.refl wi.heap.size wi).al (Nat.le_refl _) _⟩
            have hgc : Hd (∀ o u, [Value.slice Af g.params.length cf, .int .i64 g.ret, .slice Ab g.blocks.length cb][o]? = some u → wg.cell? ⟨wi.heap.size, o, none⟩ = some u) := ⟨fun o u hu => by rw [hwg]; exact new_cell _ _ _ rfl o u (by simpa using hu)⟩
            have hzg : wg.heap.size = wi.heap.size + 1 := by rw [hwg]; simp
            have hwg' := Hd.mk hwg
            clear hwg
            have hBg := Hd.mk (hBi.out.then hbg.out)
            have hB0g := Hd.mk (hB0i.out.then hbg.out)
            have hfail := fun (h : callOkP f i g = false) => Hd.mk (show R = false by rw [← hR'.out]; exact (hfl (hflj h).out).out)
            have hpass := fun (h : callOkP f i g = true) => Hd.mk (show (x.insts.take (j + 1)).all (ciB m f) = true by rw [hsnj.out, hallj.out, Bool.true_and]; exact h)
            clear hsnj hflj
            unfold callOkP at hfail hpass
            have hgw1 : gb < wj.heap.size + 1 := by omega
            have hiw1 : ib < wj.heap.size + 1 := by omega
            have hwj1 : w.heap.size < wj.heap.size := by omega
            have hwj2 : w.heap.size < wj.heap.size + 1 := by omega
            have o26 : (i.op != 26) = false := by rw [h26]; rfl
            clear h26
            have l1 := (bat hbg.out wj.heap.size (by omega) 1).trans e1
            have l6 := (bat hbg.out wj.heap.size (by omega) 6).trans e6
            have f0 := hgc.out 0 _ rfl
            have f1 := hgc.out 1 _ rfl
            rw [hzi] at f0 f1
            by_cases hw : i.w = g.ret
            · have dw : (i.w != g.ret) = false := by rw [hw]; simp
              by_cases hl : i.args.length = g.params.length
              · have dl : ((i.args.length : Int) != (g.params.length : Int)) = false := by rw [hl]; simp
                rw [fits2_range f _ _ hl, show (i.w == g.ret) = true by rw [hw]; simp, show (i.args.length == g.params.length) = true by rw [hl]; simp, Bool.true_and, Bool.true_and] at hfail hpass
                have hl' := Hd.mk hl
                clear hl hw
                go_wp2
                rw [← hwi'.out, ← hwg'.out]
                go_loopw [9] (fun s9 wr => ∃ l : Nat, l ≤ i.args.length ∧ s9 = .int .i64 l ∧ Hd ((List.range l).all (fitK f i.args g.params) = true) ∧ Hd (Below wg.heap.size wg wr)) (fun s9 _ => i.args.length - (intOf s9).toNat)
                case atStart => exact ⟨0, Nat.zero_le _, rfl, ⟨rfl⟩, ⟨Below.refl _ _⟩⟩
                case round =>
                  obtain ⟨l, hl, rfl, halll, hbl'⟩ := hrel
                  have hBl := Hd.mk (hBg.out.then hbl'.out)
                  have hB0l := Hd.mk (hB0g.out.then hbl'.out)
                  have hzl := hbl'.out.size
                  have x0 := (bat hB0l.out (w.heap.size + 1) (by omega) 0).trans (hzf.out 0 _ rfl)
                  have x1 := (bat hB0l.out (w.heap.size + 1) (by omega) 1).trans (hzf.out 1 _ rfl)
                  have x2 := (bat hB0l.out (w.heap.size + 1) (by omega) 2).trans (hzf.out 2 _ rfl)
                  have a6 := (bat hbl'.out wj.heap.size (by omega) 6).trans l6
                  have a0 := (bat hbl'.out (wj.heap.size + 1) (by omega) 0).trans f0
                  have hlw : w.heap.size + 1 < wr.heap.size := by omega
                  have hlj : wj.heap.size < wr.heap.size := by omega
                  have hli : wj.heap.size + 1 < wr.heap.size := by omega
                  have el0 : (0 : Int) ≤ (l : Int) := by omega
                  clear e0 e1 e5 e6 l1 l6 f0 f1 m0 d0 d1 d2 g0 g1 g2 g3 g4 g5 g6 y1
                  by_cases hltl : l < i.args.length
                  · have hltp : l < g.params.length := by have := hl'.out; omega
                    have hid := hio'.out i.args[l] (List.getElem_mem hltl)
                    have hsnl := Hd.mk (range_all_snoc (fitK f i.args g.params) l)
                    have hfll := fun h => Hd.mk (range_all_fail (fitK f i.args g.params) i.args.length l hltl h)
                    have hfk : fitK f i.args g.params l = (typeOf f i.args[l] == g.params[l]) := by unfold fitK; rw [getD_get _ l 0 hltl, getD_get _ l 0 hltp]
                    rw [hfk] at hsnl hfll
                    clear hfk
                    have el1 : (l : Int) < (i.args.length : Int) := by omega
                    have el2 : (l : Int) < (g.params.length : Int) := by omega
                    obtain ⟨nb, no, ncs, hA_, hnb, hk_, hat_⟩ := (hra.out).in0 (hBl.out) l hltl
                    cases hA_; cases hk_
                    have hnw := Nat.lt_of_lt_of_le hnb hBl.out.size
                    have m0 := hat_ 0 _ rfl
                    clear hat_
                    obtain ⟨pb, po, pcs, hA_, hpb, hk_, hat_⟩ := (hrf.out).in0 (hBl.out) l hltp
                    cases hA_; cases hk_
                    have hpw := Nat.lt_of_lt_of_le hpb hBl.out.size
                    have p0 := hat_ 0 _ rfl
                    clear hat_
                    simp at m0 p0
                    generalize i.args[l] = id at *
                    generalize g.params[l] = pw at *
                    have htl := fun W hW => hty W hW id hid.2
                    generalize typeOf f id = T at *
                    by_cases he : T = pw
                    · have hall2 := Hd.mk (show (List.range (l + 1)).all (fitK f i.args g.params) = true by rw [hsnl.out, halll.out, he]; simp)
                      have d : (T != pw) = false := by rw [he]; simp
                      clear hsnl hfll he
                      go_wp2
                      refine wp_region_bel (by kernel_rfl) (by kernel_rfl) ?_
                      simp only [List.toList_toArray]
                      repeat' first
                        | (refine seq_val (by rfl) (by intro W hS; have s0 := (bat hS (w.heap.size + 1) hlw 0).trans x0; have s1 := (bat hS (w.heap.size + 1) hlw 1).trans x1; have s2 := (bat hS (w.heap.size + 1) hlw 2).trans x2; have t6 := (bat hS wj.heap.size hlj 6).trans a6; have t0 := (bat hS (wj.heap.size + 1) hli 0).trans a0; have v0 := (bat hS nb hnw _).trans m0; have v1 := (bat hS pb hpw _).trans p0; go_simp; first | done | rfl) ?_; simp only [Act.put, List.setIfInBounds_toArray, List.set_cons_zero, List.set_cons_succ])
                        | (refine seq_skip (by rfl) ?_; simp only [Act.put, List.setIfInBounds_toArray, List.set_cons_zero, List.set_cons_succ])
                        | (refine seq_ret 149 _ (by rfl) (by intro W hS; have s0 := (bat hS (w.heap.size + 1) hlw 0).trans x0; have s1 := (bat hS (w.heap.size + 1) hlw 1).trans x1; have s2 := (bat hS (w.heap.size + 1) hlw 2).trans x2; have t6 := (bat hS wj.heap.size hlj 6).trans a6; have t0 := (bat hS (wj.heap.size + 1) hli 0).trans a0; have v0 := (bat hS nb hnw _).trans m0; have v1 := (bat hS pb hpw _).trans p0; go_simp; first | done | rfl) (fun W hS => htl W (hBl.out.then hS)) ?_; simp only [Act.put, List.setIfInBounds_toArray, List.set_cons_zero, List.set_cons_succ])
                        | fail
                      refine seq_nil (fun W hS => ?_)
                      have s0 := (bat hS (w.heap.size + 1) hlw 0).trans x0
                      have s1 := (bat hS (w.heap.size + 1) hlw 1).trans x1
                      have s2 := (bat hS (w.heap.size + 1) hlw 2).trans x2
                      have t6 := (bat hS wj.heap.size hlj 6).trans a6
                      have t0 := (bat hS (wj.heap.size + 1) hli 0).trans a0
                      have v0 := (bat hS nb hnw _).trans m0
                      have v1 := (bat hS pb hpw _).trans p0
                      go_wp2
                      go_roundw
                      case rel => exact ⟨l + 1, by omega, by go_num, hall2, ⟨hbl'.out.then hS⟩⟩
                      case measure => simp [intOf]; omega
                    · have hv := (hfail (hfll (by simpa using he)).out).out
                      have d : (T != pw) = true := bneT he
                      subst hv
                      clear hsnl hfll hpass hfail hsn hfl he
                      go_wp2
                      refine wp_region_bel (by kernel_rfl) (by kernel_rfl) ?_
                      simp only [List.toList_toArray]
                      repeat' first
                        | (refine seq_val (by rfl) (by intro W hS; have s0 := (bat hS (w.heap.size + 1) hlw 0).trans x0; have s1 := (bat hS (w.heap.size + 1) hlw 1).trans x1; have s2 := (bat hS (w.heap.size + 1) hlw 2).trans x2; have t6 := (bat hS wj.heap.size hlj 6).trans a6; have t0 := (bat hS (wj.heap.size + 1) hli 0).trans a0; have v0 := (bat hS nb hnw _).trans m0; have v1 := (bat hS pb hpw _).trans p0; go_simp; first | done | rfl) ?_; simp only [Act.put, List.setIfInBounds_toArray, List.set_cons_zero, List.set_cons_succ])
                        | (refine seq_skip (by rfl) ?_; simp only [Act.put, List.setIfInBounds_toArray, List.set_cons_zero, List.set_cons_succ])
                        | (refine seq_ret 149 _ (by rfl) (by intro W hS; have s0 := (bat hS (w.heap.size + 1) hlw 0).trans x0; have s1 := (bat hS (w.heap.size + 1) hlw 1).trans x1; have s2 := (bat hS (w.heap.size + 1) hlw 2).trans x2; have t6 := (bat hS wj.heap.size hlj 6).trans a6; have t0 := (bat hS (wj.heap.size + 1) hli 0).trans a0; have v0 := (bat hS nb hnw _).trans m0; have v1 := (bat hS pb hpw _).trans p0; go_simp; first | done | rfl) (fun W hS => htl W (hBl.out.then hS)) ?_; simp only [Act.put, List.setIfInBounds_toArray, List.set_cons_zero, List.set_cons_succ])
                        | fail
                      refine seq_nil (fun W hS => ?_)
                      have s0 := (bat hS (w.heap.size + 1) hlw 0).trans x0
                      have s1 := (bat hS (w.heap.size + 1) hlw 1).trans x1
                      have s2 := (bat hS (w.heap.size + 1) hlw 2).trans x2
                      have t6 := (bat hS wj.heap.size hlj 6).trans a6
                      have t0 := (bat hS (wj.heap.size + 1) hli 0).trans a0
                      have v0 := (bat hS nb hnw _).trans m0
                      have v1 := (bat hS pb hpw _).trans p0
                      go_wp2
                      go_ret
                      exact ⟨rfl, hBl.out.then hS⟩
                  · have e : l = i.args.length := by omega
                    have hall2 := hpass (by rw [← e]; exact halll.out)
                    have hbl2 := Hd.mk ((hbj.out.then (hbi.out.then hbg.out)).then hbl'.out)
                    subst e
                    clear hfail hpass
                    go_wp2
                    go_roundw
                    case rel => exact ⟨j + 1, by omega, by go_num, hall2, hbl2⟩
                    case measure => simp [intOf]; omega
              · have hv := (hfail (by rw [show (i.args.length == g.params.length) = false by simpa using hl]; simp)).out
                have dl : ((i.args.length : Int) != (g.params.length : Int)) = true := bneT (by omega)
                subst hv
                clear hfail hpass hsn hfl hl hw
                go_wp2
                go_ret
                exact ⟨rfl, by rw [← hwi'.out, ← hwg'.out]; exact hBg.out⟩
            · have hv := (hfail (by rw [show (i.w == g.ret) = false by simpa using hw]; simp)).out
              have dw : (i.w != g.ret) = true := bneT hw
              subst hv
              clear hfail hpass hsn hfl hw
              go_wp2
              go_ret
              exact ⟨rfl, by rw [← hwi'.out, ← hwg'.out]; exact hBg.out⟩
          · have d26 : (i.op != 26) = true := bneT h26
            have hall2 := Hd.mk (show (x.insts.take (j + 1)).all (ciB m f) = true by rw [hsnj.out, hallj.out, ciB_no m f i h26]; rfl)
            clear hsnj hflj h26
            go_wp2
            go_roundw
            case rel => exact ⟨j + 1, by omega, by go_num, hall2, ⟨by rw [← hwi'.out]; exact hbj.out.then hbi.out⟩⟩
            case measure => simp [intOf]; omega
        · have e : j = x.insts.length := by omega
          subst e
          rw [List.take_length] at hallj
          have hall2 := Hd.mk (show (f.blocks.take (k + 1)).all (callsB m f) = true by rw [hsn.out, hall.out, hallj.out]; rfl)
          clear hsn hfl
          go_wp2
          go_roundw
          case rel => exact ⟨k + 1, by omega, by go_num, hall2, hB0j⟩
          case measure => simp [intOf]; omega
    · have e : k = f.blocks.length := by omega
      subst e
      rw [List.take_length] at hall
      have hv := hR'.out.symm.trans hall.out
      subst hv
      go_wp2
      go_ret
      exact ⟨rfl, hBw.out⟩
end Go.Proofs.YtkcgejbnhpccdaaGreat
