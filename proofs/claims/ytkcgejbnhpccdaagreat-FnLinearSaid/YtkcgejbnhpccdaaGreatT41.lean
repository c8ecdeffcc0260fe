import Derived.Test.YtkcgejbnhpccdaaGreatT29
set_option linter.unusedSimpArgs false
set_option linter.unusedVariables false
namespace Go.Proofs.YtkcgejbnhpccdaaGreat
open Go.RowKit
set_option maxRecDepth 20000 in
set_option maxHeartbeats 8000000 in
theorem s_phis (f : XFunc) (cf : List Value) (xv va : Value) (b : Nat) (left : Int) (n : Nat) (vals : List Int) (W : World) (hf : KFunc lm W f cf) (hv : RI lm W va vals) (hn : vals.length = n) (hc : (n : Int) = countOf f) (hfo : Fo f)
    (hb : b < f.blocks.length) (hl : f.blocks[b].phis ≠ [] → left ∈ predsOf f b) (hph : ∀ p ∈ f.blocks[b].phis, p.ins.length = (predsOf f b).length ∧ ∀ id ∈ p.ins, 0 ≤ id ∧ id < countOf f) :
    Calls Tryz.prog 108 #[xv, .agg cf.toArray, .int .i64 b, .int .i64 left, va] W (RetI (enterV f b left vals) W) := by
  subst hn
  have hcc := Hd.mk hc
  clear hc
  have hbk := blkAt_nat f b hb
  have hfl := first_le f b hb
  have hfr := first_rng f b hfo
  have hc60 := hfo.2.1
  have hpl := preds_len f b
  have hn10 := hfo.1.2.2
  have hf' := Hd.mk hf
  have hv' := Hd.mk hv
  obtain ⟨v1, v2, rfl, hp, hb'⟩ := hf
  obtain ⟨A1, c1, rfl, -, -, -⟩ := hp.sm
  obtain ⟨A2, c2, rfl, hcap, hl2, hb0⟩ := hb'.sm
  obtain ⟨Av, cv, rfl, -, hlv, -⟩ := hv.sm
  clear hp hb' hv
  obtain ⟨V, hV⟩ : ∃ V, V = enterV f b left vals := ⟨_, rfl⟩
  rw [← hV]
  unfold enterV nextP at hV
  rw [hbk] at hV
  have hV0 := Hd.mk hV
  clear hV hbk
  obtain ⟨W0, hW0⟩ : ∃ W0 : World, W0 = W.alloc (.cells #[.slice A1 f.params.length c1, .int .i64 f.ret, .slice A2 f.blocks.length c2] 35) := ⟨_, rfl⟩
  have hB0 : Hd (Below W.heap.size W W0) := ⟨by rw [hW0]; exact (Below.refl _ _).al (Nat.le_refl _) _⟩
  have hz0 : W.heap.size < W0.heap.size := by rw [hW0]; simp
  have hzf : Hd (∀ o u, [Value.slice A1 f.params.length c1, .int .i64 f.ret, .slice A2 f.blocks.length c2][o]? = some u → W0.cell? ⟨W.heap.size, o, none⟩ = some u) := ⟨fun o u hu => by rw [hW0]; exact new_cell _ _ _ rfl o u (by simpa using hu)⟩
  have hW0' := Hd.mk hW0
  have hpr := s_l3Preds f _ b W0 (KM.mv hf'.out hB0.out)
  have hcp := fun W' (hW : Below W.heap.size W W') => s_l1Copy _ vals W' (hv'.out.mv hW)
  have hfi := fun W' (hW : Below W.heap.size W W') => s_l2First f _ b W' (KM.mv hf'.out hW) (by omega)
  clear hW0 hfo
  go_enter Tryz.func108, Tryz.ntmps108
  go_wp2_with fail
  rw [← hW0'.out]
  have x0 := hzf.out 0 _ rfl
  have x1 := hzf.out 1 _ rfl
  have x2 := hzf.out 2 _ rfl
  go_wp2_with fail
  refine hpr.mono ?_; rintro e w1 ⟨u1, rfl, ho1, hb1⟩
  have ho1' := Hd.mk ho1
  obtain ⟨Aq, cq, rfl, -, -, -, -⟩ := own_shape ho1
  have hB1 := Hd.mk (hB0.out.then hb1)
  have hb1' := Hd.mk hb1
  have hz1 := hb1.size
  clear hpr ho1 hb1 x0 x1 x2
  go_wp2_with fail
  refine (hcp _ hB1.out).mono ?_; rintro e w2 ⟨u2, rfl, ho2, hb2⟩
  have hB2 := Hd.mk (hB1.out.then hb2)
  have hb12 := Hd.mk (hb1'.out.then hb2)
  have ho2' := Hd.mk ho2
  have hq2 := Hd.mk (own_mv ho1'.out hb2)
  have hqb := Hd.mk (own_blk_lt ho1'.out)
  have hz2 := hb2.size
  obtain ⟨Ao, co, go, hov, hgo, hvx, hco1, hco2⟩ := VX.own (g := W.heap.size) (gm := W.heap.size) (o := none) ho2 rfl (by omega) (by omega) (fun b h => by cases h)
  subst hov
  have hvx' := Hd.mk hvx
  have y0 := (bat hb12.out W.heap.size hz0 0).trans (hzf.out 0 _ rfl)
  have y1 := (bat hb12.out W.heap.size hz0 1).trans (hzf.out 1 _ rfl)
  have y2 := (bat hb12.out W.heap.size hz0 2).trans (hzf.out 2 _ rfl)
  clear hcp hb2 hvx hco2
  go_wp2_with fail
  refine (hfi _ hB2.out).mono ?_; rintro e w3 ⟨rfl, hb3⟩
  have hB3 := Hd.mk (hB2.out.then hb3)
  have hv3 := Hd.mk (hvx'.out.below hb3)
  have hq3 := Hd.mk (own_mv hq2.out hb3)
  have ho3 := Hd.mk (own_mv ho2'.out hb3)
  have hz3 := hb3.size
  have hb03 := Hd.mk (hb12.out.then hb3)
  clear hfi hb3 y0 y1 y2
  obtain ⟨eb, eo, ecs, hA_, heb, ⟨bv1, bv2, rfl, hr_, hr2_⟩, hat_⟩ := (hb0.out).in0 (hB3.out) (b) (hb)
  cases hA_
  have hew := Nat.lt_of_lt_of_le heb (hB3.out).size
  have g0 := hat_ 0 _ rfl
  have g1 := hat_ 1 _ rfl
  have g2 := hat_ 2 _ rfl
  have g3 := hat_ 3 _ rfl
  have g4 := hat_ 4 _ rfl
  have g5 := hat_ 5 _ rfl
  clear hat_
  simp at g0 g1 g2 g3 g4 g5
  obtain ⟨Ap, cp, rfl, hcp, hlp, hrp⟩ := hr_.sm
  obtain ⟨Ai, ci, rfl, hci, hli, hri⟩ := hr2_.sm
  clear hr_ hr2_
  generalize f.blocks[b] = x at *
  have hg0 := Hd.mk g0
  clear g1 g2 g3 g4 g5 g0
  obtain ⟨G, hG⟩ : ∃ G : XPhi → Int, G = fun p => vl vals (p.ins.getD (idx (fun y => left == y) (predsOf f b)).toNat 0) := ⟨_, rfl⟩
  have hV := hV0.out
  rw [← hG] at hV
  have hG' := Hd.mk hG
  have hV' := Hd.mk hV
  have hl' := Hd.mk hl
  generalize firstOf f (b : Int) = fi at *
  obtain ⟨fn, rfl⟩ : ∃ fn : Nat, fi = fn := ⟨fi.toNat, by omega⟩
  rw [Int.toNat_natCast] at hV'
  clear hG hV hl hvx' hq2 ho2' hV0
  have hprd := Hd.mk (preds_inj f (b : Int))
  generalize predsOf f (b : Int) = ps at *
  go_wp2
  go_loopw [14] (fun s14 wr => ∃ i : Nat, i ≤ x.phis.length ∧ s14 = .int .i64 i ∧ Hd (VX W.heap.size W.heap.size none go Ao vals.length (putAt vals fn ((x.phis.take i).map G)) wr) ∧ Hd (wr.ownsRow w1.heap.size 2 1 (.slice Ao vals.length co) vals.length ((putAt vals fn ((x.phis.take i).map G)).map (Value.int .i64))) ∧ Hd (Off go go none w3 wr)) (fun s14 _ => x.phis.length - (intOf s14).toNat)
  case atStart => exact ⟨0, Nat.zero_le _, rfl, by simpa [putAt] using hv3, by simpa [putAt] using ho3, ⟨Off.refl _ _ _ _⟩⟩
  case round =>
    obtain ⟨i, hi, rfl, hvr, hor, hof⟩ := hrel
    obtain ⟨wo, rfl⟩ : ∃ wo : World, wo = wr := ⟨_, rfl⟩
    have hzo := hof.out.size
    have hBw : Hd (Below W.heap.size W wo) := ⟨hB3.out.trans (hof.out.below (by omega) (by omega) (fun b h => by cases h) (by omega))⟩
    have yb := fun j => (World.cell?_of_block (a := ⟨W.heap.size, j, none⟩) (hof.out.block W.heap.size (by omega) (by omega) (by omega) (by simp))).trans (bat hb03.out W.heap.size hz0 j)
    have y0 := (yb 0).trans (hzf.out 0 _ rfl)
    have y1 := (yb 1).trans (hzf.out 1 _ rfl)
    have y2 := (yb 2).trans (hzf.out 2 _ rfl)
    have yl : W.heap.size < wo.heap.size := by omega
    have hego : eb ≠ go := by omega
    have g0 := (World.cell?_of_block (a := ⟨eb, _, none⟩) (hof.out.block eb hew hego hego (by simp))).trans hg0.out
    have gl : eb < wo.heap.size := by omega
    have eb0 : (0 : Int) ≤ (b : Int) := by omega
    have eb1 : (b : Int) < (f.blocks.length : Int) := by omega
    clear yb
    by_cases hlt : i < x.phis.length
    · obtain ⟨kk, hkk, hidx, hat⟩ := idx_at left ps (hl'.out (by intro h; rw [h] at hlt; simp at hlt))
      obtain ⟨hpk1, hpk2⟩ := hph x.phis[i] (List.getElem_mem hlt)
      obtain ⟨pb, po, pcs, hA_, hpb, ⟨pv1, rfl, hr_⟩, hat_⟩ := (hrp.out).in0 (hBw.out) i hlt
      cases hA_
      have hpw := Nat.lt_of_lt_of_le hpb (hBw.out).size
      obtain ⟨Ax, cx, rfl, hcx, hlx, hrx⟩ := hr_.sm
      have p1 := hat_ 1 _ rfl
      clear hat_ hr_
      try simp at p1
      have hsn : Hd (putAt vals fn ((x.phis.take (i + 1)).map G) = (putAt vals fn ((x.phis.take i).map G)).set (fn + i) (G x.phis[i])) := ⟨by
        rw [List.take_succ_eq_append_getElem hlt, List.map_append, List.map_cons, List.map_nil, putAt_snoc]
        congr 2
        simp; omega⟩
      generalize x.phis[i] = p at *
      have hkl : kk < p.ins.length := by omega
      have hid := hpk2 p.ins[kk] (List.getElem_mem hkl)
      have hGp : Hd (G p = vl vals p.ins[kk]) := ⟨by rw [hG'.out]; show vl vals (p.ins.getD (idx (fun y => left == y) ps).toNat 0) = _; rw [hidx, Int.toNat_natCast, List.getD_eq_getElem?_getD, List.getElem?_eq_getElem hkl]; rfl⟩
      have hcc' := hcc.out
      have hidn : p.ins[kk].toNat < vals.length := by omega
      have hvl : Hd (vl vals p.ins[kk] = vals[p.ins[kk].toNat]) := ⟨by unfold vl; rw [List.getD_eq_getElem?_getD, List.getElem?_eq_getElem hidn]; rfl⟩
      have hfi : fn + i < vals.length := by omega
      obtain ⟨zb, zo, zcs, hA_, hzb2, hk_, hat_⟩ := (hrx.out).in0 (hBw.out) kk hkl
      cases hA_; cases hk_
      have hzw := Nat.lt_of_lt_of_le hzb2 hBw.out.size
      have q0 := hat_ 0 _ rfl
      clear hat_
      obtain ⟨vb, vo, vcs, hA_, hvb2, hk_, hat_⟩ := (hv'.out).in0 (hBw.out) p.ins[kk].toNat hidn
      cases hA_; cases hk_
      have hvw := Nat.lt_of_lt_of_le hvb2 hBw.out.size
      have r0 := hat_ 0 _ rfl
      clear hat_
      try simp at q0
      try simp at r0
      rw [← hvl.out, ← hGp.out] at r0
      have hq0 := Hd.mk q0
      have hr0 := Hd.mk r0
      have hp1 := Hd.mk p1
      have hidn' := Hd.mk hidn
      clear hpk2 hGp hvl q0 r0 p1 hidx hcc' hidn
      have hat' := Hd.mk hat
      clear hat
      generalize putAt vals fn ((x.phis.take i).map G) = X at *
      generalize G p = gp at *
      generalize p.ins[kk] = id at *
      have el0 : (0 : Int) ≤ (i : Int) := by omega
      have el1 : (i : Int) < (x.phis.length : Int) := by omega
      have hpk1' := Hd.mk hpk1
      clear hpk1
      go_wp2
      clear y0 y1 y2 g0
      go_loopw [15] (fun s15 wr => ∃ j : Nat, j ≤ ps.length ∧ s15 = .int .i64 j ∧ Hd (VX W.heap.size W.heap.size none go Ao vals.length (if kk < j then X.set (fn + i) gp else X) wr) ∧ Hd (wr.ownsRow w1.heap.size 2 1 (.slice Ao vals.length co) vals.length ((if kk < j then X.set (fn + i) gp else X).map (Value.int .i64))) ∧ Hd (Off go go none wo wr)) (fun s15 _ => ps.length - (intOf s15).toNat)
      case atStart => exact ⟨0, Nat.zero_le _, rfl, by simpa using hvr, by simpa using hor, ⟨Off.refl _ _ _ _⟩⟩
      case round =>
        obtain ⟨j, hj, rfl, hvj, hoj, hof2⟩ := hrel
        obtain ⟨wi, rfl⟩ : ∃ wi : World, wi = wr := ⟨_, rfl⟩
        have hof3 : Hd (Off go go none w3 wi) := ⟨hof.out.trans (.inl rfl) hof2.out⟩
        have hzi := hof2.out.size
        by_cases hlj : j < ps.length
        · have hro := OI.rd (own_off2 hq3.out hof3.out (fun k hk => by have := hqb.out k hk; omega)) (by omega)
          obtain ⟨sb, so, scs, hA_, hsb2, hk_, hat_⟩ := hro.in0 (Below.refl wi.heap.size wi) j hlj
          cases hA_; cases hk_
          have s0 := hat_ 0 _ rfl
          clear hat_ hro
          simp at s0
          have ej0 : (0 : Int) ≤ (j : Int) := by omega
          have ej1 : (j : Int) < (ps.length : Int) := by omega
          by_cases hjk : j = kk
          · subst hjk
            rw [hat'.out] at s0
            rw [if_neg (Nat.lt_irrefl _)] at hvj hoj
            obtain ⟨e1, e2, arr, e3, e4⟩ := hvj.out.2 (by omega)
            have hAo := Hd.mk e1
            subst e1
            obtain ⟨t0, tf⟩ := hvj.out.val ((fn + i : Nat) : Int) (by omega) (by omega)
            rw [Int.toNat_natCast] at t0 tf
            have hset := Hd.mk (hvj.out.set (fn + i) gp)
            have hseto : Hd ((wi.setCell ⟨go, fn + i, none⟩ (.int .i64 gp)).ownsRow w1.heap.size 2 1 (.slice (some ⟨go, 0, none⟩) vals.length co) vals.length ((X.set (fn + i) gp).map (Value.int .i64))) := ⟨by
              have := (World.ownsRow.stored hoj.out (fn + i) (.int .i64 gp)).1
              simpa [List.map_set] using this⟩
            have hoff : Hd (Off go go none wo (wi.setCell ⟨go, fn + i, none⟩ (.int .i64 gp))) := ⟨hof2.out.set (.inl rfl) _⟩
            have yb := fun j' => (World.cell?_of_block (a := ⟨W.heap.size, j', none⟩) (hof3.out.block W.heap.size (by omega) (by omega) (by omega) (by simp))).trans (bat hb03.out W.heap.size hz0 j')
            have y0 := (yb 0).trans (hzf.out 0 _ rfl)
            have y1 := (yb 1).trans (hzf.out 1 _ rfl)
            have y2 := (yb 2).trans (hzf.out 2 _ rfl)
            have g0 := (World.cell?_of_block (a := ⟨eb, _, none⟩) (hof3.out.block eb hew hego hego (by simp))).trans hg0.out
            have mv := fun (bk : Nat) (o : Nat) (h : bk < wo.heap.size) (hne : bk ≠ go) => World.cell?_of_block (a := ⟨bk, o, none⟩) (hof2.out.block bk h hne hne (by simp))
            have p1 := (mv pb _ hpw (by omega)).trans hp1.out
            have q0 := (mv zb _ hzw (by omega)).trans hq0.out
            have r0 := (mv vb _ hvw (by omega)).trans hr0.out
            have ew : IntKind.i64.wrap ((fn : Int) + (i : Int)) = ((fn + i : Nat) : Int) := by rw [IntWalk.i64_in _ (by omega)]; simp
            have ew' := ew
            simp only [Int.natCast_add] at ew'
            have ei0 : 0 ≤ id := hid.1
            have ei1 : id < (vals.length : Int) := by have := hidn'.out; omega
            have ej2 : (j : Int) < (p.ins.length : Int) := by omega
            have ek : (fn : Int) + (i : Int) < (vals.length : Int) := by omega
            have ek0 : (0 : Int) ≤ (fn : Int) + (i : Int) := by omega
            have et : ((fn : Int) + (i : Int)).toNat = fn + i := by omega
            clear yb mv e2 e3 e4 hvj hoj
            go_wp2
            go_roundw
            case rel => exact ⟨j + 1, by omega, by go_num, by rw [if_pos (Nat.lt_succ_self _)]; exact hset, by rw [if_pos (Nat.lt_succ_self _)]; exact hseto, hoff⟩
            case measure => simp [intOf]; omega
          · have hne : (ps[j] == left) = false := beqF (fun e => hjk (hprd.out j kk hlj hkk (by rw [e, hat'.out])))
            have hiff : Hd ((if kk < j + 1 then X.set (fn + i) gp else X) = (if kk < j then X.set (fn + i) gp else X)) := ⟨by by_cases h : kk < j <;> simp [h] <;> omega⟩
            generalize ps[j] = pj at *
            go_wp2
            go_roundw
            case rel => exact ⟨j + 1, by omega, by go_num, by rw [hiff.out]; exact hvj, by rw [hiff.out]; exact hoj, hof2⟩
            case measure => simp [intOf]; omega
        · have e : j = ps.length := by omega
          subst e
          rw [if_pos hkk, ← hsn.out] at hvj hoj
          go_wp2
          go_roundw
          case rel => exact ⟨i + 1, by omega, by go_num, hvj, hoj, hof3⟩
          case measure => simp [intOf]; omega
    · have e : i = x.phis.length := by omega
      subst e
      rw [List.take_length, ← hV'.out] at hor
      have hVl : Hd (V.length = vals.length) := ⟨by rw [hV'.out, putAt_len]⟩
      go_wp2
      go_ret
      exact ⟨_, rfl, by rw [hVl.out]; exact own_lower hor.out (by omega), hBw.out⟩
end Go.Proofs.YtkcgejbnhpccdaaGreat
