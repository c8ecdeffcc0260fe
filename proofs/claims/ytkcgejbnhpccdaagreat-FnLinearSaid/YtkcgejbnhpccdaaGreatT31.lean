import Derived.Test.YtkcgejbnhpccdaaGreatT30
set_option linter.unusedSimpArgs false
set_option linter.unusedVariables false
namespace Go.Proofs.YtkcgejbnhpccdaaGreat
open Go.RowKit
def phB (f : XFunc) (k : Nat) : Bool := (blkAt f k).phis.all fun p => p.ins.length == (predsOf f k).length
theorem phisOk_all (f : XFunc) : phisOk f = (List.range f.blocks.length).all (phB f) := rfl
set_option maxRecDepth 20000 in
set_option maxHeartbeats 4000000 in
theorem s_l4Phis (f : XFunc) (cs : List Value) (w : World) (hf : KFunc lm w f cs) (hn10 : f.blocks.length ≤ 10) : Calls Tryz.prog 101 #[.agg cs.toArray] w (Ret (.bool (phisOk f)) w) := by
  have hf' := Hd.mk hf
  obtain ⟨v1, v2, rfl, hp, hb⟩ := hf
  obtain ⟨A1, c1, rfl, -, hl1, -⟩ := hp.sm
  obtain ⟨A2, c2, rfl, hcap, hl2, hb0⟩ := hb.sm
  clear hp hb
  have hbl := fun o => (Below.refl w.heap.size w).al (Nat.le_refl _) o
  obtain ⟨W0, hW0⟩ : ∃ W0 : World, W0 = w.alloc (.cells #[.slice A1 f.params.length c1, .int .i64 f.ret, .slice A2 f.blocks.length c2] 35) := ⟨_, rfl⟩
  have hB0 : Below w.heap.size w W0 := by rw [hW0]; exact hbl _
  have hz0 : W0.heap.size = w.heap.size + 1 := by rw [hW0]; simp
  have hzf : Hd (∀ o u, [Value.slice A1 f.params.length c1, .int .i64 f.ret, .slice A2 f.blocks.length c2][o]? = some u → W0.cell? ⟨w.heap.size, o, none⟩ = some u) := ⟨fun o u hu => by rw [hW0]; exact new_cell _ _ _ rfl o u (by simpa using hu)⟩
  have hW0' := Hd.mk hW0
  have hB0' := Hd.mk hB0
  clear hW0 hB0
  generalize hR : phisOk f = R
  have hR' := Hd.mk hR
  clear hR
  rw [phisOk_all] at hR'
  have hpr := fun W (hW : Below w.heap.size w W) b => s_l3Preds f _ b W (KM.mv hf'.out hW)
  go_enter Tryz.func101, Tryz.ntmps101
  go_wp2_with fail
  rw [← hW0'.out]
  go_wp2
  go_loopw [3] (fun s3 wr => ∃ k : Nat, k ≤ f.blocks.length ∧ s3 = .int .i64 k ∧ Hd ((List.range k).all (phB f) = true) ∧ Hd (Below W0.heap.size W0 wr)) (fun s3 _ => f.blocks.length - (intOf s3).toNat)
  case atStart => exact ⟨0, Nat.zero_le _, rfl, ⟨rfl⟩, ⟨Below.refl _ _⟩⟩
  case round =>
    obtain ⟨k, hk, rfl, hall, hbr⟩ := hrel
    obtain ⟨wo, rfl⟩ : ∃ wo : World, wo = wr := ⟨_, rfl⟩
    have hBw := Hd.mk (hB0'.out.then hbr.out)
    have hzo := hbr.out.size
    have x0 := (bat hbr.out w.heap.size (by omega) 0).trans (hzf.out 0 _ rfl)
    have x1 := (bat hbr.out w.heap.size (by omega) 1).trans (hzf.out 1 _ rfl)
    have x2 := (bat hbr.out w.heap.size (by omega) 2).trans (hzf.out 2 _ rfl)
    by_cases hlt : k < f.blocks.length
    · have hsn := Hd.mk (range_all_snoc (phB f) k)
      have hfl := fun h => Hd.mk (range_all_fail (phB f) f.blocks.length k hlt h)
      have hph : phB f k = f.blocks[k].phis.all fun p => p.ins.length == (predsOf f k).length := by unfold phB; rw [blkAt_nat f k hlt]
      rw [hph] at hsn hfl
      clear hph
      have hpk := hpr wo hBw.out k
      have hpl := preds_len f k
      generalize predsOf f k = ps at *
      go_wp2_with fail
      refine hpk.mono ?_; rintro e w2 ⟨u2, rfl, ho2, hb2⟩
      obtain ⟨Au, cu, rfl, -, -, -, -⟩ := own_shape ho2
      have hB2 := Hd.mk (hBw.out.then hb2)
      have hc2 := Hd.mk (hbr.out.then hb2)
      have hz2 := hb2.size
      clear hb2 ho2 hpk x0 x1 x2
      obtain ⟨eb, eo, ecs, hA_, heb, ⟨bv1, bv2, rfl, hr_, hr2_⟩, hat_⟩ := (hb0.out).in0 (hB2.out) (k) (hlt)
      cases hA_
      have hew := Nat.lt_of_lt_of_le heb (hB2.out).size
      have g0 := hat_ 0 _ rfl
      have g1 := hat_ 1 _ rfl
      have g2 := hat_ 2 _ rfl
      have g3 := hat_ 3 _ rfl
      have g4 := hat_ 4 _ rfl
      have g5 := hat_ 5 _ rfl
      clear hat_
      simp at g0 g1 g2 g3 g4 g5
      obtain ⟨Ap, cp, rfl, hcp, hlp, hrp⟩ := hr_.sm
      obtain ⟨Ai, ci, rfl, hci, hli, hri⟩ := hr2_.sm
      clear hr_ hr2_
      generalize f.blocks[k] = x at *
      go_wp2
      go_loopw [5] (fun s5 wr => ∃ j : Nat, j ≤ x.phis.length ∧ s5 = .int .i64 j ∧ Hd ((x.phis.take j).all (fun p => p.ins.length == ps.length) = true) ∧ wr = w2) (fun s5 _ => x.phis.length - (intOf s5).toNat)
      case atStart => exact ⟨0, Nat.zero_le _, rfl, ⟨rfl⟩, rfl⟩
      case round =>
        obtain ⟨j, hj, rfl, hallj, rfl⟩ := hrel
        have x0 := (bat hc2.out w.heap.size (by omega) 0).trans (hzf.out 0 _ rfl)
        have x1 := (bat hc2.out w.heap.size (by omega) 1).trans (hzf.out 1 _ rfl)
        have x2 := (bat hc2.out w.heap.size (by omega) 2).trans (hzf.out 2 _ rfl)
        have h0 := g0
        clear g1 g2 g3 g4 g5
        by_cases hltj : j < x.phis.length
        · obtain ⟨eb, eo, ecs, hA_, heb, ⟨pv1, rfl, hr_⟩, hat_⟩ := (hrp.out).in0 (hB2.out) (j) (hltj)
          cases hA_
          have hew := Nat.lt_of_lt_of_le heb (hB2.out).size
          have g0 := hat_ 0 _ rfl
          have g1 := hat_ 1 _ rfl
          clear hat_
          simp at g0 g1
          obtain ⟨Ax, cx, rfl, hcx, hlx, hrx⟩ := hr_.sm
          clear hr_
          have hsnj := Hd.mk (all_take_snoc (fun p => p.ins.length == ps.length) x.phis j hltj)
          have hflj := fun h => Hd.mk (all_false_of (fun p => p.ins.length == ps.length) x.phis j hltj h)
          generalize x.phis[j] = p at *
          by_cases he : p.ins.length = ps.length
          · have hall2 := Hd.mk (show (x.phis.take (j + 1)).all (fun p => p.ins.length == ps.length) = true by rw [hsnj.out, hallj.out, he]; simp)
            have d : ((p.ins.length : Int) != (ps.length : Int)) = false := by rw [he]; simp
            clear hsnj hflj he
            go_wp2
            go_roundw
            case rel => exact ⟨j + 1, by omega, by go_num, hall2, by first | trivial | rfl⟩
            case measure => simp [intOf]; omega
          · have hv : R = false := by
              rw [← hR'.out]
              exact (hfl (hflj (by simpa using he)).out).out
            have d : ((p.ins.length : Int) != (ps.length : Int)) = true := bneT (by omega)
            subst hv
            clear hsnj hflj hsn hfl he
            go_wp2
            go_ret
            exact ⟨rfl, hB2.out⟩
        · have e : j = x.phis.length := by omega
          subst e
          rw [List.take_length] at hallj
          have hall2 := Hd.mk (show (List.range (k + 1)).all (phB f) = true by rw [hsn.out, hall.out, hallj.out]; rfl)
          clear hsn hfl
          go_wp2
          go_roundw
          case rel => exact ⟨k + 1, by omega, by go_num, hall2, hc2⟩
          case measure => simp [intOf]; omega
    · have e : k = f.blocks.length := by omega
      subst e
      have hv := hR'.out.symm.trans hall.out
      subst hv
      go_wp2
      go_ret
      exact ⟨rfl, hBw.out⟩
end Go.Proofs.YtkcgejbnhpccdaaGreat
