/- Contracts of UnitsOf, the program's and the reference's. No conditions. -/
import Derived.Test.YtdnbiohohbnhgaaS4
import Derived.Test.YtdnbiohohbnhgaaP2
set_option linter.unusedSimpArgs false
set_option linter.unusedVariables false
namespace Go.Proofs.Ytdnbiohohbnhgaa
open Go.RowKit
theorem c_UnitsOf (f : XFunc) (cs : List Value) (w : World) (hf : KFunc lm w f cs) : Calls Try.prog 8 #[.agg cs.toArray] w (RetI (if funcOk f 3 then unitsOf f else []) w) := by
  have h := fun W hW => c_isFormed f cs W (KM.mv hf hW)
  have h2 := fun W hW hc => c_unitsOf f cs W (KM.mv hf hW) hc
  have hc : funcOk f 3 = true → countOf f ≤ 1048576 := fun h => by
    have : decide (countOf f ≤ 60) = true := by rw [funcOk_pre] at h; simp only [Bool.and_eq_true] at h; exact h.2.1
    simp at this; omega
  obtain ⟨v1, v2, rfl, hp, hb⟩ := hf
  have hbl := fun o => (Below.refl w.heap.size w).al (Nat.le_refl _) o
  clear hp hb
  cases hq : funcOk f 3 with
  | false =>
    rw [hq] at h
    simp only [Bool.false_eq_true, if_false]
    clear hc hq h2
    go_enter Try.func8, Try.ntmps8
    go_wp2_with fail
    refine (h _ (hbl _)).mono ?_; rintro e w1 ⟨rfl, hb1⟩
    go_wp2
    go_ret
    exact retI_nil ((hbl _).then hb1)
  | true =>
    rw [hq] at h
    simp only [if_true]
    have hc2 := hc hq
    clear hq hc
    generalize unitsOf f = us at *
    go_enter Try.func8, Try.ntmps8
    go_wp2_with fail
    refine (h _ (hbl _)).mono ?_; rintro e w1 ⟨rfl, hb1⟩
    have k0 := bat hb1 w.heap.size (by simp)
    simp at k0
    go_wp2_with fail
    refine (h2 _ ((hbl _).then hb1) hc2).mono ?_; rintro e w2 hr
    obtain ⟨v, rfl, ho, hb2⟩ := hr.later ((hbl _).then hb1)
    go_wp2
    go_ret
    exact ⟨_, rfl, ho, hb2⟩
set_option maxHeartbeats 4000000 in
theorem s_l19Units (f : XFunc) (cs : List Value) (w : World) (hf : KFunc lm w f cs) (hc : countOf f ≤ 1048576) : Calls Try.prog 27 #[.agg cs.toArray] w (RetI (unitsOf f) w) := by
  obtain ⟨v1, v2, rfl, hp, hb⟩ := hf
  have hbd := Hd.mk hb.blocks
  obtain ⟨A1, c1, rfl, -, hl1, -⟩ := hp.sm
  obtain ⟨A2, c2, rfl, -, hl2, hb0⟩ := hb.sm
  clear hb hp
  rw [unitsOf_eq]
  have hcd : countOf f = countIn f.params.length f.blocks := rfl
  have hcle := Hd.mk (fun k => countIn_take_le f.params.length f.blocks k)
  have hbl := fun o o' => ((Below.refl w.heap.size w).al (Nat.le_refl _) o).al (by simp) o'
  rw [hcd] at hc ⊢
  clear hcd
  have hphi := Hd.mk (unitsTo_phis f)
  have hins := Hd.mk (unitsTo_inst f)
  have hpar := Hd.mk (unitsTo_params f)
  have hle := Hd.mk (unitsTo_le f)
  generalize f.params.length = n at *
  generalize f.blocks = l at *
  generalize f.ret = r at *
  go_enter Try.func27, Try.ntmps27
  go_wp2
  go_loopw [3, 4, 5] (fun s3 s4 s5 wr => ∃ k : Nat, k ≤ l.length ∧ s5 = .int .i64 k ∧ s4 = .int .i64 (countIn n (l.take k)) ∧ Hd (wr.ownsRow (w.heap.size + 1) 2 1 s3 (unitsTo f (countIn n (l.take k))).length ((unitsTo f (countIn n (l.take k))).map (Value.int .i64))) ∧ Hd (Below w.heap.size w wr) ∧ Hd (∀ o, wr.cell? ⟨w.heap.size, o, none⟩ = (#[.slice A1 n c1, .int .i64 r, .slice A2 l.length c2] : Array Value)[o]?) ∧ Hd (w.heap.size < wr.heap.size)) (fun _ _ s5 _ => l.length - (intOf s5).toNat)
  case atStart => exact ⟨0, Nat.zero_le _, rfl, by simp [countIn], ⟨by simpa [countIn, hpar.out] using own_empty _ _ _ _ _ (by simp) (by simp)⟩, ⟨hbl _ _⟩, ⟨fun o => by simp⟩, ⟨by simp; omega⟩⟩
  case round =>
    obtain ⟨k, hk, rfl, rfl, ho, hbr, hk0, hzr⟩ := hrel
    have k0 := hk0.out
    by_cases hlt : k < l.length
    · obtain ⟨b, off, cs, hA, hbl', ⟨v1, v2, rfl, hr, hr2⟩, hat⟩ := hb0.out.in0 hbr.out k hlt
      cases hA
      have g0 := hat 0 _ rfl
      have g1 := hat 1 _ rfl
      clear hat
      simp at g0 g1
      obtain ⟨A3, c3, rfl, -, hl3, -⟩ := hr.sm
      obtain ⟨A4, c4, rfl, -, hl4, hr20⟩ := hr2.sm
      clear hr hr2
      have hc1 := countIn_bd n l k hbd.out hk
      have hc2 := countIn_le n (l.take k)
      have hsn := Hd.mk (countIn_snoc n l k hlt)
      have hsz := Hd.mk (show sizeB l[k] = l[k].phis.length + l[k].insts.length from rfl)
      have hcl := hcle.out (k + 1)
      rw [hsn.out, hsz.out] at hcl
      have hcl' := hcl
      have hph := Hd.mk (hphi.out k hlt)
      have hin := Hd.mk (hins.out k hlt)
      generalize countIn n (l.take k) = s at *
      generalize l[k] = x at *
      obtain ⟨wo, rfl⟩ : ∃ wo : World, wo = wr := ⟨_, rfl⟩
      have e1 : IntKind.i64.wrap (s + (x.phis.length : Int)) = s + (x.phis.length : Int) := IntWalk.i64_in _ (by omega)
      have z0 := hzr.out
      go_wp2
      clear e1
      go_loopw [3, 4, 6] (fun s3 s4 s6 wr => ∃ j : Nat, j ≤ x.insts.length ∧ s6 = .int .i64 j ∧ s4 = .int .i64 (s + x.phis.length + j) ∧ Hd (wr.ownsRow (w.heap.size + 1) 2 1 s3 (unitsTo f (s + x.phis.length + j)).length ((unitsTo f (s + x.phis.length + j)).map (Value.int .i64))) ∧ Hd (Below w.heap.size w wr) ∧ Hd (∀ o, wr.cell? ⟨w.heap.size, o, none⟩ = (#[.slice A1 n c1, .int .i64 r, .slice (some ⟨b, off, none⟩) l.length c2] : Array Value)[o]?) ∧ Hd (w.heap.size < wr.heap.size)) (fun _ _ s6 _ => x.insts.length - (intOf s6).toNat)
      case atStart => exact ⟨0, Nat.zero_le _, rfl, by simp, ⟨by simpa [hph.out] using ho.out⟩, hbr, hk0, hzr⟩
      case round =>
        clear ho hk0 k0 hzr z0
        obtain ⟨j, hj, rfl, rfl, ho, hbr2, hk0, hzr⟩ := hrel
        have k0 := hk0.out
        have z0 := hzr.out
        have g0 := (bat hbr2.out b hbl' (off + k * 6)).trans ((bat hbr.out b hbl' (off + k * 6)).symm.trans g0)
        have g1 := (bat hbr2.out b hbl' (off + k * 6 + 1)).trans ((bat hbr.out b hbl' (off + k * 6 + 1)).symm.trans g1)
        by_cases hltj : j < x.insts.length
        · obtain ⟨b5, off5, cs5, hA5, hbl5, ⟨v5, rfl, hr5⟩, hat5⟩ := hr20.out.in0 hbr2.out j hltj
          cases hA5
          have i0 := hat5 0 _ rfl
          clear hat5 hr5
          simp at i0
          have hun := Hd.mk (hin.out j hltj)
          have hle' := hle.out (s + x.phis.length + j)
          have hop : (x.insts[j].op == 24 || x.insts[j].op == 25) = true ∨ ((x.insts[j].op == 24) = false ∧ (x.insts[j].op == 25) = false) := by
            cases (x.insts[j].op == 24) <;> cases (x.insts[j].op == 25) <;> simp
          generalize x.insts[j].op = op at i0 hun hop
          obtain ⟨us, hus⟩ : ∃ us, us = unitsTo f (s + x.phis.length + j) := ⟨_, rfl⟩
          rw [← hus] at ho hun hle'
          clear hus
          have e3 : IntKind.i64.wrap (s + (x.phis.length : Int) + (j : Int) + 1) = s + (x.phis.length : Int) + (j : Int) + 1 := IntWalk.i64_in _ (by omega)
          rcases hop with hop | ⟨hop1, hop2⟩
          · rw [hop] at hun
            have hop' : op = 24 ∨ op = 25 := by simpa using hop
            clear hop
            have hb6 := fun o => (Below.refl wr.heap.size wr).al (Nat.le_refl _) o
            rcases hop' with rfl | rfl
            all_goals
              go_wp2_with (at_builtin; refine app_I rfl _ _ rfl (w.heap.size + 1) _ us [s + x.phis.length + j] rfl ?h1 _ 1 1 rfl (rd_one _ _) ?h2 ?h3 ?h4)
              case h1 => exact own_mv ho.out (hb6 _)
              case h2 => omega
              case h3 => first | omega | (simp; omega)
              case h4 =>
                intro v' w4 ho4 hg
                have hb7 : Below w.heap.size w w4 := (hbr2.out.then (hb6 _)).grown hg (by simp; omega) (fun k hk => by have := own_block_ge ho.out k hk; omega)
                have hk7 : ∀ o, w4.cell? ⟨w.heap.size, o, none⟩ = _ := fun o => (grown_cell hg (by simp; omega) (fun h => by have := own_block_ge ho.out _ h; omega) o).trans ((bat (hb6 _) w.heap.size (by omega) o).trans (k0 o))
                have hz7 := hg.size
                simp at hz7
                have ho4' := Hd.mk ho4
                have hb7' := Hd.mk hb7
                have hk7' := Hd.mk hk7
                clear hg ho4 hb7 hk7 hb6 k0
                go_wp2
                go_roundw
                case rel =>
                  refine ⟨j + 1, by omega, by go_num, by go_num, ⟨?_⟩, hb7', hk7', ⟨by omega⟩⟩
                  rw [show s + (x.phis.length : Int) + ((j + 1 : Nat) : Int) = s + x.phis.length + j + 1 by omega, hun.out]
                  simpa using ho4'.out
                case measure => simp [intOf]; omega
          · rw [hop1, hop2] at hun
            go_wp2
            go_roundw
            case rel =>
              refine ⟨j + 1, by omega, by go_num, by go_num, ⟨?_⟩, hbr2, hk0, hzr⟩
              rw [show s + (x.phis.length : Int) + ((j + 1 : Nat) : Int) = s + x.phis.length + j + 1 by omega, hun.out]
              simpa using ho.out
            case measure => simp [intOf]; omega
        · have e : j = x.insts.length := by omega
          subst e
          go_wp2
          go_roundw
          case rel =>
            refine ⟨k + 1, by omega, by go_num, by rw [hsn.out, hsz.out]; go_num, ⟨?_⟩, hbr2, hk0, hzr⟩
            rw [hsn.out, hsz.out, ← Int.add_assoc]
            exact ho.out
          case measure => simp [intOf]; omega
    · have e : k = l.length := by omega
      subst e
      go_wp2
      go_ret
      rw [List.take_length] at ho
      exact ⟨_, rfl, own_lower ho.out (by omega), hbr.out⟩
theorem s_UnitsOf (f : XFunc) (cs : List Value) (w : World) (hf : KFunc lm w f cs) : Calls Try.prog 6 #[.agg cs.toArray] w (RetI (if funcOk f 3 then unitsOf f else []) w) := by
  have h := fun W hW => s_l2Func f cs 3 W (KM.mv hf hW) (by omega) (by omega)
  have h2 := fun W hW hc => s_l19Units f cs W (KM.mv hf hW) hc
  have hc : funcOk f 3 = true → countOf f ≤ 1048576 := fun h => by
    have : decide (countOf f ≤ 60) = true := by rw [funcOk_pre] at h; simp only [Bool.and_eq_true] at h; exact h.2.1
    simp at this; omega
  obtain ⟨v1, v2, rfl, hp, hb⟩ := hf
  have hbl := fun o => (Below.refl w.heap.size w).al (Nat.le_refl _) o
  clear hp hb
  cases hq : funcOk f 3 with
  | false =>
    rw [hq] at h
    simp only [Bool.false_eq_true, if_false]
    clear hc hq h2
    go_enter Try.func6, Try.ntmps6
    go_wp2_with fail
    refine (h _ (hbl _)).mono ?_; rintro e w1 ⟨rfl, hb1⟩
    go_wp2
    go_ret
    exact retI_made ((hbl _).then hb1) [] 0 _ rfl (by simp) (by omega)
  | true =>
    rw [hq] at h
    simp only [if_true]
    have hc2 := hc hq
    clear hq hc
    generalize unitsOf f = us at *
    go_enter Try.func6, Try.ntmps6
    go_wp2_with fail
    refine (h _ (hbl _)).mono ?_; rintro e w1 ⟨rfl, hb1⟩
    have k0 := bat hb1 w.heap.size (by simp)
    simp at k0
    go_wp2_with fail
    refine (h2 _ ((hbl _).then hb1) hc2).mono ?_; rintro e w2 hr
    obtain ⟨v, rfl, ho, hb2⟩ := hr.later ((hbl _).then hb1)
    go_wp2
    go_ret
    exact ⟨_, rfl, ho, hb2⟩
end Go.Proofs.Ytdnbiohohbnhgaa
