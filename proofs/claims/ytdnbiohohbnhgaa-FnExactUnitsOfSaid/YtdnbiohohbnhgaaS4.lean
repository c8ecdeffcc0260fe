/- The contract of the reference's l2Func. No conditions. -/
import Derived.Test.YtdnbiohohbnhgaaS2
import Derived.Test.YtdnbiohohbnhgaaS3
set_option linter.unusedSimpArgs false
set_option linter.unusedVariables false
namespace Go.Proofs.Ytdnbiohohbnhgaa
open Go.RowKit
theorem funcOk_spec (f : XFunc) (funcs : Int) : funcOk f funcs = ((decide (f.params.length ≤ 4) && (widthOk f.ret && (inR f.blocks.length 1 10 && decide (countOf f ≤ 60)))) && (f.params.all widthOk && f.blocks.all (blockOk (countOf f) funcs f.blocks.length))) := by
  simp only [funcOk]
  generalize decide (f.params.length ≤ 4) = a
  generalize widthOk f.ret = b
  generalize inR f.blocks.length 1 10 = c
  generalize f.params.all widthOk = d
  generalize decide (countOf f ≤ 60) = e
  cases a <;> cases b <;> cases c <;> cases d <;> cases e <;> simp
set_option maxHeartbeats 8000000 in
set_option maxRecDepth 100000 in
theorem s_l2Func (f : XFunc) (cs : List Value) (funcs : Int) (w : World) (hf : KFunc lm w f cs) (hf0 : 0 ≤ funcs) (hf1 : funcs ≤ 1048576) :
    Calls Try.prog 26 #[.agg cs.toArray, .int .i64 funcs] w (Ret (.bool (funcOk f funcs)) w) := by
  have hR := Hd.mk (funcOk_spec f funcs)
  have hcount := fun W hW => s_CountOf f cs W (KM.mv hf hW)
  have hc0 := countOf_nn f
  obtain ⟨v1, v2, rfl, hp, hb⟩ := hf
  obtain ⟨A1, c1, rfl, -, hl1, hp0⟩ := hp.sm
  obtain ⟨A2, c2, rfl, -, hl2, hb0⟩ := hb.sm
  have hbl := fun o => (Below.refl w.heap.size w).al (Nat.le_refl _) o
  clear hb hp
  generalize funcOk f funcs = R at *
  generalize countOf f = ids at *
  generalize hpp : f.params = pl at *
  generalize f.ret = r at *
  generalize f.blocks = l at *
  clear hpp
  cases hpre : (decide (pl.length ≤ 4) && (widthOk r && (inR l.length 1 10 && decide (ids ≤ 60)))) with
  | false =>
    have hR2 := hR.out
    rw [hpre] at hR2
    simp at hR2
    subst hR2
    by_cases h1 : 4 < pl.length
    · have d1 : decide (4 < (pl.length : Int)) = true := by simp; omega
      clear hpre
      go_enter Try.func26, Try.ntmps26
      go_wp2_with fail
      refine (hcount _ (hbl _)).mono ?_; rintro e w1 ⟨rfl, hb1⟩
      have k0 := bat hb1 w.heap.size (by simp)
      simp at k0
      go_wp2
      go_ret
      exact ⟨rfl, (hbl _).then hb1⟩
    have d1 : decide (4 < (pl.length : Int)) = false := by simp; omega
    rw [show decide (pl.length ≤ 4) = true by simp; omega] at hpre
    simp only [Bool.true_and] at hpre
    cases hw : widthOk r with
    | false =>
      clear hpre
      go_enter Try.func26, Try.ntmps26
      go_wp2_with fail
      refine (hcount _ (hbl _)).mono ?_; rintro e w1 ⟨rfl, hb1⟩
      have k0 := bat hb1 w.heap.size (by simp)
      simp at k0
      go_wp2_with (go_at_call 48; refine (s_WidthOk _ _).mono ?_; rintro e w' ⟨rfl, rfl⟩)
      go_ret
      exact ⟨rfl, (hbl _).then hb1⟩
    | true =>
      rw [hw] at hpre
      simp only [Bool.true_and] at hpre
      cases hn : inR l.length 1 10 with
      | false =>
        clear hpre
        go_enter Try.func26, Try.ntmps26
        go_wp2_with fail
        refine (hcount _ (hbl _)).mono ?_; rintro e w1 ⟨rfl, hb1⟩
        have k0 := bat hb1 w.heap.size (by simp)
        simp at k0
        go_wp2_with (first | (go_at_call 48; refine (s_WidthOk _ _).mono ?_; rintro e w' ⟨rfl, rfl⟩) | (go_at_call 36; refine (s_l1In _ _ _ _).mono ?_; rintro e w' ⟨rfl, rfl⟩))
        go_ret
        exact ⟨rfl, (hbl _).then hb1⟩
      | true =>
        rw [hn] at hpre
        simp only [Bool.true_and] at hpre
        have d2 : decide (60 < ids) = true := by simp at hpre ⊢; omega
        clear hpre
        go_enter Try.func26, Try.ntmps26
        go_wp2_with fail
        refine (hcount _ (hbl _)).mono ?_; rintro e w1 ⟨rfl, hb1⟩
        have k0 := bat hb1 w.heap.size (by simp)
        simp at k0
        go_wp2_with (first | (go_at_call 48; refine (s_WidthOk _ _).mono ?_; rintro e w' ⟨rfl, rfl⟩) | (go_at_call 36; refine (s_l1In _ _ _ _).mono ?_; rintro e w' ⟨rfl, rfl⟩))
        go_ret
        exact ⟨rfl, (hbl _).then hb1⟩
  | true =>
    rw [hpre] at hR
    simp only [Bool.and_eq_true, decide_eq_true_eq] at hpre
    obtain ⟨h1, hw, hn, hi60⟩ := hpre
    have d1 : decide (4 < (pl.length : Int)) = false := by simp; omega
    have d2 : decide (60 < ids) = false := by simp; omega
    go_enter Try.func26, Try.ntmps26
    go_wp2_with fail
    refine (hcount _ (hbl _)).mono ?_; rintro e w1 ⟨rfl, hb1⟩
    have k0 := bat hb1 w.heap.size (by simp)
    have hz1 := hb1.size
    simp at k0 hz1
    have hbw1 := Hd.mk ((hbl _).then hb1)
    clear hb1 hcount
    go_wp2_with (first | (go_at_call 48; refine (s_WidthOk _ _).mono ?_; rintro e w' ⟨rfl, rfl⟩) | (go_at_call 36; refine (s_l1In _ _ _ _).mono ?_; rintro e w' ⟨rfl, rfl⟩))
    clear d1 d2 hw hn
    go_loop [7] (fun s7 => ∃ k : Nat, k ≤ pl.length ∧ s7 = .int .i64 k ∧ Hd ((pl.take k).all widthOk = true)) (fun s7 => pl.length - (intOf s7).toNat)
    case atStart => exact ⟨0, Nat.zero_le _, rfl, ⟨by simp⟩⟩
    case round =>
      obtain ⟨k, hk, rfl, hall⟩ := hrel
      by_cases hlt : k < pl.length
      · obtain ⟨b, off, cs, hA, hbl', hk1, hat⟩ := hp0.out.in0 hbw1.out k hlt
        cases hA
        cases hk1
        have g0 := hat 0 _ rfl
        simp at g0
        clear hat
        have hsn := Hd.mk (all_take_snoc widthOk pl k hlt)
        have hfail := fun h => Hd.mk (all_false_of widthOk pl k hlt h)
        generalize pl[k] = y at *
        cases hq : widthOk y with
        | false =>
          have hR2 := hR.out
          rw [(hfail hq).out] at hR2
          simp at hR2
          subst hR2
          go_wp2_with (go_at_call 48; refine (s_WidthOk _ _).mono ?_; rintro e w' ⟨rfl, rfl⟩)
          go_ret
          exact ⟨rfl, hbw1.out⟩
        | true =>
          go_wp2_with (go_at_call 48; refine (s_WidthOk _ _).mono ?_; rintro e w' ⟨rfl, rfl⟩)
          go_round
          case rel => exact ⟨k + 1, by omega, by go_num, ⟨by rw [hsn.out, hall.out, hq]; rfl⟩⟩
          case measure => simp [intOf]; omega
      · have e : k = pl.length := by omega
        subst e
        rw [List.take_length] at hall
        rw [hall.out] at hR
        clear hp0 hall
        have hR' := Hd.mk (show R = l.all (blockOk ids funcs l.length) by rw [hR.out]; rfl)
        clear hR
        have hz1' : w.heap.size < w1.heap.size := by omega
        go_wp2
        go_loopw [8] (fun s8 wr => ∃ k : Nat, k ≤ l.length ∧ s8 = .int .i64 k ∧ Hd (Below w1.heap.size w1 wr) ∧ Hd ((l.take k).all (blockOk ids funcs l.length) = true)) (fun s8 _ => l.length - (intOf s8).toNat)
        case atStart => exact ⟨0, Nat.zero_le _, rfl, ⟨Below.refl _ _⟩, ⟨by simp⟩⟩
        case round =>
          obtain ⟨k, hk, rfl, hbr, hall⟩ := hrel
          obtain ⟨wo, rfl⟩ : ∃ wo : World, wo = wr := ⟨_, rfl⟩
          have hzr := hbr.out.size
          have hbw := Hd.mk (hbw1.out.then hbr.out)
          replace k0 := fun o => (bat hbr.out w.heap.size hz1' o).trans (k0 o)
          by_cases hlt : k < l.length
          · obtain ⟨b, off, cs, hA, hbl', ⟨v1, v2, rfl, hr, hr2⟩, hat⟩ := hb0.out.in0 hbw.out k hlt
            cases hA
            have g0 := hat 0 _ rfl
            have g1 := hat 1 _ rfl
            have g2 := hat 2 _ rfl
            have g3 := hat 3 _ rfl
            have g4 := hat 4 _ rfl
            have g5 := hat 5 _ rfl
            clear hat
            simp at g0 g1 g2 g3 g4 g5
            have hsn := Hd.mk (all_take_snoc (blockOk ids funcs l.length) l k hlt)
            have hbk : blockOk ids funcs l.length l[k] = (l[k].phis.all (phiOk ids) && (l[k].insts.all (instOk ids funcs) && termOk ids l.length l[k].term)) := by simp only [blockOk, Bool.and_assoc]
            have hfail := Hd.mk (fun h => all_false_of (blockOk ids funcs l.length) l k hlt h)
            have hbk' := Hd.mk hbk
            clear hbk
            generalize l[k] = x at *
            obtain ⟨A3, c3, rfl, -, hl3, hr0⟩ := hr.sm
            obtain ⟨A4, c4, rfl, -, hl4, hr20⟩ := hr2.sm
            clear hr hr2
            have hT := fun W => s_l2Term x.term ids l.length W hc0 (by omega) (by omega) (by omega)
            simp only [termV] at hT
            generalize x.term = t at *
            generalize x.phis = ps at *
            generalize x.insts = is at *
            have z0 : w.heap.size < wo.heap.size := by omega
            have hno : ∀ q1 q2 q3 : Bool, ps.all (phiOk ids) = q1 → is.all (instOk ids funcs) = q2 → termOk ids l.length t = q3 → (q1 && (q2 && q3)) = false → R = false := fun q1 q2 q3 e1 e2 e3 h => by rw [hR'.out]; exact hfail.out (by rw [hbk'.out, e1, e2, e3, h])
            have hno' := Hd.mk hno
            clear hno hfail
            go_wp2
            generalize hwx : wo.alloc (.cells #[.slice A3 ps.length c3, .slice A4 is.length c4, .int .i64 t.kind, .int .i64 t.a, .int .i64 t.x, .int .i64 t.y] 93) = wx
            have hbx : Below wo.heap.size wo wx := by subst hwx; exact (Below.refl _ _).al (Nat.le_refl _) _
            have kx : ∀ o, wx.cell? ⟨wo.heap.size, o, none⟩ = (#[.slice A3 ps.length c3, .slice A4 is.length c4, .int .i64 t.kind, .int .i64 t.a, .int .i64 t.x, .int .i64 t.y] : Array Value)[o]? := by subst hwx; intro o; simp
            have kf := fun o => (bat hbx w.heap.size z0 o).trans (k0 o)
            have hzx := hbx.size
            have hzx1 : wo.heap.size < wx.heap.size := by subst hwx; simp
            have hbwx := Hd.mk (hbw.out.then hbx)
            have hbrx := Hd.mk (hbr.out.then hbx)
            clear hwx hbx k0 g0 g1 g2 g3 g4 g5
            go_loop [10] (fun s10 => ∃ i : Nat, i ≤ ps.length ∧ s10 = .int .i64 i ∧ Hd ((ps.take i).all (phiOk ids) = true)) (fun s10 => ps.length - (intOf s10).toNat)
            case atStart => exact ⟨0, Nat.zero_le _, rfl, ⟨by simp⟩⟩
            case round =>
              obtain ⟨i, hi, rfl, hallP⟩ := hrel
              by_cases hlti : i < ps.length
              · obtain ⟨b5, off5, cs5, hA5, hbl5, ⟨v5, rfl, hr5⟩, hat5⟩ := hr0.out.in0 hbwx.out i hlti
                cases hA5
                have i0 := hat5 0 _ rfl
                have i1 := hat5 1 _ rfl
                clear hat5
                simp at i0 i1
                have hsnP := Hd.mk (all_take_snoc (phiOk ids) ps i hlti)
                have hfailP := Hd.mk (fun h => all_false_of (phiOk ids) ps i hlti h)
                have hpk := Hd.mk (show phiOk ids ps[i] = (widthOk ps[i].w && decide (ps[i].ins.length ≤ 10) && ps[i].ins.all (isIdB ids)) from rfl)
                generalize ps[i] = p at *
                obtain ⟨A6, c6, rfl, -, hl6, hr60⟩ := hr5.sm
                clear hr5
                cases hpw : widthOk p.w with
                | false =>
                  have e := hno'.out false _ _ (hfailP.out (by rw [hpk.out, hpw]; rfl)) rfl rfl rfl
                  subst e
                  go_wp2_with (go_at_call 48; refine (s_WidthOk _ _).mono ?_; rintro e w' ⟨rfl, rfl⟩)
                  go_ret
                  exact ⟨rfl, hbwx.out⟩
                | true =>
                  by_cases h10 : 10 < p.ins.length
                  · have d10 : decide (10 < (p.ins.length : Int)) = true := by simp; omega
                    have e := hno'.out false _ _ (hfailP.out (by rw [hpk.out, hpw, show decide (p.ins.length ≤ 10) = false by simp; omega]; rfl)) rfl rfl rfl
                    subst e
                    go_wp2_with (go_at_call 48; refine (s_WidthOk _ _).mono ?_; rintro e w' ⟨rfl, rfl⟩)
                    go_ret
                    exact ⟨rfl, hbwx.out⟩
                  · have d10 : decide (10 < (p.ins.length : Int)) = false := by simp; omega
                    rw [hpw, show decide (p.ins.length ≤ 10) = true by simp; omega] at hpk
                    generalize p.ins = ns at *
                    generalize p.w = pw at *
                    go_wp2_with (go_at_call 48; refine (s_WidthOk _ _).mono ?_; rintro e w' ⟨rfl, rfl⟩)
                    clear hpw d10
                    go_loop [11] (fun s11 => ∃ j : Nat, j ≤ ns.length ∧ s11 = .int .i64 j ∧ Hd ((ns.take j).all (isIdB ids) = true)) (fun s11 => ns.length - (intOf s11).toNat)
                    case atStart => exact ⟨0, Nat.zero_le _, rfl, ⟨by simp⟩⟩
                    case round =>
                      obtain ⟨j, hj, rfl, hallN⟩ := hrel
                      by_cases hltj : j < ns.length
                      · obtain ⟨b7, off7, cs7, hA7, hbl7, hk7, hat7⟩ := hr60.out.in0 hbwx.out j hltj
                        cases hA7
                        cases hk7
                        have n0 := hat7 0 _ rfl
                        simp at n0
                        clear hat7
                        have hsnN := Hd.mk (all_take_snoc (isIdB ids) ns j hltj)
                        have hfailN := Hd.mk (fun h => all_false_of (isIdB ids) ns j hltj h)
                        have hid : isIdB ids ns[j] = inR ns[j] 0 (ids - 1) := rfl
                        generalize ns[j] = y at *
                        cases hq : inR y 0 (ids - 1) with
                        | false =>
                          have e := hno'.out false _ _ (hfailP.out (by rw [hpk.out, hfailN.out (by rw [hid, hq])]; rfl)) rfl rfl rfl
                          subst e
                          go_wp2_with (go_at_call 36; refine (s_l1In _ _ _ _).mono ?_; rintro e w' ⟨rfl, rfl⟩)
                          go_ret
                          exact ⟨rfl, hbwx.out⟩
                        | true =>
                          go_wp2_with (go_at_call 36; refine (s_l1In _ _ _ _).mono ?_; rintro e w' ⟨rfl, rfl⟩)
                          go_round
                          case rel => exact ⟨j + 1, by omega, by go_num, ⟨by rw [hsnN.out, hallN.out, hid, hq]; rfl⟩⟩
                          case measure => simp [intOf]; omega
                      · have e : j = ns.length := by omega
                        subst e
                        rw [List.take_length] at hallN
                        rw [hallN.out] at hpk
                        go_wp2
                        go_round
                        case rel => exact ⟨i + 1, by omega, by go_num, ⟨by rw [hsnP.out, hallP.out, hpk.out]; rfl⟩⟩
                        case measure => simp [intOf]; omega
              · have e : i = ps.length := by omega
                subst e
                rw [List.take_length] at hallP
                have hall1 := hallP.out
                rw [hall1] at hbk'
                clear hallP
                go_wp2
                go_loopw [12] (fun s12 wr => ∃ i : Nat, i ≤ is.length ∧ s12 = .int .i64 i ∧ Hd (Below wx.heap.size wx wr) ∧ Hd ((is.take i).all (instOk ids funcs) = true)) (fun s12 _ => is.length - (intOf s12).toNat)
                case atStart => exact ⟨0, Nat.zero_le _, rfl, ⟨Below.refl _ _⟩, ⟨by simp⟩⟩
                case round =>
                  obtain ⟨i, hi, rfl, hbq, hallI⟩ := hrel
                  have hzq := hbq.out.size
                  have hbwq := Hd.mk (hbwx.out.then hbq.out)
                  replace kx := fun o => (bat hbq.out wo.heap.size hzx1 o).trans (kx o)
                  replace kf := fun o => (bat hbq.out w.heap.size (by omega) o).trans (kf o)
                  by_cases hlti : i < is.length
                  · obtain ⟨b5, off5, cs5, hA5, hbl5, ⟨v5, rfl, hr5⟩, hat5⟩ := hr20.out.in0 hbwq.out i hlti
                    cases hA5
                    have i0 := hat5 0 _ rfl
                    have i1 := hat5 1 _ rfl
                    have i2 := hat5 2 _ rfl
                    have i3 := hat5 3 _ rfl
                    have i4 := hat5 4 _ rfl
                    have i5 := hat5 5 _ rfl
                    have i6 := hat5 6 _ rfl
                    clear hat5
                    simp at i0 i1 i2 i3 i4 i5 i6
                    have hsnI := Hd.mk (all_take_snoc (instOk ids funcs) is i hlti)
                    have hfailI := Hd.mk (fun h => all_false_of (instOk ids funcs) is i hlti h)
                    have hI := s_l2Inst is[i] v5 ids funcs wr (hr5.mv hbwq.out) hc0 (by omega) hf0 hf1
                    simp only [instV] at hI
                    obtain ⟨A6, c6, rfl, -, -, -⟩ := hr5.sm
                    clear hr5
                    generalize hq : instOk ids funcs is[i] = q at *
                    generalize is[i] = x at *
                    clear hq
                    cases q with
                    | false =>
                      have e := hno'.out true false _ hall1 (hfailI.out rfl) rfl rfl
                      subst e
                      go_wp2_with fail
                      refine hI.mono ?_; rintro e wz ⟨rfl, hbz⟩
                      go_wp2
                      go_ret
                      exact ⟨rfl, hbwq.out.then hbz⟩
                    | true =>
                      go_wp2_with fail
                      refine hI.mono ?_; rintro e wz ⟨rfl, hbz⟩
                      have hbz' := Hd.mk (hbq.out.then hbz)
                      clear hbz hI
                      go_wp2
                      go_roundw
                      case rel => exact ⟨i + 1, by omega, by go_num, hbz', ⟨by rw [hsnI.out, hallI.out]; rfl⟩⟩
                      case measure => simp [intOf]; omega
                  · have e : i = is.length := by omega
                    subst e
                    rw [List.take_length] at hallI
                    have hall2 := hallI.out
                    rw [hall2] at hbk'
                    clear hallI
                    have hbrq := Hd.mk (hbrx.out.then hbq.out)
                    cases hq : termOk ids l.length t with
                    | false =>
                      rw [hq] at hT
                      have e := hno'.out true true false hall1 hall2 hq rfl
                      subst e
                      clear hq
                      go_wp2_with fail
                      refine (hT _).mono ?_; rintro e wz ⟨rfl, hbz⟩
                      go_wp2
                      go_ret
                      exact ⟨rfl, hbwq.out.then hbz⟩
                    | true =>
                      rw [hq] at hT hbk'
                      clear hq
                      go_wp2_with fail
                      refine (hT _).mono ?_; rintro e wz ⟨rfl, hbz⟩
                      have hbz' := Hd.mk (hbrq.out.then hbz)
                      clear hbz hT
                      go_wp2
                      go_roundw
                      case rel => exact ⟨k + 1, by omega, by go_num, hbz', ⟨by rw [hsn.out, hall.out, hbk'.out]; rfl⟩⟩
                      case measure => simp [intOf]; omega
          · have e : k = l.length := by omega
            subst e
            rw [List.take_length] at hall
            have hR2 := hR'.out
            rw [hall.out] at hR2
            subst hR2
            go_wp2
            go_ret
            exact ⟨rfl, hbw.out⟩
end Go.Proofs.Ytdnbiohohbnhgaa
