import Derived.Test.YtkcgejbnhpccdaaGreatT23
set_option linter.unusedSimpArgs false
set_option linter.unusedVariables false
namespace Go.Proofs.YtkcgejbnhpccdaaGreat
open Go.RowKit
set_option maxHeartbeats 1000000 in
theorem s_belowN (lo g : Nat) (n : Int) (w : World) (h : RdS lo w g) (hn : 1 ≤ n ∧ n ≤ 60000) : Calls Tryz.prog 52 #[.pointer (some ⟨g, 0, none⟩), .int .i64 n] w (RetRd lo g (fun v => ∃ q : Int, v = .int .i64 q ∧ 0 ≤ q ∧ q < n) w) := by
  by_cases h256 : n ≤ 256
  · exact s_below lo g n w h ⟨hn.1, h256⟩
  obtain ⟨n1, n2⟩ := hn
  have hx := s_next lo g w h
  have hm : ∀ q : Int, 0 ≤ q → 0 ≤ q % n ∧ q % n < n := fun q hq => ⟨Int.emod_nonneg _ (by omega), Int.emod_lt_of_pos _ (by omega)⟩
  have hm' := Hd.mk hm
  have hd : ¬ n ≤ 1 := by omega
  clear h hm
  go_enter Tryz.func52, Tryz.ntmps52
  go_wp2_with fail
  refine hx.mono ?_; rintro e w1 ⟨v, rfl, ⟨q, rfl, q1, q2⟩, hr, hg⟩
  have hy := s_next lo g w1 hr
  have hg' := Hd.mk hg
  clear hr hg
  go_wp2_with fail
  refine hy.mono ?_; rintro e w2 ⟨v, rfl, ⟨p, rfl, p1, p2⟩, hr, hg⟩
  have hg2 := Hd.mk (gb_trans hg'.out hg)
  have hr2 := Hd.mk hr
  have hm2 := Hd.mk (hm'.out (q * 256 + p) (by omega))
  clear hr hg
  go_wp2
  go_ret
  exact ⟨_, rfl, ⟨_, rfl, hm2.out.1, hm2.out.2⟩, hr2.out, hg2.out⟩
theorem no24 {o w : Int} (h : o ≠ 24) (h' : o ≠ 25) : (o = 24 ∨ o = 25) → w = 0 := fun e => by
  rcases e with e | e
  · exact absurd e h
  · exact absurd e h'
theorem kinst_nil (op wd a b c imm : Int) (E : Nat → Prop) (W : World) : Bx E (QInst (instC ⟨op, wd, a, b, c, imm, []⟩ (.slice none 0 0))) W := fun _ _ => ⟨⟨op, wd, a, b, c, imm, []⟩, trivial, _, rfl, rd_nilK⟩
set_option maxRecDepth 20000 in
set_option maxHeartbeats 4000000 in
theorem s_pick (C : GC) (D : GD) (wd : Int) (W : World) (h : GS C D W) (hm : Nm D) (hn : D.next + 1 ≤ 900) (hw : isW wd) : Calls Tryz.prog 157 #[.pointer (some ⟨C.gg, 0, none⟩), .int .i64 wd] W (RetG 1 C D W) := by
  have hn0 := h.n0
  have hh := Hd.mk h
  obtain ⟨A1, c1, xs, e1, l1, r1⟩ := bx_ri h.eI
  obtain ⟨A2, c2, ys, e2, l2, r2⟩ := bx_ri h.eW
  have hi9 : D.nid ≤ 1000 := h.n4
  have k0 := h.at 0
  have k11 := h.at 11
  have k12 := h.at 12
  simp [GD.cells] at k0 k11 k12
  rw [e1] at k11
  rw [e2] at k12
  have r1' := Hd.mk r1
  have r2' := Hd.mk r2
  have l1' := Hd.mk l1
  have l2' := Hd.mk l2
  have hlt := h.lt
  clear h e1 e2 r1 r2 l1 l2
  go_enter Tryz.func157, Tryz.ntmps157
  go_wp2
  go_loopw [5, 6] (fun s5 s6 wr => ∃ (k : Nat) (fs : List Int), k ≤ D.nid ∧ s6 = .int .i64 k ∧ Hd (wr.ownsRow W.heap.size 2 1 s5 fs.length (fs.map (.int .i64))) ∧ Hd (fs.length ≤ k) ∧ Hd (Below W.heap.size W wr)) (fun _ s6 _ => D.nid - (intOf s6).toNat)
  case atStart => exact ⟨0, [], Nat.zero_le _, rfl, ⟨own_empty _ _ _ _ _ rfl (Nat.le_refl _)⟩, ⟨Nat.le_refl _⟩, ⟨(Below.refl _ _).al (Nat.le_refl _) _⟩⟩
  case round =>
    obtain ⟨k, fs, hk, rfl, ho, hfk, hbr⟩ := hrel
    have j11 := (bat hbr.out C.gg hlt 11).trans k11
    have j12 := (bat hbr.out C.gg hlt 12).trans k12
    have j0 := (bat hbr.out C.gg hlt 0).trans k0
    have hltr : C.gg < wr.heap.size := Nat.lt_of_lt_of_le hlt hbr.out.size
    by_cases hlk : k < D.nid
    · obtain ⟨b, off, cs, hA, hbl, hk1, hat⟩ := (r2'.out _ hbr.out).in0 (Below.refl _ _) k (by have := l2'.out; omega)
      cases hA
      cases hk1
      have g0 := hat 0 _ rfl
      simp at g0
      clear hat
      obtain ⟨b2, off2, cs, hA, hbl2, hk1, hat⟩ := (r1'.out _ hbr.out).in0 (Below.refl _ _) k (by have := l1'.out; omega)
      cases hA
      cases hk1
      have f0 := hat 0 _ rfl
      simp at f0
      clear hat
      have hzk : (k : Int) < (D.nid : Int) := by omega
      have hz0 : (0 : Int) ≤ (k : Int) := by omega
      generalize xs[k]'_ = x at *
      generalize ys[k]'_ = y at *
      have hal := Hd.mk fun (o : Obj) => (Below.refl wr.heap.size wr).al (Nat.le_refl _) o
      by_cases he : y = wd
      · have d : (y == wd) = true := by simpa using he
        go_wp2_with (at_builtin; refine app_I rfl _ _ rfl W.heap.size _ fs [x] rfl (own_mv ho.out (hal.out _)) _ 1 1 rfl (rd_one _ _) (by have := hfk.out; omega) (by have := hbr.out.size; simp; omega) ?_)
        intro v' w' ho' hg'
        have hb' := Hd.mk (gb_fresh (hbr.out.then (hal.out _)) hg' (own_mv ho.out (hal.out _)) (Nat.le_refl _))
        have ho2 := Hd.mk ho'
        clear ho' hg'
        go_wp2
        go_roundw
        case rel => exact ⟨k + 1, fs ++ [x], by omega, by go_num, ⟨by simpa using ho2.out⟩, ⟨by have := hfk.out; simp; omega⟩, hb'⟩
        case measure => simp [intOf]; omega
      · have d := beqF he
        go_wp2
        go_roundw
        case rel => exact ⟨k + 1, fs, by omega, by go_num, ho, ⟨by have := hfk.out; omega⟩, hbr⟩
        case measure => simp [intOf]; omega
    · have hlk' : ¬ (k : Int) < (D.nid : Int) := by omega
      have hgw := Hd.mk (hh.out.mv hbr.out)
      obtain ⟨A5, c5, rfl, -, -, -, hA5⟩ := own_shape ho.out
      have hri := Hd.mk (fun X (hX : Below wr.heap.size wr X) => ((OwI.of ho.out).rd (by have := hfk.out; show _ ≤ 1048576; omega)).mv hX)
      have hm9 : fs.length ≤ 1000 := by have := hfk.out; omega
      have hm' := Hd.mk hm
      have hgr9 : C.gr < W.heap.size := hh.out.rs.lt
      clear j12 hA5 k0 k11 k12 r1' r2' hbr hm
      by_cases hz : fs.length = 0
      · have d : ((fs.length : Int) == 0) = true := by simp [hz]
        have hrs := hgw.out.gs.rs
        have j0x := hgw.out.gs.at 0
        simp [GD.cells] at j0x
        clear j0 hrs
        have hval := s_value C.lo C.gr wd _ hgw.out.gs.rs hw
        rcases hw with rfl | rfl | rfl | rfl
        all_goals
          go_wp2_with fail
          refine hval.mono ?_; rintro e w8 ⟨v, rfl, ⟨x, rfl⟩, hr8, hg8⟩
          have hg9 := Hd.mk (hgw.out.trans (hgw.out.gs.rd hg8 hr8))
          clear hr8 hg8 hval
          go_wp2_with fail
          refine (s_put C D ⟨21, _, 0, 0, 0, _, []⟩ none 0 0 _ hg9.out.gs hm'.out hn (kinst_nil _ _ _ _ _ _ _ _) (no24 (show (21 : Int) ≠ 24 by decide) (show (21 : Int) ≠ 25 by decide))).mono ?_
          rintro e w9 ⟨q, D', rfl, hgp, hin, hnm⟩
          have hgp' := Hd.mk (hg9.out.trans hgp)
          have hin' := Hd.mk hin
          have hnm' := Hd.mk hnm
          clear hgp hin hnm
          go_wp2
          go_ret
          exact ⟨_, D', rfl, hgp'.out, hin'.out, hnm'.out⟩
      · have d : ((fs.length : Int) == 0) = false := by simpa using hz
        have honce := s_once C.lo C.gr 5 wr hgw.out.gs.rs (by omega)
        go_wp2_with fail
        refine honce.mono ?_; rintro e w2 ⟨v, rfl, ⟨bb, rfl⟩, hr2, hg2⟩
        have hgx := Hd.mk (hgw.out.trans (hgw.out.gs.rd hg2 hr2))
        have ho2 := Hd.mk (own_fr ho.out (Fr.gb hg2) (fun k' e e' => by have := own_block_ge ho.out k' e; injection e' with e'; omega))
        clear hr2 hg2 honce
        cases bb with
        | true =>
          have hrs := hgx.out.gs.rs
          have j0x := hgx.out.gs.at 0
          simp [GD.cells] at j0x
          clear j0 hrs
          have hval := s_value C.lo C.gr wd _ hgx.out.gs.rs hw
          rcases hw with rfl | rfl | rfl | rfl
          all_goals
            go_wp2_with fail
            refine hval.mono ?_; rintro e w8 ⟨v, rfl, ⟨x, rfl⟩, hr8, hg8⟩
            have hg9 := Hd.mk (hgx.out.trans (hgx.out.gs.rd hg8 hr8))
            clear hr8 hg8 hval
            go_wp2_with fail
            refine (s_put C D ⟨21, _, 0, 0, 0, _, []⟩ none 0 0 _ hg9.out.gs hm'.out hn (kinst_nil _ _ _ _ _ _ _ _) (no24 (show (21 : Int) ≠ 24 by decide) (show (21 : Int) ≠ 25 by decide))).mono ?_
            rintro e w9 ⟨q, D', rfl, hgp, hin, hnm⟩
            have hgp' := Hd.mk (hg9.out.trans hgp)
            have hin' := Hd.mk hin
            have hnm' := Hd.mk hnm
            clear hgp hin hnm
            go_wp2
            go_ret
            exact ⟨_, D', rfl, hgp'.out, hin'.out, hnm'.out⟩
        | false =>
          have hrs := s_belowN C.lo C.gr ((fs.length : Int) + 2) w2 hgx.out.gs.rs (by omega)
          have j0x := hgx.out.gs.at 0
          simp [GD.cells] at j0x
          clear j0
          go_wp2_with fail
          refine hrs.mono ?_; rintro e w3 ⟨v, rfl, ⟨q, rfl, q1, q2⟩, hr3, hg3⟩
          have ho3 := own_fr ho2.out (Fr.gb hg3) (fun k' e e' => by have := own_block_ge ho.out k' e; injection e' with e'; omega)
          have hgy := Hd.mk (hgx.out.trans (hgx.out.gs.rd hg3 hr3))
          obtain ⟨A6, c6, hv6, -, -, -, hA6⟩ := own_shape ho3
          cases hv6
          obtain ⟨b6, rfl, hb6, hc6⟩ := hA6 (by omega)
          have hc6' := Hd.mk hc6
          have hin : InsR 1 D D := (InsR.refl D).mono (by omega)
          have hin' := Hd.mk hin
          clear hr3 hg3 ho3 hc6 hA6 hrs hri ho ho2 hfk hk l1' l2' hin
          by_cases hq : (fs.length : Int) ≤ q
          · obtain ⟨p, hp⟩ : ∃ p, fs.length = p + 1 := ⟨fs.length - 1, by omega⟩
            have g6 := hc6'.out p (.int .i64 (fs[p]'(by omega))) (by simp)
            generalize fs[p]'_ = y6 at *
            have hwp : IntKind.i64.wrap (p : Int) = p := IntWalk.i64_in _ (by omega)
            rw [hp] at hq d q2 hm9 ⊢
            have i0 : (0 : Int) ≤ (p : Int) := by omega
            have i1 : (p : Int) < (p : Int) + 1 := by omega
            have i2 : p < p + 1 := by omega
            go_wp2
            go_ret
            exact ⟨_, D, rfl, hgy.out, hin'.out, hm'.out⟩
          · obtain ⟨j, rfl⟩ : ∃ j : Nat, q = j := ⟨q.toNat, by omega⟩
            have hj : j < fs.length := by omega
            have g6 := hc6'.out j (.int .i64 (fs[j]'hj)) (by simp)
            generalize fs[j]'_ = y6 at *
            have i1 : (j : Int) < (fs.length : Int) := by omega
            have i0 : (0 : Int) ≤ (j : Int) := by omega
            go_wp2
            go_ret
            exact ⟨_, D, rfl, hgy.out, hin'.out, hm'.out⟩
end Go.Proofs.YtkcgejbnhpccdaaGreat
