import Derived.Test.YtkcgejbnhpccdaaGreatT12
import Derived.Deep.RegionHeld3
set_option linter.unusedSimpArgs false
set_option linter.unusedVariables false
namespace Go.Proofs.YtkcgejbnhpccdaaGreat
open Go.RowKit
abbrev OI (lo : Nat) (w : World) (v : Value) (xs : List Int) : Prop := w.ownsRow lo 2 1 v xs.length (xs.map (Value.int .i64))
theorem OI.rd {lo : Nat} {w : World} {v : Value} {xs : List Int} (h : OI lo w v xs) (hl : xs.length ≤ 1048576) : RI lm w v xs := (own_ints h hl).2
theorem OI.head {lo : Nat} {W : World} {v : Value} {b : Int} {r : List Int} (h : OI lo W v (b :: r)) : ∃ g cap, v = .slice (some ⟨g, 0, none⟩) (r.length + 1) cap ∧ g < W.heap.size ∧ r.length + 1 ≤ cap ∧ W.cell? ⟨g, 0, none⟩ = some (.int .i64 b) := by
  obtain ⟨A, c, rfl, h1, h2, h3, h4⟩ := own_shape h
  simp only [List.length_cons] at *
  obtain ⟨g, rfl, h5, h6⟩ := h4 (by omega)
  exact ⟨g, c, rfl, h5, h1, h6 0 _ (by simp)⟩
theorem reach_eq0 (f : XFunc) (h : 0 < f.blocks.length) : trues (reach f 0) = [] := by rw [reach_wo0, trues_none]
theorem OI.grown {lo : Nat} {W W' : World} {v u : Value} {xs : List Int} (h : OI lo W v xs) (hg : W.grownBy W' u.ownBlock) (hne : ∀ k, u.ownBlock = some k → k < lo) : OI lo W' v xs := by
  refine ⟨h.1, ?_⟩
  rcases h.2 with h' | ⟨g, cap, cur, hv, h1, h2, h3⟩
  · exact .inl h'
  · exact .inr ⟨g, cap, cur, hv, h1, (hg.block g (Array.getElem?_eq_some_iff.1 h2).1 (fun e => by have := hne g e.symm; omega)).trans h2, h3⟩
theorem oi_lt {lo : Nat} {W : World} {v : Value} {xs : List Int} (h : OI lo W v xs) : ∀ k, v.ownBlock = some k → k < W.heap.size := fun k hk => (World.ownsRow.lt h k hk).2
set_option maxRecDepth 20000 in
set_option maxHeartbeats 4000000 in
theorem s_l3Reach (f : XFunc) (cs : List Value) (wo : Int) (w : World) (hf : KFunc lm w f cs) (hg : inGraph f) (hn : 1 ≤ f.blocks.length ∧ f.blocks.length ≤ 10) : Calls Tryz.prog 151 #[.agg cs.toArray, .int .i64 wo] w (RetI (trues (reach f wo)) w) := by
  have hsu := fun (W : World) (k : Nat) (hW : Below w.heap.size w W) (h : k < f.blocks.length) => s_l3Succs f cs k W (KM.mv hf hW) h
  obtain ⟨v1, v2, rfl, hp, hb'⟩ := hf
  obtain ⟨A1, c1, rfl, -, hl1, -⟩ := hp.sm
  obtain ⟨A2, c2, rfl, hcap, hl2, -⟩ := hb'.sm
  clear hp hb'
  have hbl := fun o o' => ((Below.refl w.heap.size w).al (Nat.le_refl _) o).al (by simp) o'
  by_cases hw0 : wo = 0
  · subst hw0
    rw [reach_eq0 f (by omega)]
    clear hsu hg
    go_enter Tryz.func151, Tryz.ntmps151
    go_wp2
    go_ret
    exact ⟨_, rfl, own_lower (own_empty _ (w.heap.size + 1) _ _ _ (by simp) (by simp)) (by omega), hbl _ _⟩
  have hwb := beqF hw0
  clear hw0
  generalize hR : reach f wo = R
  have hR' := Hd.mk hR
  clear hR
  have hg' := Hd.mk hg
  clear hg
  have hsu' := Hd.mk hsu
  clear hsu
  unfold reach at hR'
  have hk00 : Hd (∀ o, (((w.alloc (.cells #[.slice A1 f.params.length c1, .int .i64 f.ret, .slice A2 f.blocks.length c2] 35)).alloc (.cells #[] 2)).alloc (.cells #[.int .i64 0] 2)).cell? ⟨w.heap.size, o, none⟩ = [Value.slice A1 f.params.length c1, .int .i64 f.ret, .slice A2 f.blocks.length c2][o]?) := ⟨fun o => (World.cell?_alloc_past _ _ _ (by first | omega | (simp; done) | (simp; omega))).trans ((World.cell?_alloc_past _ _ _ (by first | omega | (simp; done) | (simp; omega))).trans (by simp))⟩
  have hbl3 : Hd (∀ o o' o'', Below w.heap.size w (((w.alloc o).alloc o').alloc o'')) := ⟨fun o o' o'' => (((Below.refl w.heap.size w).al (Nat.le_refl _) o).al (by simp) o').al (by simp; omega) o''⟩
  have how : Hd (OI (w.heap.size + 1) (((w.alloc (.cells #[.slice A1 f.params.length c1, .int .i64 f.ret, .slice A2 f.blocks.length c2] 35)).alloc (.cells #[] 2)).alloc (.cells #[.int .i64 0] 2)) (.slice (some ⟨w.heap.size + 2, 0, none⟩) 1 1) [0]) := ⟨by
    have := World.ownsRow_lit (base := w.heap.size + 1) (e := 2) (size := 1) ((w.alloc (.cells #[.slice A1 f.params.length c1, .int .i64 f.ret, .slice A2 f.blocks.length c2] 35)).alloc (.cells #[] 2)) #[.int .i64 0] 1 (by simp) (by unfold maxLen; omega) (by simp)
    simpa [OI] using this⟩
  have hoe : Hd (OI (w.heap.size + 1) (((w.alloc (.cells #[.slice A1 f.params.length c1, .int .i64 f.ret, .slice A2 f.blocks.length c2] 35)).alloc (.cells #[] 2)).alloc (.cells #[.int .i64 0] 2)) (.slice (some ⟨w.heap.size + 1, 0, none⟩) 0 0) []) := ⟨own_mv (own_empty _ (w.heap.size + 1) _ _ _ (by simp) (by simp)) ((Below.refl _ _).al (Nat.le_refl _) _)⟩
  go_enter Tryz.func151, Tryz.ntmps151
  go_wp2
  go_loopg [5, 6] (3 * f.blocks.length + 1) (fun k s5 s6 wr => ∃ (left : List Int) (out : List Bool), k ≤ 3 * f.blocks.length + 1 ∧ Hd (reachGo f wo k left out = R) ∧ Hd (3 * falses out + left.length ≤ k) ∧ Hd (out.length = f.blocks.length) ∧ Hd (∀ x ∈ left, 0 ≤ x ∧ x < f.blocks.length) ∧ Hd (OI (w.heap.size + 1) wr s6 left) ∧ Hd (OI (w.heap.size + 1) wr s5 (trues out)) ∧ Hd (Below w.heap.size w wr) ∧ Hd (w.heap.size + 2 < wr.heap.size) ∧ Hd (∀ o, wr.cell? ⟨w.heap.size, o, none⟩ = [Value.slice A1 f.params.length c1, .int .i64 f.ret, .slice A2 f.blocks.length c2][o]?))
  case atStart =>
    exact ⟨[0], List.replicate f.blocks.length false, Nat.le_refl _, hR', ⟨by rw [falses_rep]; first | done | simp⟩, ⟨by simp⟩, ⟨fun x hx => by simp at hx; omega⟩, how, ⟨by rw [trues_none]; exact hoe.out⟩, ⟨hbl3.out _ _ _⟩, ⟨(by first | omega | (simp; done) | (simp; omega))⟩, hk00⟩
  case round =>
    obtain ⟨left, out, hk, hR, hm, hlo, hin, hq, ho, hbr, hz, hk0⟩ := hrel
    clear hR' how hoe hk00 hbl3 hbl
    have hz' := hz.out
    cases left with
    | nil =>
      have hRo : R = out := by rw [← hR.out]; exact reach_done _ _ _ _
      obtain ⟨Aq, cq, rfl, -⟩ := own_shape hq.out
      obtain ⟨Ap, cp, rfl, -⟩ := own_shape ho.out
      simp only [List.length_nil]
      go_wp2
      go_ret
      subst hRo
      exact ⟨_, rfl, own_lower ho.out (by omega), hbr.out⟩
    | cons b r =>
      obtain ⟨k', rfl⟩ : ∃ k', gk = k' + 1 := ⟨gk - 1, by have := hm.out; simp at this; omega⟩
      obtain ⟨y0, y1⟩ := hin.out b (by simp)
      have hinr := Hd.mk (fun x hx => hin.out x (List.mem_cons_of_mem b hx))
      have hst := Hd.mk ((reach_step f wo k' b r out).symm.trans hR.out)
      have hm' : 3 * falses out + r.length ≤ k' := by have := hm.out; simp at this; omega
      have hkk : k' ≤ 3 * f.blocks.length + 1 := by omega
      have hrl : r.length ≤ 31 := by omega
      have hbo : b.toNat < out.length := by rw [hlo.out]; omega
      have hhas := trues_has out b y0
      have hgd : out.getD b.toNat false = out[b.toNat] := by rw [List.getD_eq_getElem?_getD, List.getElem?_eq_getElem hbo]; rfl
      have hfs := fun h => Hd.mk (falses_set out b.toNat hbo h)
      have hps := fun h => Hd.mk (putS_trues out b.toNat hbo (hgd.trans h))
      rw [hgd] at hst hhas
      have htl := trues_len out
      have hlo' := hlo.out
      obtain ⟨g, cap, rfl, hgl, hcl, hc0⟩ := hq.out.head
      have hrdq := hq.out.rd (by simp; omega)
      have hrt := Hd.mk (ho.out.rd (by omega))
      obtain ⟨Ap, cp, rfl, -, -, -, -⟩ := own_shape ho.out
      have y2 : (1 : Int) ≤ (r.length : Int) + 1 := by omega
      have y3 : (r.length : Int) + 1 ≤ (cap : Int) := by omega
      have y4 : r.length + 1 ≤ cap := hcl
      have y5 : (0 : Int) < (r.length : Int) + 1 := by omega
      generalize out[b.toNat] = ob at *
      have hm'' := Hd.mk hm'
      clear hgd hin hR hq hm' hm hk
      by_cases hcc : cap = 1
      · subst hcc
        obtain rfl : r = [] := List.eq_nil_of_length_eq_zero (by omega)
        have hcp := fun (W : World) => s_l1Copy (.slice (some ⟨g, 0, none⟩) 0 0) [] W (rd0 W _ 0 (fun h => by cases h))
        clear hrdq
        simp only [List.length_nil] at *
        by_cases hwo : b = wo
        · subst hwo
          have hR2 := Hd.mk (show reachGo f b k' [] out = R by have := hst.out; rwa [if_pos (by simp)] at this)
          clear hst hfs hps hhas
          go_wp2_with fail
          refine (hcp _).mono ?_; rintro e w1 ⟨vw, rfl, how1, hb1⟩
          have hz1 := hb1.size
          have how1' := Hd.mk how1
          have hto1 := Hd.mk (own_mv ho.out hb1)
          have hrt1 := hrt.out.mv hb1
          have hB1 := Hd.mk (hbr.out.then hb1)
          have hk1 := Hd.mk (fun o => (bat hb1 w.heap.size (by omega) o).trans (hk0.out o))
          obtain ⟨Aw, cw, rfl, -, -, -, -⟩ := own_shape how1
          clear hb1 how1 hrt hcp
          go_wp2
          go_roundg k'
          case measure => omega
          case rel => exact ⟨[], out, hkk, hR2, hm'', hlo, hinr, ⟨own_lower how1'.out (by omega)⟩, hto1, hB1, ⟨by omega⟩, hk1⟩
        have d0 := beqF hwo
        cases ob with
        | true =>
          have hR2 := Hd.mk (show reachGo f wo k' [] out = R by have := hst.out; rwa [if_pos (by simp)] at this)
          clear hst hfs hwo hps
          go_wp2_with fail
          refine (hcp _).mono ?_; rintro e w1 ⟨vw, rfl, how1, hb1⟩
          have hz1 := hb1.size
          have how1' := Hd.mk how1
          have hto1 := Hd.mk (own_mv ho.out hb1)
          have hrt1 := hrt.out.mv hb1
          have hB1 := Hd.mk (hbr.out.then hb1)
          have hk1 := Hd.mk (fun o => (bat hb1 w.heap.size (by omega) o).trans (hk0.out o))
          obtain ⟨Aw, cw, rfl, -, -, -, -⟩ := own_shape how1
          clear hb1 how1 hrt hcp
          have hhc := s_l1Has _ (trues out) b w1 hrt1
          rw [hhas] at hhc
          clear hhas hrt1
          go_wp2_with fail
          refine hhc.mono ?_; rintro e w2 ⟨rfl, hb2⟩
          have hz2 := hb2.size
          have how2 := Hd.mk (own_mv how1'.out hb2)
          have hto2 := Hd.mk (own_mv hto1.out hb2)
          have hB2 := Hd.mk (hB1.out.then hb2)
          have hk2 := Hd.mk (fun o => (bat hb2 w.heap.size (by omega) o).trans (hk1.out o))
          clear hb2 hk1 hB1 hto1 how1' hhc
          go_wp2
          go_roundg k'
          case measure => omega
          case rel => exact ⟨[], out, hkk, hR2, hm'', hlo, hinr, ⟨own_lower how2.out (by omega)⟩, hto2, hB2, ⟨by omega⟩, hk2⟩
        | false =>
          have hR2 := Hd.mk (show reachGo f wo k' ([] ++ leadsTo (blkAt f b).term) (out.set b.toNat true) = R by have := hst.out; rwa [if_neg (by simp [hwo])] at this)
          clear hst hwo
          have hf1 := hfs rfl
          have hp1 := hps rfl
          have hld := Hd.mk (hg'.out.at_ b y0 y1)
          clear hfs hps
          go_wp2_with fail
          refine (hcp _).mono ?_; rintro e w1 ⟨vw, rfl, how1, hb1⟩
          have hz1 := hb1.size
          have how1' := Hd.mk how1
          have hto1 := Hd.mk (own_mv ho.out hb1)
          have hrt1 := hrt.out.mv hb1
          have hB1 := Hd.mk (hbr.out.then hb1)
          have hk1 := Hd.mk (fun o => (bat hb1 w.heap.size (by omega) o).trans (hk0.out o))
          obtain ⟨Aw, cw, rfl, -, -, -, -⟩ := own_shape how1
          clear hb1 how1 hrt hcp
          have hhc := s_l1Has _ (trues out) b w1 hrt1
          rw [hhas] at hhc
          go_wp2_with fail
          refine hhc.mono ?_; rintro e w2 ⟨rfl, hb2⟩
          have hz2 := hb2.size
          have how2 := Hd.mk (own_mv how1'.out hb2)
          have hB2 := Hd.mk (hB1.out.then hb2)
          have hk2 := Hd.mk (fun o => (bat hb2 w.heap.size (by omega) o).trans (hk1.out o))
          have hpc := s_l1Put _ (trues out) b w2 (hrt1.mv hb2) hhas (by omega)
          rw [show b = ((b.toNat : Nat) : Int) by omega, hp1.out, ← show b = ((b.toNat : Nat) : Int) by omega] at hpc
          clear hb2 hk1 hB1 hto1 how1' hhc hhas hrt1 ho
          go_wp2_with fail
          refine hpc.mono ?_; rintro e w3 ⟨vo, rfl, hoo3, hb3⟩
          obtain ⟨Ao, co, rfl, -, -, -, -⟩ := own_shape hoo3
          have hz3 := hb3.size
          have how3 := Hd.mk (own_mv how2.out hb3)
          have hoo3' := Hd.mk hoo3
          have hB3 := Hd.mk (hB2.out.then hb3)
          have hk3 := Hd.mk (fun o => (bat hb3 w.heap.size (by omega) o).trans (hk2.out o))
          have hsc := hsu'.out w3 b.toNat hB3.out (by omega)
          rw [show ((b.toNat : Nat) : Int) = b by omega] at hsc
          have q0 := hk3.out 0
          have q1 := hk3.out 1
          have q2 := hk3.out 2
          simp at q0 q1 q2
          clear hb3 hk2 hB2 hoo3 hpc
          go_wp2_with fail
          refine hsc.mono ?_; rintro e w4 ⟨vs, rfl, hos4, hb4⟩
          have hll := leads_len (blkAt f b).term
          have hr4 := Hd.mk (OI.rd hos4 (by omega))
          obtain ⟨As, cs_, rfl, -, -, -, -⟩ := own_shape hos4
          have hz4 := hb4.size
          have how4 := Hd.mk (own_mv how3.out hb4)
          have hoo4 := Hd.mk (own_mv hoo3'.out hb4)
          have hB4 := Hd.mk (hB3.out.then hb4)
          have hk4 := Hd.mk (fun o => (bat hb4 w.heap.size (by omega) o).trans (hk3.out o))
          have hlt4 := Hd.mk (oi_lt how2.out)
          have hge4 := Hd.mk (own_block_ge how2.out)
          clear hb4 hos4 hsc hk3 hB3 how3 how2 hoo3'
          go_wp2_with (at_builtin; refine app_I rfl _ _ rfl wr.heap.size _ [] (leadsTo (blkAt f b).term) rfl how4.out _ _ _ rfl hr4.out (by first | omega | (simp; done) | (simp; omega)) (by omega) ?_; intro v5 w5 ho5 hg5; have ho5' := Hd.mk ho5; have hg5' := Hd.mk hg5)
          go_roundg k'
          case measure => omega
          case rel =>
            refine ⟨[] ++ leadsTo (blkAt f b).term, out.set b.toNat true, hkk, hR2, ⟨?_⟩, ⟨by rw [List.length_set]; exact hlo.out⟩, ⟨fun y hy => ?_⟩, ⟨own_lower ho5'.out (by omega)⟩, ⟨own_lower (OI.grown hoo4.out hg5'.out (fun k hk => hlt4.out k hk)) (by omega)⟩, ⟨hB4.out.grown hg5'.out (by omega) (fun k hk => by have := hge4.out k hk; omega)⟩, ⟨by have := hg5'.out.size; omega⟩, ⟨fun o => (grown_cell hg5'.out (by omega) (fun e => by have := hge4.out _ e; omega) o).trans (hk4.out o)⟩⟩
            · have := hm''.out; rw [List.length_append]; have := hf1.out; simp at *; omega
            · rcases List.mem_append.1 hy with h | h
              · exact hinr.out y h
              · exact hld.out y h
      · have y6 : 0 < cap - 1 := by omega
        have hcp := fun (W : World) (hW : Below wr.heap.size wr W) => s_l1Copy (.slice (some ⟨g, 0 + 1, none⟩) r.length (cap - 1)) r W (Rd.drop (hrdq.mv hW) 1 (by simp) (cap - 1) r.length (by simp) (by simp; omega))
        simp only [Nat.zero_add] at hcp
        clear hrdq
        by_cases hwo : b = wo
        · subst hwo
          have hR2 := Hd.mk (show reachGo f b k' r out = R by have := hst.out; rwa [if_pos (by simp)] at this)
          clear hst hfs hps hhas
          go_wp2_with fail
          refine (hcp _ (Below.refl _ _)).mono ?_; rintro e w1 ⟨vw, rfl, how1, hb1⟩
          have hz1 := hb1.size
          have how1' := Hd.mk how1
          have hto1 := Hd.mk (own_mv ho.out hb1)
          have hrt1 := hrt.out.mv hb1
          have hB1 := Hd.mk (hbr.out.then hb1)
          have hk1 := Hd.mk (fun o => (bat hb1 w.heap.size (by omega) o).trans (hk0.out o))
          obtain ⟨Aw, cw, rfl, -, -, -, -⟩ := own_shape how1
          clear hb1 how1 hrt hcp
          go_wp2
          go_roundg k'
          case measure => omega
          case rel => exact ⟨r, out, hkk, hR2, hm'', hlo, hinr, ⟨own_lower how1'.out (by omega)⟩, hto1, hB1, ⟨by omega⟩, hk1⟩
        have d0 := beqF hwo
        cases ob with
        | true =>
          have hR2 := Hd.mk (show reachGo f wo k' r out = R by have := hst.out; rwa [if_pos (by simp)] at this)
          clear hst hfs hwo hps
          go_wp2_with fail
          refine (hcp _ (Below.refl _ _)).mono ?_; rintro e w1 ⟨vw, rfl, how1, hb1⟩
          have hz1 := hb1.size
          have how1' := Hd.mk how1
          have hto1 := Hd.mk (own_mv ho.out hb1)
          have hrt1 := hrt.out.mv hb1
          have hB1 := Hd.mk (hbr.out.then hb1)
          have hk1 := Hd.mk (fun o => (bat hb1 w.heap.size (by omega) o).trans (hk0.out o))
          obtain ⟨Aw, cw, rfl, -, -, -, -⟩ := own_shape how1
          clear hb1 how1 hrt hcp
          have hhc := s_l1Has _ (trues out) b w1 hrt1
          rw [hhas] at hhc
          clear hhas hrt1
          go_wp2_with fail
          refine hhc.mono ?_; rintro e w2 ⟨rfl, hb2⟩
          have hz2 := hb2.size
          have how2 := Hd.mk (own_mv how1'.out hb2)
          have hto2 := Hd.mk (own_mv hto1.out hb2)
          have hB2 := Hd.mk (hB1.out.then hb2)
          have hk2 := Hd.mk (fun o => (bat hb2 w.heap.size (by omega) o).trans (hk1.out o))
          clear hb2 hk1 hB1 hto1 how1' hhc
          go_wp2
          go_roundg k'
          case measure => omega
          case rel => exact ⟨r, out, hkk, hR2, hm'', hlo, hinr, ⟨own_lower how2.out (by omega)⟩, hto2, hB2, ⟨by omega⟩, hk2⟩
        | false =>
          have hR2 := Hd.mk (show reachGo f wo k' (r ++ leadsTo (blkAt f b).term) (out.set b.toNat true) = R by have := hst.out; rwa [if_neg (by simp [hwo])] at this)
          clear hst hwo
          have hf1 := hfs rfl
          have hp1 := hps rfl
          have hld := Hd.mk (hg'.out.at_ b y0 y1)
          clear hfs hps
          go_wp2_with fail
          refine (hcp _ (Below.refl _ _)).mono ?_; rintro e w1 ⟨vw, rfl, how1, hb1⟩
          have hz1 := hb1.size
          have how1' := Hd.mk how1
          have hto1 := Hd.mk (own_mv ho.out hb1)
          have hrt1 := hrt.out.mv hb1
          have hB1 := Hd.mk (hbr.out.then hb1)
          have hk1 := Hd.mk (fun o => (bat hb1 w.heap.size (by omega) o).trans (hk0.out o))
          obtain ⟨Aw, cw, rfl, -, -, -, -⟩ := own_shape how1
          clear hb1 how1 hrt hcp
          have hhc := s_l1Has _ (trues out) b w1 hrt1
          rw [hhas] at hhc
          go_wp2_with fail
          refine hhc.mono ?_; rintro e w2 ⟨rfl, hb2⟩
          have hz2 := hb2.size
          have how2 := Hd.mk (own_mv how1'.out hb2)
          have hB2 := Hd.mk (hB1.out.then hb2)
          have hk2 := Hd.mk (fun o => (bat hb2 w.heap.size (by omega) o).trans (hk1.out o))
          have hpc := s_l1Put _ (trues out) b w2 (hrt1.mv hb2) hhas (by omega)
          rw [show b = ((b.toNat : Nat) : Int) by omega, hp1.out, ← show b = ((b.toNat : Nat) : Int) by omega] at hpc
          clear hb2 hk1 hB1 hto1 how1' hhc hhas hrt1 ho
          go_wp2_with fail
          refine hpc.mono ?_; rintro e w3 ⟨vo, rfl, hoo3, hb3⟩
          obtain ⟨Ao, co, rfl, -, -, -, -⟩ := own_shape hoo3
          have hz3 := hb3.size
          have how3 := Hd.mk (own_mv how2.out hb3)
          have hoo3' := Hd.mk hoo3
          have hB3 := Hd.mk (hB2.out.then hb3)
          have hk3 := Hd.mk (fun o => (bat hb3 w.heap.size (by omega) o).trans (hk2.out o))
          have hsc := hsu'.out w3 b.toNat hB3.out (by omega)
          rw [show ((b.toNat : Nat) : Int) = b by omega] at hsc
          have q0 := hk3.out 0
          have q1 := hk3.out 1
          have q2 := hk3.out 2
          simp at q0 q1 q2
          clear hb3 hk2 hB2 hoo3 hpc
          go_wp2_with fail
          refine hsc.mono ?_; rintro e w4 ⟨vs, rfl, hos4, hb4⟩
          have hll := leads_len (blkAt f b).term
          have hr4 := Hd.mk (OI.rd hos4 (by omega))
          obtain ⟨As, cs_, rfl, -, -, -, -⟩ := own_shape hos4
          have hz4 := hb4.size
          have how4 := Hd.mk (own_mv how3.out hb4)
          have hoo4 := Hd.mk (own_mv hoo3'.out hb4)
          have hB4 := Hd.mk (hB3.out.then hb4)
          have hk4 := Hd.mk (fun o => (bat hb4 w.heap.size (by omega) o).trans (hk3.out o))
          have hlt4 := Hd.mk (oi_lt how2.out)
          have hge4 := Hd.mk (own_block_ge how2.out)
          clear hb4 hos4 hsc hk3 hB3 how3 how2 hoo3'
          go_wp2_with (at_builtin; refine app_I rfl _ _ rfl wr.heap.size _ r (leadsTo (blkAt f b).term) rfl how4.out _ _ _ rfl hr4.out (by first | omega | (simp; done) | (simp; omega)) (by omega) ?_; intro v5 w5 ho5 hg5; have ho5' := Hd.mk ho5; have hg5' := Hd.mk hg5)
          go_roundg k'
          case measure => omega
          case rel =>
            refine ⟨r ++ leadsTo (blkAt f b).term, out.set b.toNat true, hkk, hR2, ⟨?_⟩, ⟨by rw [List.length_set]; exact hlo.out⟩, ⟨fun y hy => ?_⟩, ⟨own_lower ho5'.out (by omega)⟩, ⟨own_lower (OI.grown hoo4.out hg5'.out (fun k hk => hlt4.out k hk)) (by omega)⟩, ⟨hB4.out.grown hg5'.out (by omega) (fun k hk => by have := hge4.out k hk; omega)⟩, ⟨by have := hg5'.out.size; omega⟩, ⟨fun o => (grown_cell hg5'.out (by omega) (fun e => by have := hge4.out _ e; omega) o).trans (hk4.out o)⟩⟩
            · have := hm''.out; rw [List.length_append]; have := hf1.out; simp at *; omega
            · rcases List.mem_append.1 hy with h | h
              · exact hinr.out y h
              · exact hld.out y h
def Gr (f : XFunc) : Prop := inGraph f ∧ 1 ≤ f.blocks.length ∧ f.blocks.length ≤ 10
theorem func_gr {f : XFunc} {n : Int} (h : funcOk f n = true) : Gr f := ⟨func_graph h, (func_blocks h).1.1, (func_blocks h).1.2⟩
theorem OwB.at_ {lo : Nat} {W : World} {v : Value} {out : List Bool} (h : OwB lo W v out) (k : Nat) (hk : k < out.length) : ∃ g c, v = .slice (some ⟨g, 0, none⟩) out.length c ∧ g < W.heap.size ∧ W.cell? ⟨g, k, none⟩ = some (.bool (out.getD k false)) := by
  obtain ⟨A, c, rfl, h1, h2, h3, h4⟩ := own_shape h
  obtain ⟨g, rfl, h5, h6⟩ := h4 (by omega)
  refine ⟨g, c, rfl, h5, h6 k _ ?_⟩
  rw [List.getElem?_map, List.getD_eq_getElem?_getD, List.getElem?_eq_getElem hk]; rfl
set_option maxHeartbeats 4000000 in
theorem c_dominates (f : XFunc) (cs : List Value) (a b : Int) (w : World) (hf : KFunc lm w f cs) (hg : Gr f) (hb : 0 ≤ b ∧ b < f.blocks.length) : Calls Tryz.prog 212 #[.agg cs.toArray, .int .i64 a, .int .i64 b] w (Ret (.bool (dom f a b)) w) := by
  have hr1 := fun W hW => c_reach f cs (-1) W (KM.mv hf hW) hg.1 hg.2
  have hr2 := fun W hW => c_reach f cs a W (KM.mv hf hW) hg.1 hg.2
  have hl1 := reach_len f (-1)
  have hl2 := reach_len f a
  obtain ⟨v1, v2, rfl, hp, hb'⟩ := hf
  obtain ⟨A1, c1, rfl, -, -, -⟩ := hp.sm
  obtain ⟨A2, c2, rfl, -, -, -⟩ := hb'.sm
  have hbl := fun o => (Below.refl w.heap.size w).al (Nat.le_refl _) o
  clear hp hb'
  obtain ⟨y0, y1⟩ := hb
  unfold dom
  have hk1 : b.toNat < (reach f (-1)).length := by omega
  have hk2 : b.toNat < (reach f a).length := by omega
  have y3 : b < ((reach f (-1)).length : Int) := by omega
  have y4 : b < ((reach f a).length : Int) := by omega
  clear hl1 hl2
  generalize reach f (-1) = R1 at *
  generalize reach f a = R2 at *
  have at1 := fun lo W v (h : OwB lo W v R1) => h.at_ b.toNat hk1
  have at2 := fun lo W v (h : OwB lo W v R2) => h.at_ b.toNat hk2
  generalize R1.getD b.toNat false = q1 at *
  generalize R2.getD b.toNat false = q2 at *
  go_enter Tryz.func212, Tryz.ntmps212
  go_wp2_with fail
  refine (hr1 _ (hbl _)).mono ?_; rintro e w1 ⟨u1, rfl, ho1, hb1⟩
  have k0 := bat hb1 w.heap.size (by simp)
  have hz1 := hb1.size
  simp at k0 hz1
  have hB1 := (hbl _).then hb1
  obtain ⟨g, c, rfl, hgl, hcell⟩ := at1 _ _ _ ho1
  clear ho1
  cases q1 with
  | false =>
    go_wp2
    go_ret
    exact ⟨rfl, hB1⟩
  | true =>
    go_wp2_with fail
    refine (hr2 _ hB1).mono ?_; rintro e w2 ⟨u2, rfl, ho2, hb2⟩
    obtain ⟨g2, c2, rfl, hgl2, hcell2⟩ := at2 _ _ _ ho2
    go_wp2
    go_ret
    exact ⟨by simp, hB1.then hb2⟩
set_option maxHeartbeats 4000000 in
theorem s_l3Dom (f : XFunc) (cs : List Value) (a b : Int) (w : World) (hf : KFunc lm w f cs) (hg : Gr f) (hb : 0 ≤ b) : Calls Tryz.prog 191 #[.agg cs.toArray, .int .i64 a, .int .i64 b] w (Ret (.bool (dom f a b)) w) := by
  have hr1 := fun W hW => s_l3Reach f cs (-1) W (KM.mv hf hW) hg.1 hg.2
  have hr2 := fun W hW => s_l3Reach f cs a W (KM.mv hf hW) hg.1 hg.2
  have hl1 := trues_len (reach f (-1))
  have hl2 := trues_len (reach f a)
  rw [reach_len] at hl1 hl2
  have hn := hg.2.2
  obtain ⟨v1, v2, rfl, hp, hb'⟩ := hf
  obtain ⟨A1, c1, rfl, -, -, -⟩ := hp.sm
  obtain ⟨A2, c2, rfl, -, -, -⟩ := hb'.sm
  have hbl := fun o => (Below.refl w.heap.size w).al (Nat.le_refl _) o
  clear hp hb'
  unfold dom
  rw [← trues_has _ b hb, ← trues_has _ b hb]
  generalize trues (reach f (-1)) = R1 at *
  generalize trues (reach f a) = R2 at *
  have at1 := fun W v (h : RI lm W v R1) => s_l1Has v R1 b W h
  have at2 := fun W v (h : RI lm W v R2) => s_l1Has v R2 b W h
  generalize hasI R1 b = q1 at *
  generalize hasI R2 b = q2 at *
  go_enter Tryz.func191, Tryz.ntmps191
  go_wp2_with fail
  refine (hr1 _ (hbl _)).mono ?_; rintro e w1 ⟨u1, rfl, ho1, hb1⟩
  have k0 := bat hb1 w.heap.size (by simp)
  have hz1 := hb1.size
  simp at k0 hz1
  have hB1 := (hbl _).then hb1
  have hh1 := at1 w1 u1 (OI.rd ho1 (by omega))
  go_wp2_with fail
  refine hh1.mono ?_; rintro e w2 ⟨rfl, hb2⟩
  have k1 := fun o => (bat hb2 w.heap.size (by omega) o).trans (k0 o)
  have hB2 := hB1.then hb2
  clear hh1 ho1 k0 hb1 hb2
  cases q1 with
  | false =>
    go_wp2
    go_ret
    exact ⟨rfl, hB2⟩
  | true =>
    go_wp2_with fail
    refine (hr2 _ hB2).mono ?_; rintro e w3 ⟨u3, rfl, ho3, hb3⟩
    have hh3 := at2 w3 u3 (OI.rd ho3 (by omega))
    go_wp2_with fail
    refine hh3.mono ?_; rintro e w4 ⟨rfl, hb4⟩
    go_wp2
    go_ret
    exact ⟨by simp, (hB2.then hb3).then hb4⟩
def FB (W : World) (b : Nat) (f : XFunc) : Prop := ∃ A1 c1 A2 c2, W.cell? ⟨b, 0, none⟩ = some (.slice A1 f.params.length c1) ∧ W.cell? ⟨b, 1, none⟩ = some (.int .i64 f.ret) ∧ W.cell? ⟨b, 2, none⟩ = some (.slice A2 f.blocks.length c2) ∧ KFunc lm W f [.slice A1 f.params.length c1, .int .i64 f.ret, .slice A2 f.blocks.length c2] ∧ b < W.heap.size
theorem FB.mv {W W' : World} {b : Nat} {f : XFunc} (h : FB W b f) (hb : Below W.heap.size W W') : FB W' b f := by
  obtain ⟨A1, c1, A2, c2, h0, h1, h2, h3, h4⟩ := h
  exact ⟨A1, c1, A2, c2, (bat hb b h4 0).trans h0, (bat hb b h4 1).trans h1, (bat hb b h4 2).trans h2, KM.mv h3 hb, Nat.lt_of_lt_of_le h4 hb.size⟩
def Fo (f : XFunc) : Prop := Gr f ∧ countOf f ≤ 60 ∧ f.params.length ≤ 4
theorem func_fo {f : XFunc} {n : Int} (h : funcOk f n = true) : Fo f := ⟨func_gr h, (func_blocks h).2.2.1, (func_blocks h).2.1⟩
theorem preds_len (f : XFunc) (b : Int) : (predsOf f b).length ≤ f.blocks.length := upTo_filter_len _ _
set_option maxHeartbeats 1000000 in
theorem c_isEntry (f : XFunc) (cs : List Value) (w : World) (hf : KFunc lm w f cs) (hn : 1 ≤ f.blocks.length) : Calls Tryz.prog 129 #[.agg cs.toArray] w (Ret (.bool (entryOk f)) w) := by
  have hpr := fun W hW => c_predsOf f cs 0 W (KM.mv hf hW)
  obtain ⟨v1, v2, rfl, hp, hb⟩ := hf
  obtain ⟨A1, c1, rfl, -, hl1, -⟩ := hp.sm
  obtain ⟨A2, c2, rfl, hcap, hl2, hb0⟩ := hb.sm
  have hbl := fun o => (Below.refl w.heap.size w).al (Nat.le_refl _) o
  clear hp hb
  unfold entryOk
  rw [show blkAt f 0 = f.blocks[0] from blkAt_nat f 0 hn]
  obtain ⟨eb, eo, ecs, hA_, heb, ⟨bv1, bv2, rfl, hr_, hr2_⟩, hat_⟩ := (hb0.out).in0 (Below.refl w.heap.size w) (0) (hn)
  cases hA_
  have hew := Nat.lt_of_lt_of_le heb (Below.refl w.heap.size w).size
  have g0 := hat_ 0 _ rfl
  have g1 := hat_ 1 _ rfl
  have g2 := hat_ 2 _ rfl
  have g3 := hat_ 3 _ rfl
  have g4 := hat_ 4 _ rfl
  have g5 := hat_ 5 _ rfl
  clear hat_
  simp at g0 g1 g2 g3 g4 g5
  obtain ⟨Ap, cp, rfl, hcp, hlp, hrp⟩ := hr_.sm
  obtain ⟨Ai, ci, rfl, hci, hli, hri⟩ := hr2_.sm
  clear hr_ hr2_
  have y1 : (0 : Int) < (f.blocks.length : Int) := by omega
  generalize f.blocks[0] = x at *
  generalize predsOf f 0 = ps at *
  cases hx : x.phis with
  | cons p r =>
    have d0 : ((x.phis.length : Int) == 0) = false := by rw [hx]; simp; omega
    generalize x.phis.length = pn at *
    clear hx hpr
    go_enter Tryz.func129, Tryz.ntmps129
    go_wp2
    go_ret
    exact ⟨rfl, hbl _⟩
  | nil =>
    have d0 : ((x.phis.length : Int) == 0) = true := by rw [hx]; rfl
    generalize x.phis.length = pn at *
    clear hx
    go_enter Tryz.func129, Tryz.ntmps129
    go_wp2_with fail
    refine (hpr _ (hbl _)).mono ?_; rintro e w1 ⟨u1, rfl, ho1, hb1⟩
    obtain ⟨Au, cu, rfl, -, -, -, -⟩ := own_shape ho1
    have hem : ((ps.length : Int) == 0) = ps.isEmpty := by cases ps <;> simp <;> omega
    generalize ps.isEmpty = q at *
    clear ho1
    go_wp2
    go_ret
    exact ⟨by simp, (hbl _).then hb1⟩
theorem c_arePhis1 (p : XPhi) (cs : List Value) (b n : Nat) (w : World) (hk : KPhi lm w p cs) (hb : b < w.heap.size) (hc : w.cell? ⟨b, 0, none⟩ = some (.int .i64 n)) : Calls Tryz.prog 173 #[.agg cs.toArray, .pointer (some ⟨b, 0, none⟩)] w (Ret (.bool (!(p.ins.length == n))) w) := by
  obtain ⟨v, rfl, hr⟩ := hk
  obtain ⟨A, c, rfl, -, hl, hr0⟩ := hr.sm
  have hbl := fun o => (Below.refl w.heap.size w).al (Nat.le_refl _) o
  have hd : ((p.ins.length : Int) != (n : Int)) = !(p.ins.length == n) := by
    by_cases h : p.ins.length = n
    · simp [h]
    · have h1 : (p.ins.length == n) = false := by simpa using h
      have h2 : ((p.ins.length : Int) != (n : Int)) = true := by simpa using fun e => h (by omega)
      rw [h1, h2]; rfl
  generalize (p.ins.length == n) = q at *
  clear hr hr0
  go_enter Tryz.func173, Tryz.ntmps173
  go_wp2
  go_ret
  exact ⟨rfl, hbl _⟩
theorem pb_arePhis1 (W : World) (b n : Nat) (hb : b < W.heap.size) (hc : W.cell? ⟨b, 0, none⟩ = some (.int .i64 n)) :
    PB Tryz.prog 173 #[.pointer (some ⟨b, 0, none⟩)] (KPhi lm) argN (fun p => !(p.ins.length == n)) W := fun W' x cs hW hk =>
  c_arePhis1 x cs b n W' hk (Nat.lt_of_lt_of_le hb hW.size) ((hW.cell (p := ⟨b, 0, none⟩) hb).trans hc)
theorem range_all_snoc (p : Nat → Bool) (k : Nat) : (List.range (k + 1)).all p = ((List.range k).all p && p k) := by rw [List.range_succ, List.all_append]; simp
theorem range_all_fail (p : Nat → Bool) (n k : Nat) (h : k < n) (hp : p k = false) : (List.range n).all p = false := by
  rw [Bool.eq_false_iff]; intro h'; rw [List.all_eq_true] at h'
  rw [h' k (by simpa using h)] at hp; cases hp
set_option maxHeartbeats 4000000 in
theorem c_arePhis (f : XFunc) (cs : List Value) (w : World) (hf : KFunc lm w f cs) (hn : f.blocks.length ≤ 10) : Calls Tryz.prog 130 #[.agg cs.toArray] w (Ret (.bool (phisOk f)) w) := by
  have hpr := fun (W : World) (k : Nat) hW => c_predsOf f cs k W (KM.mv hf hW)
  have hpr' := Hd.mk hpr
  obtain ⟨v1, v2, rfl, hp, hb⟩ := hf
  obtain ⟨A1, c1, rfl, -, hl1, -⟩ := hp.sm
  obtain ⟨A2, c2, rfl, hcap, hl2, hb0⟩ := hb.sm
  have hbl := fun o => (Below.refl w.heap.size w).al (Nat.le_refl _) o
  clear hp hb hpr
  have eg := enters_of Tryz.func173 (by kernel_rfl) rfl
  have hbk := Hd.mk (blkAt_nat f)
  generalize hR : phisOk f = R
  have hR' := Hd.mk hR
  clear hR
  unfold phisOk at hR'
  have hk00 : Hd (∀ o, (w.alloc (.cells #[.slice A1 f.params.length c1, .int .i64 f.ret, .slice A2 f.blocks.length c2] 35)).cell? ⟨w.heap.size, o, none⟩ = [Value.slice A1 f.params.length c1, .int .i64 f.ret, .slice A2 f.blocks.length c2][o]?) := ⟨fun o => by simp⟩
  have hlen := Hd.mk (preds_len f)
  go_enter Tryz.func130, Tryz.ntmps130
  go_wp2
  go_loopw [9] (fun s9 wr => ∃ k : Nat, k ≤ f.blocks.length ∧ s9 = .int .i64 k ∧ Hd ((List.range k).all (fun k => (blkAt f k).phis.all fun p => p.ins.length == (predsOf f k).length) = true) ∧ Hd (Below w.heap.size w wr) ∧ Hd (w.heap.size < wr.heap.size) ∧ Hd (∀ o, wr.cell? ⟨w.heap.size, o, none⟩ = [Value.slice A1 f.params.length c1, .int .i64 f.ret, .slice A2 f.blocks.length c2][o]?)) (fun s9 _ => f.blocks.length - (intOf s9).toNat)
  case atStart => exact ⟨0, Nat.zero_le _, rfl, ⟨rfl⟩, ⟨hbl _⟩, ⟨by simp⟩, hk00⟩
  case round =>
    obtain ⟨k, hk, rfl, hall, hbr, hz, hk0⟩ := hrel
    have hz' := hz.out
    have q0 := hk0.out 0
    have q1 := hk0.out 1
    have q2 := hk0.out 2
    simp at q0 q1 q2
    by_cases hlt : k < f.blocks.length
    · obtain ⟨eb, eo, ecs, hA_, heb, ⟨bv1, bv2, rfl, hr_, hr2_⟩, hat_⟩ := (hb0.out).in0 (hbr.out) (k) (hlt)
      cases hA_
      have hew := Nat.lt_of_lt_of_le heb (hbr.out).size
      have g0 := hat_ 0 _ rfl
      have g1 := hat_ 1 _ rfl
      have g2 := hat_ 2 _ rfl
      have g3 := hat_ 3 _ rfl
      have g4 := hat_ 4 _ rfl
      have g5 := hat_ 5 _ rfl
      clear hat_
      simp at g0 g1 g2 g3 g4 g5
      obtain ⟨Ap, cp, rfl, hcp, hlp, hrp⟩ := hr_.sm
      obtain ⟨Ai, ci, rfl, hci, hli, hri⟩ := hr2_.sm
      clear hr_ hr2_
      have hbe := hbk.out k hlt
      have hsn := Hd.mk (range_all_snoc (fun k => (blkAt f k).phis.all fun p => p.ins.length == (predsOf f k).length) k)
      have hfl := fun h => Hd.mk (range_all_fail (fun k => (blkAt f k).phis.all fun p => p.ins.length == (predsOf f k).length) f.blocks.length k hlt h)
      have hp1 := hpr'.out
      rw [hbe] at hsn hfl
      have hpl := hlen.out k
      generalize f.blocks[k] = x at *
      clear hbe
      have hal := Hd.mk fun (o : Obj) => (Below.refl wr.heap.size wr).al (Nat.le_refl _) o
      have hpw := hp1 (wr.alloc (.cells #[.slice Ap x.phis.length cp, .slice Ai x.insts.length ci, .int .i64 x.term.kind, .int .i64 x.term.a, .int .i64 x.term.x, .int .i64 x.term.y] 32)) k (hbr.out.then (hal.out _))
      go_wp2_with fail
      refine hpw.mono ?_; rintro e w1 ⟨u1, rfl, ho1, hb1⟩
      obtain ⟨Au, cu, rfl, -, -, -, -⟩ := own_shape ho1
      have z0 := bat hb1 wr.heap.size (by first | omega | (simp; done) | (simp; omega)) 0
      have hz1 := hb1.size
      simp at z0 hz1
      have hk1 := fun o => (bat hb1 w.heap.size (by first | omega | (simp; done) | (simp; omega)) o).trans ((bat (hal.out _) w.heap.size hz' o).trans (hk0.out o))
      have hB1 := Hd.mk (hbr.out.then ((hal.out _).then hb1))
      have hal1 := Hd.mk fun (o : Obj) => (Below.refl w1.heap.size w1).al (Nat.le_refl _) o
      have hcon := fun W (hW : Below w1.heap.size w1 W) (hc : W.cell? ⟨w1.heap.size, 0, none⟩ = some (.int .i64 ((predsOf f k).length : Int))) (hlt : w1.heap.size < W.heap.size) => c_ConPhi (.slice Ap x.phis.length cp) x.phis _ _ (fun p => !(p.ins.length == (predsOf f k).length)) W (hrp.out.mv (hB1.out.then hW)) eg (pb_arePhis1 W w1.heap.size _ hlt hc)
      simp only [any_not] at hcon
      clear ho1 hb1 hpw hp1
      generalize (predsOf f k).length = m at *
      have z1 : wr.heap.size < w1.heap.size := by omega
      have z2 : w.heap.size < w1.heap.size := by omega
      go_wp2_with fail
      refine (hcon _ (hal1.out _) (by simp) (by simp)).mono ?_; rintro e w2 ⟨rfl, hb2⟩
      have hk2 := Hd.mk (fun o => (bat ((hal1.out _).then hb2) w.heap.size z2 o).trans (hk1 o))
      have hB2 := Hd.mk (hB1.out.then ((hal1.out _).then hb2))
      have hz2 := hb2.size
      simp at hz2
      clear hb2 hcon hk1 hB1 hal1
      cases hq : x.phis.all (fun p => p.ins.length == m) with
      | false =>
        have hv : R = false := hR'.out.symm.trans (hfl hq).out
        subst hv
        clear hfl hsn hq
        go_wp2
        go_ret
        exact ⟨rfl, hB2.out⟩
      | true =>
        rw [hq] at hsn
        have hall2 := Hd.mk (hsn.out.trans (by rw [hall.out]; first | done | rfl))
        clear hfl hsn hq
        go_wp2
        go_roundw
        case rel => exact ⟨k + 1, by omega, by go_num, hall2, hB2, ⟨by omega⟩, hk2⟩
        case measure => simp [intOf]; omega
    · have e : k = f.blocks.length := by omega
      subst e
      have hv : R = true := hR'.out.symm.trans hall.out
      subst hv
      go_wp2
      go_ret
      exact ⟨rfl, hbr.out⟩
end Go.Proofs.YtkcgejbnhpccdaaGreat
