import Derived.Test.YtkcgejbnhpccdaaGreatT38
import Derived.Test.YtkcgejbnhpccdaaGreatT36
set_option linter.unusedSimpArgs false
set_option linter.unusedVariables false
namespace Go.Proofs.YtkcgejbnhpccdaaGreat
open Go.RowKit
theorem infoFn : (Tryz.prog.info? 35).map (fun i => (i.zero, i.size, i.bytes)) = some (some (.agg #[.slice none 0 0, .int .i64 0, .slice none 0 0]), 3, 56) := by kernel_rfl
theorem infoIs : (Tryz.prog.info? 24).map (fun i => (i.zero, i.size, i.bytes)) = some (some (.slice none 0 0), 1, 24) := by kernel_rfl
theorem lit_fe {W : World} {M : Nat → Prop} {b1 b2 : Nat} (h1 : W.heap[b1]? = some (.cells #[.int .i64 21, .int .i64 8, .int .i64 0, .int .i64 0, .int .i64 0, .int .i64 7, .slice none 0 0] 26 (0, 0)))
    (h2 : W.heap[b2]? = some (.cells #[.slice none 0 0, .slice (some ⟨b1, 0, none⟩) 1 1, .int .i64 1, .int .i64 0, .int .i64 0, .int .i64 0] 32 (0, 0))) (m1 : ¬ M b1) (m2 : ¬ M b2) : FE M W [.slice none 0 0, .int .i64 8, .slice (some ⟨b2, 0, none⟩) 1 1] := by
  refine ⟨none, 0, [], 8, _, rfl, ⟨by decide, fun p hp => by cases hp⟩, rfl, fun w hF => rd_nilK, fun w hF => ?_⟩
  have k1 := (hF.block b1 (Array.getElem?_eq_some_iff.1 h1).1 m1).trans h1
  have k2 := (hF.block b2 (Array.getElem?_eq_some_iff.1 h2).1 m2).trans h2
  have r1 : Rd lm 7 (KInst lm) w (.slice (some ⟨b1, 0, none⟩) 1 1) [⟨21, 8, 0, 0, 0, 7, []⟩] := rd_new _ rfl (by decide) (Array.getElem?_eq_some_iff.1 k1).1 (fun i hi => match i, hi with
    | 0, _ => ⟨_, ⟨_, rfl, rd_nilK⟩, rfl, fun j hj => ((row_facts k1).1 _).trans (at_mid [] [.int .i64 21, .int .i64 8, .int .i64 0, .int .i64 0, .int .i64 0, .int .i64 7, .slice none 0 0] [] j hj)⟩)
  refine ⟨[⟨[], [⟨21, 8, 0, 0, 0, 7, []⟩], ⟨1, 0, 0, 0⟩⟩], ⟨by decide, by decide⟩, fun x hx => ?_, rd_new _ rfl (by decide) (Array.getElem?_eq_some_iff.1 k2).1 (fun i hi => match i, hi with
    | 0, _ => ⟨_, ⟨_, _, rfl, rd_nilK, r1⟩, rfl, fun j hj => ((row_facts k2).1 _).trans (at_mid [] [.slice none 0 0, .slice (some ⟨b1, 0, none⟩) 1 1, .int .i64 1, .int .i64 0, .int .i64 0, .int .i64 0] [] j hj)⟩)⟩
  rw [List.mem_singleton.1 hx]
  exact ⟨by decide, by decide⟩
set_option maxRecDepth 40000 in
set_option maxHeartbeats 40000000 in
theorem s_module (lo g : Nat) (w : World) (h : RdS lo w g) : Calls Tryz.prog 51 #[.pointer (some ⟨g, 0, none⟩)] w (RetM lo g w) := by
  have hgl := h.lt
  obtain ⟨Wb, hWb⟩ : ∃ Wb : World, Wb = (((w.alloc (.cells #[.slice none 0 0] 38)).alloc (.cells #[.slice none 0 0] 38)).alloc (.cells #[] 2)).alloc (.cells #[] 24) := ⟨_, rfl⟩
  have hzb : Wb.heap.size = w.heap.size + 4 := by rw [hWb]; simp
  have hBb : Below w.heap.size w Wb := by rw [hWb]; exact ((((Below.refl w.heap.size w).al (Nat.le_refl _) _).al (by simp) _).al (by simp <;> omega) _).al (by simp <;> omega) _
  have hms : MS lo g w (fun _ => True) 0 (.slice (some ⟨w.heap.size + 1 + 1, 0, none⟩) 0 0) (.slice (some ⟨w.heap.size + 1 + 1 + 1, 0, none⟩) 0 0) (.slice none 0 0) [] [] [] [] Wb := by
    refine ⟨?_, ?_, nil_own _ _ _ _, fun k hk => absurd hk (by simp), fun i hi => absurd hi (Nat.not_lt_zero _), ?_, ?_, ?_, hgl, Fr.of _ hBb, fun q _ => trivial⟩
    · rw [hWb]; exact own_mv (own_empty _ _ _ _ _ (by simp) (by simp <;> omega)) ((Below.refl _ _).al (Nat.le_refl _) _)
    · rw [hWb]; exact own_empty _ _ _ _ _ (by simp) (by simp <;> omega)
    · rw [hWb]; exact heap_old (heap_old (heap_new _ _ _ _ (by simp)) (by simp)) (by simp)
    · rw [hWb]; exact heap_old (heap_old (heap_old (heap_new _ _ _ _ rfl) (by simp)) (by simp <;> omega)) (by simp <;> omega)
    · rw [hWb]; exact (((h.al _).al _).al _).al _
  have hms' := Hd.mk hms
  have hp := s_below lo g 2 Wb hms.rs (by omega)
  have hWb' := Hd.mk hWb
  clear hWb h hms hBb
  go_enter Tryz.func51, Tryz.ntmps51
  go_wp2_with fail
  rw [← hWb'.out]
  refine hp.mono ?_; rintro e w1 ⟨v, rfl, ⟨q, rfl, q1, q2⟩, hr, hg⟩
  have hm1 := Hd.mk (hms'.out.fn hg hr)
  obtain ⟨M1, hM1⟩ : ∃ M1 : Nat → Prop, M1 = (fun q => True ∧ (q < Wb.heap.size ∨ w1.heap.size ≤ q)) := ⟨_, rfl⟩
  rw [← hM1] at hm1
  have hq01 : q = 0 ∨ q = 1 := by omega
  obtain ⟨i0, hi0, hi1, hi2⟩ : ∃ i : Nat, IntKind.i64.wrap (1 + q) = (i : Int) ∧ 1 ≤ i ∧ i ≤ 2 := by
    rcases hq01 with rfl | rfl
    · exact ⟨1, rfl, by omega, by omega⟩
    · exact ⟨2, rfl, by omega, by omega⟩
  clear hr hg hp hM1 hms' hq01 q1 q2 hWb'
  go_wp2
  go_loopw [4, 5, 6] (fun s4 s5 s6 wr => ∃ (i n : Nat) (M : Nat → Prop) (vF : Value) (rl : List Int) (pl : List (List Int)) (pc cF : List Value), i + n ≤ 2 ∧ 1 ≤ i + n ∧ s6 = .int .i64 i ∧ Hd (rl.length = n ∧ pl.length = n) ∧ Hd (MS lo g w M n s4 s5 vF rl pl pc cF wr)) (fun _ _ s6 _ => (intOf s6).toNat)
  case atStart => exact ⟨i0, 0, M1, _, [], [], [], [], by omega, by omega, rfl, ⟨rfl, rfl⟩, hm1⟩
  case round =>
    obtain ⟨i, n, M, vF, rl, pl, pc, cF, hn2, hn1, rfl, hln, hms⟩ := hrel
    clear hm1 hi0
    by_cases hi0 : 0 < i
    · obtain ⟨j, rfl⟩ : ∃ j, i = j + 1 := ⟨i - 1, by omega⟩
      have hpos : (0 : Int) < ((j + 1 : Nat) : Int) := by omega
      have hwj : IntKind.i64.wrap (((j + 1 : Nat) : Int) - 1) = (j : Int) := by rw [IntWalk.i64_in _ (by omega)]; omega
      obtain ⟨Ar, cr, rfl, -, -, -, -⟩ := own_shape hms.out.o4
      obtain ⟨Ap, cp, rfl, -, -, -, -⟩ := own_shape hms.out.o5
      have hb4 := Hd.mk fun k hk => own_in hms.out.o4 k hk
      have hb5 := Hd.mk fun k hk => own_in hms.out.o5 k hk
      have hbF := Hd.mk fun k hk => own_in hms.out.oF k hk
      have hl45 : pl.length = rl.length := by have := hln.out; omega
      have hp0 := s_fn lo g Ar Ap cr cp pl wr hms.out.rs
        (fun W hF => ⟨rl, by have := hln.out; omega, trivial, by
          have hr := (OwI.of (own_fr hms.out.o4 hF (fun k hk e => by have := hb4.out k hk; omega))).rd (by have := hln.out; show _ ≤ 1048576; omega)
          rw [show pl.length = rl.length by have := hln.out; omega]; exact hr⟩)
        (PE.rd hms.out.o5 hms.out.pe (fun k hk e => by have := hb5.out k hk; omega) (fun q e => e.imp (fun e => hms.out.mM q (.inl (by rw [e]; exact hms.out.hg))) id) (by have := hln.out; show _ ≤ 1048576; omega)) (by have := hln.out; omega) (fun x hx => by
          obtain ⟨k, hk, rfl⟩ := List.mem_iff_getElem.1 hx
          exact (hms.out.pe k hk).1)
      have hp : Calls Tryz.prog 78 #[.pointer (some ⟨g, 0, none⟩), .slice Ar rl.length cr, .slice Ap pl.length cp] wr (RetF lo g wr) := by
        rw [hl45] at hp0 ⊢
        exact hp0
      clear hp0 hl45
      go_wp2_with fail
      refine hp.mono ?_; rintro e w3 ⟨cs, rfl, hfe, hr, hg⟩
      have hm3 := Hd.mk (hms.out.fn hg hr)
      have hz3 := hg.size
      have hfM := hfe.go (Fr.refl _ _) (M' := fun q => M q ∧ (q < wr.heap.size ∨ w3.heap.size ≤ q)) fun q e => .inl e.2
      obtain ⟨M3, hM3⟩ : ∃ M3 : Nat → Prop, M3 = (fun q => M q ∧ (q < wr.heap.size ∨ w3.heap.size ≤ q)) := ⟨_, rfl⟩
      rw [← hM3] at hm3 hfM
      obtain ⟨A, c, ps, ret, vB, rfl, hps, h1B, hq1, hq2⟩ := hfM
      obtain ⟨xs, hxl, -, hxr⟩ := hq2.out
      obtain ⟨A3, c3, rfl, -, -, -⟩ := hxr.sm
      have hk := Hd.mk (show KFunc lm w3 ⟨ps, ret, xs⟩ [.slice A ps.length c, .int .i64 ret, .slice A3 xs.length c3] from ⟨_, _, rfl, hq1.out, hxr⟩)
      have hfM' := Hd.mk (show FE M3 w3 [.slice A ps.length c, .int .i64 ret, .slice A3 xs.length c3] from ⟨A, c, ps, ret, _, rfl, hps, h1B, hq1, hq2⟩)
      have hal := Hd.mk fun (o : Obj) => (Below.refl w3.heap.size w3).al (Nat.le_refl _) o
      have hp := s_CountOf ⟨ps, ret, xs⟩ [.slice A ps.length c, .int .i64 ret, .slice A3 xs.length c3] (w3.alloc (.cells #[.slice A ps.length c, .int .i64 ret, .slice A3 xs.length c3] 35)) (KM.mv hk.out (hal.out _))
      have hMge := Hd.mk fun q (e : w3.heap.size ≤ q) => hm3.out.mM q (.inr (.inr (.inr (.inr (.inr (.inr e))))))
      have hq1h := Hd.mk hq1
      clear hms hr hg hfe hM3 hq1 hq2 hxr
      go_wp2_with fail
      refine hp.mono ?_; rintro e w4 ⟨rfl, hb⟩
      have hB4 := (hal.out (.cells #[.slice A ps.length c, .int .i64 ret, .slice A3 xs.length c3] 35)).then hb
      have hfb := (hb.block w3.heap.size (by simp)).trans (heap_new w3 #[.slice A ps.length c, .int .i64 ret, .slice A3 xs.length c3] 35 _ rfl)
      have hm4 := Hd.mk (hm3.out.bl hB4)
      have hf4 := Hd.mk (hfM'.out.go (Fr.of _ hB4) fun q e => .inl e)
      have hq1x := Hd.mk (Bx.go hq1h.out (Fr.of M3 hB4) fun q e => .inl e)
      have hfb4 := Hd.mk hfb
      have hz4 : w3.heap.size < w4.heap.size := (Array.getElem?_eq_some_iff.1 hfb).1
      have x2 := (row_facts hfb).1 2
      have xf := (row_facts hfb).2
      have x0 := (row_facts hfb).1 0
      have x1 := (row_facts hfb).1 1
      simp at x0 x1 x2
      have hltm := hm4.out.lt
      have hzw : w.heap.size + 1 < w3.heap.size := hm3.out.lt
      clear hb hB4 hfb hp hk hfM' hq1h
      generalize hco : countOf ⟨ps, ret, xs⟩ = co at *
      clear hco
      by_cases hc60 : 60 < co
      · have hqx := hq1x
        have m4 := (row_facts hm4.out.mb).1 0
        simp at m4
        have hne4 : w.heap.size + 1 ≠ w3.heap.size := by omega
        have hne5 : w3.heap.size ≠ w.heap.size + 1 := by omega
        obtain ⟨W5, hW5⟩ : ∃ W5 : World, W5 = ((((w4.setCell ⟨w3.heap.size, 0, none⟩ (.slice none 0 0)).setCell ⟨w3.heap.size, 1, none⟩ (.int .i64 8)).setCell ⟨w3.heap.size, 2, none⟩ (.slice (some ⟨w4.heap.size + 1, 0, none⟩) 1 1)).alloc (.cells #[.int .i64 21, .int .i64 8, .int .i64 0, .int .i64 0, .int .i64 0, .int .i64 7, .slice none 0 0] 26)).alloc (.cells #[.slice none 0 0, .slice (some ⟨w4.heap.size, 0, none⟩) 1 1, .int .i64 1, .int .i64 0, .int .i64 0, .int .i64 0] 32) := ⟨_, rfl⟩
        have hz5' : W5.heap.size = w4.heap.size + 1 + 1 := by rw [hW5]; simp [World.setCell]
        have hF45 : Fr (fun q => q = w3.heap.size) w4 W5 := by
          rw [hW5]
          exact (((Fr.set w4 w3.heap.size 0 _).go (Fr.set _ w3.heap.size 1 _) fun q e => .inl e).go (Fr.set _ w3.heap.size 2 _) fun q e => .inl e).then (((Below.refl _ _).al (Nat.le_refl _) _).al (by simp) _)
        have h5I : W5.heap[w4.heap.size]? = some (.cells #[.int .i64 21, .int .i64 8, .int .i64 0, .int .i64 0, .int .i64 0, .int .i64 7, .slice none 0 0] 26 (0, 0)) := by
          rw [hW5]
          exact heap_old (heap_new _ _ _ _ (by simp [World.setCell])) (by simp [World.setCell])
        have h5B : W5.heap[w4.heap.size + 1]? = some (.cells #[.slice none 0 0, .slice (some ⟨w4.heap.size, 0, none⟩) 1 1, .int .i64 1, .int .i64 0, .int .i64 0, .int .i64 0] 32 (0, 0)) := by
          rw [hW5]
          exact heap_new _ _ _ _ (by simp [World.setCell])
        have hfb5 : Hd (W5.heap[w3.heap.size]? = some (.cells #[.slice none 0 0, .int .i64 8, .slice (some ⟨w4.heap.size + 1, 0, none⟩) 1 1] 35 (0, 0))) := ⟨by
          rw [hW5]
          exact (heap_old (heap_old (heap_set (heap_set (heap_set hfb4.out))) (by simp [World.setCell]; omega)) (by simp [World.setCell]; omega)).trans (by simp)⟩
        have hb4F := hm4.out.fr
        have hm5L := Hd.mk (hm4.out.fr' hF45 fun q e => by
          subst e
          exact ⟨hMge.out _ (Nat.le_refl _), hzw, fun e => by have := (own_in hm3.out.o4 _ e).2; omega, fun e => by have := (own_in hm3.out.o5 _ e).2; omega, fun e => by have := (own_in hm3.out.oF _ e).2; omega⟩)
        obtain ⟨ML, hML⟩ : ∃ ML : Nat → Prop, ML = (fun q => M3 q ∧ (q < w4.heap.size ∨ W5.heap.size ≤ q)) := ⟨_, rfl⟩
        have hm5N := Hd.mk (show MS lo g w ML n _ _ vF rl pl pc cF W5 from by rw [hML]; exact hm5L.out.nar ⟨by omega, fun q e => by have := (own_in hm3.out.o4 q e).2; omega, fun q e => by have := (own_in hm3.out.o5 q e).2; omega, fun q e => by have := (own_in hm3.out.oF q e).2; omega⟩)
        have hfeL := Hd.mk (lit_fe (M := ML) h5I h5B (by rw [hML]; rintro ⟨-, e⟩; omega) (by rw [hML]; rintro ⟨-, e⟩; omega))
        have hqL := Hd.mk (show Bx ML (fun w => RI lm w (.slice none ([] : List Int).length 0) []) W5 from fun w hF => rd_nilK)
        have hW5' := Hd.mk hW5
        clear hF45 h5I h5B hb4F hW5 hML hm5L
        obtain ⟨AF, cF', rfl, -, -, -, -⟩ := own_shape hm5N.out.oF
        have m0 := (row_facts hm5N.out.mb).1 0
        have mf := (row_facts hm5N.out.mb).2
        simp at m0
        have y0 := (row_facts hfb5.out).1 0
        have y1 := (row_facts hfb5.out).1 1
        have y2 := (row_facts hfb5.out).1 2
        simp at y0 y1 y2
        have hz5h := Hd.mk hz5'
        have hs1 : w.heap.size < w4.heap.size := by omega
        have hs2 : w.heap.size < w4.heap.size + 1 := by omega
        have hs3 : w3.heap.size < w4.heap.size + 1 := by omega
        have hs4 : w3.heap.size < w4.heap.size + 1 + 1 := by omega
        have hal5 := Hd.mk fun (o : Obj) => (Below.refl W5.heap.size W5).al (Nat.le_refl _) o
        have hlm5 := hm5N.out.lt
        have hz5 : w3.heap.size < W5.heap.size := (Array.getElem?_eq_some_iff.1 hfb5.out).1
        have hone : Hd (∀ u ∈ ([.slice none 0 0, .int .i64 8, .slice (some ⟨w4.heap.size + 1, 0, none⟩) 1 1] : List Value), u.oneCell' = true) := ⟨by
          intro u hu
          simp only [List.mem_cons, List.not_mem_nil, or_false] at hu
          rcases hu with rfl | rfl | rfl <;> rfl⟩
        have hm0' := Hd.mk m0
        have hm1' := Hd.mk mf
        have hlm' := Hd.mk hlm5
        have hz' := Hd.mk hz5
        clear hz5' m0 mf y0 y1 y2 hlm5 hz5
        go_wp2_with (at_builtin; rw [← hW5'.out]; refine appE_at rfl _ _ rfl Tryz.underlying36 infoFn rfl (by decide) (by decide) w.heap.size _ n cF rfl (own_mv hm5N.out.oF (hal5.out _)) (w4.heap.size + 1 + 1) _ rfl [.slice none 0 0, .int .i64 8, .slice (some ⟨w4.heap.size + 1, 0, none⟩) 1 1] rfl (fun j u hu => new_cell W5 #[.slice none 0 0, .int .i64 8, .slice (some ⟨w4.heap.size + 1, 0, none⟩) 1 1] 35 (by first | rfl | exact hz5h.out.symm) j u (by simpa using hu)) hone.out (by omega) (by have := hlm'.out; simp; omega) ?_)
        have hlm5 := hlm'.out
        have hz5 := hz'.out
        have hz5' := hz5h.out
        intro v6 w6 ho6 hg6 hn6
        obtain ⟨A6, c6, rfl, -, -, -, -⟩ := own_shape ho6
        have hm5 := hm5N.out.bl (hal5.out (.cells #[.slice none 0 0, .int .i64 8, .slice (some ⟨w4.heap.size + 1, 0, none⟩) 1 1] 35))
        have hfe5 := hfeL.out.go (Fr.of _ (hal5.out (.cells #[.slice none 0 0, .int .i64 8, .slice (some ⟨w4.heap.size + 1, 0, none⟩) 1 1] 35))) fun q e => .inl e
        have hq5 := Bx.go hqL.out (Fr.of ML (hal5.out (.cells #[.slice none 0 0, .int .i64 8, .slice (some ⟨w4.heap.size + 1, 0, none⟩) 1 1] 35))) fun q e => .inl e
        have hm6 := Hd.mk (hm5.appF [.slice none 0 0, .int .i64 8, .slice (some ⟨w4.heap.size + 1, 0, none⟩) 1 1] hfe5 _ hg6 ho6 (by first | exact hn6 | (rw [World.size_alloc]; exact hn6)))
        have hq6 := Hd.mk (Bx.go hq5 (hm5.frF hg6 (.slice A6 (n + 1) c6)) fun q e => .inl e)
        have hfb5 := (heap_old (o := .cells #[.slice none 0 0, .int .i64 8, .slice (some ⟨w4.heap.size + 1, 0, none⟩) 1 1] 35) hfb5.out hz5)
        have hfb6 := Hd.mk ((hg6.block w3.heap.size (by simp; omega) (fun e => by have := hbF.out _ e.symm; omega)).trans hfb5)
        have z0 := (row_facts hfb6.out).1 0
        have z1 := (row_facts hfb6.out).1 1
        simp at z0 z1
        have hmb6 := (hg6.block (w.heap.size + 1) (by simp; omega) (fun e => own_noT hm5.oF hm5.mb (by decide) _ e.symm rfl)).trans hm5.mb
        have mf6 := (row_facts hmb6).2
        have mc6 := (row_facts hmb6).1 0
        simp at mc6
        have hne : w3.heap.size ≠ w.heap.size + 1 := by omega
        have hz6 : w3.heap.size < w6.heap.size := (Array.getElem?_eq_some_iff.1 hfb6.out).1
        have hal6 := Hd.mk fun (o : Obj) => (Below.refl (w6.setCell ⟨w.heap.size + 1, 0, none⟩ (.slice A6 (n + 1) c6)).heap.size (w6.setCell ⟨w.heap.size + 1, 0, none⟩ (.slice A6 (n + 1) c6))).al (Nat.le_refl _) o
        clear hm5 hfe5 hq5 hg6 ho6 hn6 hfb5 hmb6 hz5'
        go_wp2_with (at_builtin; refine appI_at rfl _ _ rfl w.heap.size _ rl [8] rfl (own_mv hm6.out.o4 (hal6.out _)) _ 1 1 rfl (rd_one_of (new_cell _ _ _ (by simp [World.setCell]) 0 _ rfl)) (by have := hln.out; omega) (by simp [World.setCell]; omega) ?_)
        intro v8 w8 ho8 hg8 hn8
        obtain ⟨A8, c8, rfl, -, -, -, -⟩ := own_shape ho8
        have hm7 := hm6.out.bl (hal6.out (.cells #[.int .i64 8] 2))
        have hq7 := Bx.go hq6.out (Fr.of ML (hal6.out (.cells #[.int .i64 8] 2))) fun q e => .inl e
        have hm8 := Hd.mk (hm7.app4 8 (.slice A8 (rl.length + 1) c8) hg8 (by simpa using ho8) (by simpa [World.setCell] using hn8))
        have hq8 := Hd.mk (Bx.go hq7 (hm7.fr4 hg8) fun q e => .inl e)
        have hfb7 := heap_old (o := .cells #[.int .i64 8] 2) (heap_off (u := .slice A6 (n + 1) c6) (j := 0) hfb6.out hne) (by simp [World.setCell]; omega)
        have hfb8 := (hg8.block w3.heap.size (Array.getElem?_eq_some_iff.1 hfb7).1 (fun e => own_noT hm7.o4 hfb7 (by decide) _ e.symm rfl)).trans hfb7
        have k0 := (row_facts hfb8).1 0
        simp at k0
        have hz8 : w3.heap.size < w8.heap.size := (Array.getElem?_eq_some_iff.1 hfb8).1
        have hal8 := Hd.mk fun (o : Obj) => (Below.refl w8.heap.size w8).al (Nat.le_refl _) o
        have hone8 : Hd (∀ u ∈ ([.slice none 0 0] : List Value), u.oneCell' = true) := ⟨by
          intro u hu
          rw [List.mem_singleton.1 hu]; rfl⟩
        clear hm7 hq7 hg8 ho8 hn8 hfb7 hfb8 z0 z1 mf6 mc6
        go_wp2_with (at_builtin; refine appE_at rfl _ _ rfl Tryz.underlying113 infoIs rfl (by decide) (by decide) w.heap.size _ pl.length pc rfl (own_mv hm8.out.o5 (hal8.out _)) _ _ rfl [.slice none 0 0] rfl (fun j u hu => new_cell w8 #[.slice none 0 0] 24 rfl j u (by simpa using hu)) hone8.out (by have := hln.out; omega) (by simp; omega) ?_)
        intro v9 w9 ho9 hg9 hn9
        have hm9 := Hd.mk ((hm8.out.bl (hal8.out (.cells #[.slice none 0 0] 24))).app5 [] ⟨by decide, fun p hp => by cases hp⟩ none 0 (Bx.go hq8.out (Fr.of ML (hal8.out (.cells #[.slice none 0 0] 24))) fun q e => .inl e) _ hg9 ho9 (by first | exact hn9 | (rw [World.size_alloc]; exact hn9)))
        clear hg9 ho9 hn9
        go_wp2
        go_roundw
        case rel => exact ⟨j, n + 1, ML, _, rl ++ [8], pl ++ [[]], _, _, by omega, by omega, by go_num, ⟨by have := hln.out; simp; omega⟩, hm9⟩
        case measure => simp [intOf] <;> omega
      by_cases hc10 : (10 : Int) < (xs.length : Int)
      · have hqx := hq1x
        have m4 := (row_facts hm4.out.mb).1 0
        simp at m4
        have hne4 : w.heap.size + 1 ≠ w3.heap.size := by omega
        have hne5 : w3.heap.size ≠ w.heap.size + 1 := by omega
        obtain ⟨W5, hW5⟩ : ∃ W5 : World, W5 = ((((w4.setCell ⟨w3.heap.size, 0, none⟩ (.slice none 0 0)).setCell ⟨w3.heap.size, 1, none⟩ (.int .i64 8)).setCell ⟨w3.heap.size, 2, none⟩ (.slice (some ⟨w4.heap.size + 1, 0, none⟩) 1 1)).alloc (.cells #[.int .i64 21, .int .i64 8, .int .i64 0, .int .i64 0, .int .i64 0, .int .i64 7, .slice none 0 0] 26)).alloc (.cells #[.slice none 0 0, .slice (some ⟨w4.heap.size, 0, none⟩) 1 1, .int .i64 1, .int .i64 0, .int .i64 0, .int .i64 0] 32) := ⟨_, rfl⟩
        have hz5' : W5.heap.size = w4.heap.size + 1 + 1 := by rw [hW5]; simp [World.setCell]
        have hF45 : Fr (fun q => q = w3.heap.size) w4 W5 := by
          rw [hW5]
          exact (((Fr.set w4 w3.heap.size 0 _).go (Fr.set _ w3.heap.size 1 _) fun q e => .inl e).go (Fr.set _ w3.heap.size 2 _) fun q e => .inl e).then (((Below.refl _ _).al (Nat.le_refl _) _).al (by simp) _)
        have h5I : W5.heap[w4.heap.size]? = some (.cells #[.int .i64 21, .int .i64 8, .int .i64 0, .int .i64 0, .int .i64 0, .int .i64 7, .slice none 0 0] 26 (0, 0)) := by
          rw [hW5]
          exact heap_old (heap_new _ _ _ _ (by simp [World.setCell])) (by simp [World.setCell])
        have h5B : W5.heap[w4.heap.size + 1]? = some (.cells #[.slice none 0 0, .slice (some ⟨w4.heap.size, 0, none⟩) 1 1, .int .i64 1, .int .i64 0, .int .i64 0, .int .i64 0] 32 (0, 0)) := by
          rw [hW5]
          exact heap_new _ _ _ _ (by simp [World.setCell])
        have hfb5 : Hd (W5.heap[w3.heap.size]? = some (.cells #[.slice none 0 0, .int .i64 8, .slice (some ⟨w4.heap.size + 1, 0, none⟩) 1 1] 35 (0, 0))) := ⟨by
          rw [hW5]
          exact (heap_old (heap_old (heap_set (heap_set (heap_set hfb4.out))) (by simp [World.setCell]; omega)) (by simp [World.setCell]; omega)).trans (by simp)⟩
        have hb4F := hm4.out.fr
        have hm5L := Hd.mk (hm4.out.fr' hF45 fun q e => by
          subst e
          exact ⟨hMge.out _ (Nat.le_refl _), hzw, fun e => by have := (own_in hm3.out.o4 _ e).2; omega, fun e => by have := (own_in hm3.out.o5 _ e).2; omega, fun e => by have := (own_in hm3.out.oF _ e).2; omega⟩)
        obtain ⟨ML, hML⟩ : ∃ ML : Nat → Prop, ML = (fun q => M3 q ∧ (q < w4.heap.size ∨ W5.heap.size ≤ q)) := ⟨_, rfl⟩
        have hm5N := Hd.mk (show MS lo g w ML n _ _ vF rl pl pc cF W5 from by rw [hML]; exact hm5L.out.nar ⟨by omega, fun q e => by have := (own_in hm3.out.o4 q e).2; omega, fun q e => by have := (own_in hm3.out.o5 q e).2; omega, fun q e => by have := (own_in hm3.out.oF q e).2; omega⟩)
        have hfeL := Hd.mk (lit_fe (M := ML) h5I h5B (by rw [hML]; rintro ⟨-, e⟩; omega) (by rw [hML]; rintro ⟨-, e⟩; omega))
        have hqL := Hd.mk (show Bx ML (fun w => RI lm w (.slice none ([] : List Int).length 0) []) W5 from fun w hF => rd_nilK)
        have hW5' := Hd.mk hW5
        clear hF45 h5I h5B hb4F hW5 hML hm5L
        obtain ⟨AF, cF', rfl, -, -, -, -⟩ := own_shape hm5N.out.oF
        have m0 := (row_facts hm5N.out.mb).1 0
        have mf := (row_facts hm5N.out.mb).2
        simp at m0
        have y0 := (row_facts hfb5.out).1 0
        have y1 := (row_facts hfb5.out).1 1
        have y2 := (row_facts hfb5.out).1 2
        simp at y0 y1 y2
        have hz5h := Hd.mk hz5'
        have hs1 : w.heap.size < w4.heap.size := by omega
        have hs2 : w.heap.size < w4.heap.size + 1 := by omega
        have hs3 : w3.heap.size < w4.heap.size + 1 := by omega
        have hs4 : w3.heap.size < w4.heap.size + 1 + 1 := by omega
        have hal5 := Hd.mk fun (o : Obj) => (Below.refl W5.heap.size W5).al (Nat.le_refl _) o
        have hlm5 := hm5N.out.lt
        have hz5 : w3.heap.size < W5.heap.size := (Array.getElem?_eq_some_iff.1 hfb5.out).1
        have hone : Hd (∀ u ∈ ([.slice none 0 0, .int .i64 8, .slice (some ⟨w4.heap.size + 1, 0, none⟩) 1 1] : List Value), u.oneCell' = true) := ⟨by
          intro u hu
          simp only [List.mem_cons, List.not_mem_nil, or_false] at hu
          rcases hu with rfl | rfl | rfl <;> rfl⟩
        have hm0' := Hd.mk m0
        have hm1' := Hd.mk mf
        have hlm' := Hd.mk hlm5
        have hz' := Hd.mk hz5
        clear hz5' m0 mf y0 y1 y2 hlm5 hz5
        go_wp2_with (at_builtin; rw [← hW5'.out]; refine appE_at rfl _ _ rfl Tryz.underlying36 infoFn rfl (by decide) (by decide) w.heap.size _ n cF rfl (own_mv hm5N.out.oF (hal5.out _)) (w4.heap.size + 1 + 1) _ rfl [.slice none 0 0, .int .i64 8, .slice (some ⟨w4.heap.size + 1, 0, none⟩) 1 1] rfl (fun j u hu => new_cell W5 #[.slice none 0 0, .int .i64 8, .slice (some ⟨w4.heap.size + 1, 0, none⟩) 1 1] 35 (by first | rfl | exact hz5h.out.symm) j u (by simpa using hu)) hone.out (by omega) (by have := hlm'.out; simp; omega) ?_)
        have hlm5 := hlm'.out
        have hz5 := hz'.out
        have hz5' := hz5h.out
        intro v6 w6 ho6 hg6 hn6
        obtain ⟨A6, c6, rfl, -, -, -, -⟩ := own_shape ho6
        have hm5 := hm5N.out.bl (hal5.out (.cells #[.slice none 0 0, .int .i64 8, .slice (some ⟨w4.heap.size + 1, 0, none⟩) 1 1] 35))
        have hfe5 := hfeL.out.go (Fr.of _ (hal5.out (.cells #[.slice none 0 0, .int .i64 8, .slice (some ⟨w4.heap.size + 1, 0, none⟩) 1 1] 35))) fun q e => .inl e
        have hq5 := Bx.go hqL.out (Fr.of ML (hal5.out (.cells #[.slice none 0 0, .int .i64 8, .slice (some ⟨w4.heap.size + 1, 0, none⟩) 1 1] 35))) fun q e => .inl e
        have hm6 := Hd.mk (hm5.appF [.slice none 0 0, .int .i64 8, .slice (some ⟨w4.heap.size + 1, 0, none⟩) 1 1] hfe5 _ hg6 ho6 (by first | exact hn6 | (rw [World.size_alloc]; exact hn6)))
        have hq6 := Hd.mk (Bx.go hq5 (hm5.frF hg6 (.slice A6 (n + 1) c6)) fun q e => .inl e)
        have hfb5 := (heap_old (o := .cells #[.slice none 0 0, .int .i64 8, .slice (some ⟨w4.heap.size + 1, 0, none⟩) 1 1] 35) hfb5.out hz5)
        have hfb6 := Hd.mk ((hg6.block w3.heap.size (by simp; omega) (fun e => by have := hbF.out _ e.symm; omega)).trans hfb5)
        have z0 := (row_facts hfb6.out).1 0
        have z1 := (row_facts hfb6.out).1 1
        simp at z0 z1
        have hmb6 := (hg6.block (w.heap.size + 1) (by simp; omega) (fun e => own_noT hm5.oF hm5.mb (by decide) _ e.symm rfl)).trans hm5.mb
        have mf6 := (row_facts hmb6).2
        have mc6 := (row_facts hmb6).1 0
        simp at mc6
        have hne : w3.heap.size ≠ w.heap.size + 1 := by omega
        have hz6 : w3.heap.size < w6.heap.size := (Array.getElem?_eq_some_iff.1 hfb6.out).1
        have hal6 := Hd.mk fun (o : Obj) => (Below.refl (w6.setCell ⟨w.heap.size + 1, 0, none⟩ (.slice A6 (n + 1) c6)).heap.size (w6.setCell ⟨w.heap.size + 1, 0, none⟩ (.slice A6 (n + 1) c6))).al (Nat.le_refl _) o
        clear hm5 hfe5 hq5 hg6 ho6 hn6 hfb5 hmb6 hz5'
        go_wp2_with (at_builtin; refine appI_at rfl _ _ rfl w.heap.size _ rl [8] rfl (own_mv hm6.out.o4 (hal6.out _)) _ 1 1 rfl (rd_one_of (new_cell _ _ _ (by simp [World.setCell]) 0 _ rfl)) (by have := hln.out; omega) (by simp [World.setCell]; omega) ?_)
        intro v8 w8 ho8 hg8 hn8
        obtain ⟨A8, c8, rfl, -, -, -, -⟩ := own_shape ho8
        have hm7 := hm6.out.bl (hal6.out (.cells #[.int .i64 8] 2))
        have hq7 := Bx.go hq6.out (Fr.of ML (hal6.out (.cells #[.int .i64 8] 2))) fun q e => .inl e
        have hm8 := Hd.mk (hm7.app4 8 (.slice A8 (rl.length + 1) c8) hg8 (by simpa using ho8) (by simpa [World.setCell] using hn8))
        have hq8 := Hd.mk (Bx.go hq7 (hm7.fr4 hg8) fun q e => .inl e)
        have hfb7 := heap_old (o := .cells #[.int .i64 8] 2) (heap_off (u := .slice A6 (n + 1) c6) (j := 0) hfb6.out hne) (by simp [World.setCell]; omega)
        have hfb8 := (hg8.block w3.heap.size (Array.getElem?_eq_some_iff.1 hfb7).1 (fun e => own_noT hm7.o4 hfb7 (by decide) _ e.symm rfl)).trans hfb7
        have k0 := (row_facts hfb8).1 0
        simp at k0
        have hz8 : w3.heap.size < w8.heap.size := (Array.getElem?_eq_some_iff.1 hfb8).1
        have hal8 := Hd.mk fun (o : Obj) => (Below.refl w8.heap.size w8).al (Nat.le_refl _) o
        have hone8 : Hd (∀ u ∈ ([.slice none 0 0] : List Value), u.oneCell' = true) := ⟨by
          intro u hu
          rw [List.mem_singleton.1 hu]; rfl⟩
        clear hm7 hq7 hg8 ho8 hn8 hfb7 hfb8 z0 z1 mf6 mc6
        go_wp2_with (at_builtin; refine appE_at rfl _ _ rfl Tryz.underlying113 infoIs rfl (by decide) (by decide) w.heap.size _ pl.length pc rfl (own_mv hm8.out.o5 (hal8.out _)) _ _ rfl [.slice none 0 0] rfl (fun j u hu => new_cell w8 #[.slice none 0 0] 24 rfl j u (by simpa using hu)) hone8.out (by have := hln.out; omega) (by simp; omega) ?_)
        intro v9 w9 ho9 hg9 hn9
        have hm9 := Hd.mk ((hm8.out.bl (hal8.out (.cells #[.slice none 0 0] 24))).app5 [] ⟨by decide, fun p hp => by cases hp⟩ none 0 (Bx.go hq8.out (Fr.of ML (hal8.out (.cells #[.slice none 0 0] 24))) fun q e => .inl e) _ hg9 ho9 (by first | exact hn9 | (rw [World.size_alloc]; exact hn9)))
        clear hg9 ho9 hn9
        go_wp2
        go_roundw
        case rel => exact ⟨j, n + 1, ML, _, rl ++ [8], pl ++ [[]], _, _, by omega, by omega, by go_num, ⟨by have := hln.out; simp; omega⟩, hm9⟩
        case measure => simp [intOf] <;> omega
      obtain ⟨AF, cF', rfl, -, -, -, -⟩ := own_shape hm4.out.oF
      have m0 := (row_facts hm4.out.mb).1 0
      have mf := (row_facts hm4.out.mb).2
      simp at m0
      have y0 := (row_facts hfb4.out).1 0
      have y1 := (row_facts hfb4.out).1 1
      have y2 := (row_facts hfb4.out).1 2
      simp at y0 y1 y2
      have hal5 := Hd.mk fun (o : Obj) => (Below.refl w4.heap.size w4).al (Nat.le_refl _) o
      have hlm5 := hm4.out.lt
      have hz5 : w3.heap.size < w4.heap.size := (Array.getElem?_eq_some_iff.1 hfb4.out).1
      have hone : Hd (∀ u ∈ ([.slice A ps.length c, .int .i64 ret, .slice A3 xs.length c3] : List Value), u.oneCell' = true) := ⟨by
        intro u hu
        simp only [List.mem_cons, List.not_mem_nil, or_false] at hu
        rcases hu with rfl | rfl | rfl <;> rfl⟩
      go_wp2_with (at_builtin; refine appE_at rfl _ _ rfl Tryz.underlying36 infoFn rfl (by decide) (by decide) w.heap.size _ n cF rfl (own_mv hm4.out.oF (hal5.out _)) _ _ rfl [.slice A ps.length c, .int .i64 ret, .slice A3 xs.length c3] rfl (fun j u hu => new_cell w4 #[.slice A ps.length c, .int .i64 ret, .slice A3 xs.length c3] 35 (by first | rfl | exact hz5h.out.symm) j u (by simpa using hu)) hone.out (by omega) (by simp; omega) ?_)
      intro v6 w6 ho6 hg6 hn6
      obtain ⟨A6, c6, rfl, -, -, -, -⟩ := own_shape ho6
      have hm5 := hm4.out.bl (hal5.out (.cells #[.slice A ps.length c, .int .i64 ret, .slice A3 xs.length c3] 35))
      have hfe5 := hf4.out.go (Fr.of _ (hal5.out (.cells #[.slice A ps.length c, .int .i64 ret, .slice A3 xs.length c3] 35))) fun q e => .inl e
      have hq5 := Bx.go hq1x.out (Fr.of M3 (hal5.out (.cells #[.slice A ps.length c, .int .i64 ret, .slice A3 xs.length c3] 35))) fun q e => .inl e
      have hm6 := Hd.mk (hm5.appF [.slice A ps.length c, .int .i64 ret, .slice A3 xs.length c3] hfe5 _ hg6 ho6 (by first | exact hn6 | (rw [World.size_alloc]; exact hn6)))
      have hq6 := Hd.mk (Bx.go hq5 (hm5.frF hg6 (.slice A6 (n + 1) c6)) fun q e => .inl e)
      have hfb5 := (heap_old (o := .cells #[.slice A ps.length c, .int .i64 ret, .slice A3 xs.length c3] 35) hfb4.out hz5)
      have hfb6 := Hd.mk ((hg6.block w3.heap.size (by simp; omega) (fun e => by have := hbF.out _ e.symm; omega)).trans hfb5)
      have z0 := (row_facts hfb6.out).1 0
      have z1 := (row_facts hfb6.out).1 1
      simp at z0 z1
      have hmb6 := (hg6.block (w.heap.size + 1) (by simp; omega) (fun e => own_noT hm5.oF hm5.mb (by decide) _ e.symm rfl)).trans hm5.mb
      have mf6 := (row_facts hmb6).2
      have mc6 := (row_facts hmb6).1 0
      simp at mc6
      have hne : w3.heap.size ≠ w.heap.size + 1 := by omega
      have hz6 : w3.heap.size < w6.heap.size := (Array.getElem?_eq_some_iff.1 hfb6.out).1
      have hal6 := Hd.mk fun (o : Obj) => (Below.refl (w6.setCell ⟨w.heap.size + 1, 0, none⟩ (.slice A6 (n + 1) c6)).heap.size (w6.setCell ⟨w.heap.size + 1, 0, none⟩ (.slice A6 (n + 1) c6))).al (Nat.le_refl _) o
      clear hm5 hfe5 hq5 hg6 ho6 hn6 hfb5 hmb6 m0 mf y0 y1 y2
      go_wp2_with (at_builtin; refine appI_at rfl _ _ rfl w.heap.size _ rl [ret] rfl (own_mv hm6.out.o4 (hal6.out _)) _ 1 1 rfl (rd_one_of (new_cell _ _ _ (by simp [World.setCell]) 0 _ rfl)) (by have := hln.out; omega) (by simp [World.setCell]; omega) ?_)
      intro v8 w8 ho8 hg8 hn8
      obtain ⟨A8, c8, rfl, -, -, -, -⟩ := own_shape ho8
      have hm7 := hm6.out.bl (hal6.out (.cells #[.int .i64 ret] 2))
      have hq7 := Bx.go hq6.out (Fr.of M3 (hal6.out (.cells #[.int .i64 ret] 2))) fun q e => .inl e
      have hm8 := Hd.mk (hm7.app4 ret (.slice A8 (rl.length + 1) c8) hg8 (by simpa using ho8) (by simpa [World.setCell] using hn8))
      have hq8 := Hd.mk (Bx.go hq7 (hm7.fr4 hg8) fun q e => .inl e)
      have hfb7 := heap_old (o := .cells #[.int .i64 ret] 2) (heap_off (u := .slice A6 (n + 1) c6) (j := 0) hfb6.out hne) (by simp [World.setCell]; omega)
      have hfb8 := (hg8.block w3.heap.size (Array.getElem?_eq_some_iff.1 hfb7).1 (fun e => own_noT hm7.o4 hfb7 (by decide) _ e.symm rfl)).trans hfb7
      have k0 := (row_facts hfb8).1 0
      simp at k0
      have hz8 : w3.heap.size < w8.heap.size := (Array.getElem?_eq_some_iff.1 hfb8).1
      have hal8 := Hd.mk fun (o : Obj) => (Below.refl w8.heap.size w8).al (Nat.le_refl _) o
      have hone8 : Hd (∀ u ∈ ([.slice A ps.length c] : List Value), u.oneCell' = true) := ⟨by
        intro u hu
        rw [List.mem_singleton.1 hu]; rfl⟩
      clear hm7 hq7 hg8 ho8 hn8 hfb7 hfb8 z0 z1 mf6 mc6
      go_wp2_with (at_builtin; refine appE_at rfl _ _ rfl Tryz.underlying113 infoIs rfl (by decide) (by decide) w.heap.size _ pl.length pc rfl (own_mv hm8.out.o5 (hal8.out _)) _ _ rfl [.slice A ps.length c] rfl (fun j u hu => new_cell w8 #[.slice A ps.length c] 24 rfl j u (by simpa using hu)) hone8.out (by have := hln.out; omega) (by simp; omega) ?_)
      intro v9 w9 ho9 hg9 hn9
      have hm9 := Hd.mk ((hm8.out.bl (hal8.out (.cells #[.slice A ps.length c] 24))).app5 ps hps A c (Bx.go hq8.out (Fr.of M3 (hal8.out (.cells #[.slice A ps.length c] 24))) fun q e => .inl e) _ hg9 ho9 (by first | exact hn9 | (rw [World.size_alloc]; exact hn9)))
      clear hg9 ho9 hn9
      go_wp2
      go_roundw
      case rel => exact ⟨j, n + 1, M3, _, rl ++ [ret], pl ++ [ps], _, _, by omega, by omega, by go_num, ⟨by have := hln.out; simp; omega⟩, hm9⟩
      case measure => simp [intOf] <;> omega
    obtain rfl : i = 0 := by omega
    obtain ⟨AF, cF', rfl, -, -, -, -⟩ := own_shape hms.out.oF
    have m0 := (row_facts hms.out.mb).1 0
    have r0 := (row_facts hms.out.rb).1 0
    have rf := (row_facts hms.out.rb).2
    simp at m0 r0
    have hlt := hms.out.lt
    have hltr : w.heap.size < wr.heap.size := by omega
    go_wp2
    refine bodyPost_ret (v := .agg #[.slice AF n cF']) (by simp [results, Tryz.results51, go_sem, r0]) rfl ⟨_, n, cF, rfl, ⟨by omega, by omega⟩, own_fr hms.out.oF (Fr.set _ _ _ _) (fun k hk e => own_noT hms.out.oF hms.out.rb (by decide) k hk e), hms.out.fe.go ((Fr.set wr w.heap.size 0 (.slice AF n cF')).sub fun q e => hms.out.mM q (.inr (.inl e))) (fun q e => .inl (hms.out.mM q ?_)), hms.out.rs.frN (Fr.set wr w.heap.size 0 (.slice AF n cF')) (fun q hq e => ?_), fr_gb (hms.out.fr.go (Fr.set wr w.heap.size 0 (.slice AF n cF')) fun q e => .inl (.inr (by omega)))⟩
    · rcases e with e | e
      · exact .inl e
      · exact .inr (.inr (.inr (.inr (.inr (.inr (by simpa [World.setCell] using e))))))
    · have := hms.out.hg; omega
end Go.Proofs.YtkcgejbnhpccdaaGreat
