/- Contract of the reference's MachineRun: what it returns is the plain run's result. Condition: the arguments can be read. -/
import Derived.Test.YtdnbiohohbnhgaaJ15
import Derived.Test.YtdnbiohohbnhgaaJ09
set_option linter.unusedSimpArgs false
set_option linter.unusedVariables false
namespace Go.Proofs.Ytdnbiohohbnhgaa
open Go.RowKit
/-- The reference's machine, new: its block is the newest. -/
theorem init_MX {lo gr gm : Nat} {r : Int} {v1 v2 v3 : Value} {mem regs : List Int} {W : World} {cm : Nat} (hr : W.ownsRow lo 2 1 (.slice (some ⟨gr, 0, none⟩) r.toNat r.toNat) r.toNat (regs.map (Value.int .i64))) (hm : ByR W gm mem) (hlm : lo ≤ gm) (hgr : gr < W.heap.size) (hlr : lo ≤ gr) (hne : gm ≠ gr) (hlo : lo ≤ W.heap.size) :
    MX lo W.heap.size gr gm r v1 v2 v3 ⟨regs, mem, []⟩ 0 0 0 false (W.alloc (.cells #[.int .i64 r, v1, v2, v3, .slice (some ⟨gr, 0, none⟩) r.toNat r.toNat, .slice (some ⟨gm, 0, none⟩) 32 cm, .slice none 0 0, .int .i64 0, .int .i64 0, .int .i64 0, .bool false] 67)) := by
  have hb := (Below.refl W.heap.size W).al (Nat.le_refl _) (.cells #[.int .i64 r, v1, v2, v3, .slice (some ⟨gr, 0, none⟩) r.toNat r.toNat, .slice (some ⟨gm, 0, none⟩) 32 cm, .slice none 0 0, .int .i64 0, .int .i64 0, .int .i64 0, .bool false] 67)
  have hgm := hm.lt
  exact ⟨none, 0, cm, heap_new _ _ _ _ rfl, own_mv hr hb, hm.mv (hb.block gm hgm), ⟨W.heap.size + 1, World.ownsRow_nil _ _ _ _, by omega, by omega, by omega, by simp⟩, hlo, hlm, by omega, by omega, hne, hlr⟩
set_option maxRecDepth 20000 in
set_option maxHeartbeats 20000000 in
theorem s_MachineRun (p : XProg) (cs : List Value) (va : Value) (args : List Int) (mem : ByteArray) (fuel : Int) (w : World) (hp : KProg lm w p cs) (ha : RI lm w va args) (hms : mem.size ≤ 1048576) :
    Calls Try.prog 15 #[.agg cs.toArray, va, .string mem, .int .i64 fuel] w (RetRes (resOf p args mem fuel) w) := by
  have hpo := fun W (hW : Below w.heap.size w W) => s_ProgramOk p cs W (KM.mv hp hW)
  obtain ⟨v1, v2, v3, rfl, r1, r2, r3⟩ := hp
  have har := fun (W : World) (v3 : Value) (hW : Below w.heap.size w W) => s_l7Args v2 va v3 0 p.widths args W (r2.mv hW) (ha.mv hW)
  obtain ⟨A1, c1, rfl, -, l1, r1'⟩ := r1.sm
  obtain ⟨A2, c2, rfl, -, l2, r2'⟩ := r2.sm
  obtain ⟨A3, c3, rfl, -, l3, r3'⟩ := r3.sm
  obtain ⟨A4, c4, rfl, -, l4, ha'⟩ := ha.sm
  have hwi := fun W => s_l1In fuel 0 20000 W
  clear r1 r2 r3 ha
  have hbl := fun o => (Below.refl w.heap.size w).al (Nat.le_refl _) o
  obtain ⟨W0, hW0⟩ : ∃ W0 : World, W0 = (w.alloc (.cells #[.int .i64 p.regs, .slice A1 p.params.length c1, .slice A2 p.widths.length c2, .slice A3 p.code.length c3] 46)).alloc (.cells #[.int .i64 0, .int .i64 0, .slice none 0 0, .string ⟨#[]⟩, .int .i64 0] 42) := ⟨_, rfl⟩
  have hz0 : W0.heap.size = w.heap.size + 2 := by rw [hW0]; simp
  have hb0 : Below w.heap.size w W0 := by rw [hW0]; exact (hbl _).al (by first | (simp; done) | (simp; omega)) _
  have hpc : Pc W0 w.heap.size p.regs (.slice A1 p.params.length c1) (.slice A2 p.widths.length c2) (.slice A3 p.code.length c3) := by
    rw [hW0]
    refine ⟨?_, ?_, ?_, ?_⟩ <;> simp
  have hrb : W0.heap[w.heap.size + 1]? = some (.cells #[.int .i64 0, .int .i64 0, .slice none 0 0, .string ⟨#[]⟩, .int .i64 0] 42 (0, 0)) := by
    rw [hW0]; exact heap_new _ _ _ _ (by simp)
  have hpc' := Hd.mk hpc
  have hrb' := Hd.mk hrb
  have hb0' := Hd.mk hb0
  have hW0' := Hd.mk hW0
  clear hpc hb0 hW0 hbl hrb
  generalize hR : resOf p args mem fuel = R
  have hR' := Hd.mk hR
  clear hR
  unfold resOf runPre at hR'
  go_enter Try.func15, Try.ntmps15
  go_wp2_with fail
  rw [← hW0'.out]
  refine (hpo _ hb0'.out).mono ?_; rintro e w1 ⟨rfl, hb1⟩
  obtain ⟨cr, fr⟩ := row_facts ((hb1.block _ (by omega)).trans hrb'.out)
  have q0 := cr 0
  have q1 := cr 1
  have q2 := cr 2
  have q3 := cr 3
  have q4 := cr 4
  simp at q0 q1 q2 q3 q4
  have hz1 := hb1.size
  obtain ⟨a0, a1, a2, a3⟩ := hpc'.out.mv hb1 (by omega)
  have hB1 := Hd.mk (hb0'.out.then hb1)
  have hb1' := Hd.mk hb1
  clear cr hb1
  cases hq : progOk p
  · replace hR' := Hd.mk (show (⟨6, 0, [], ⟨#[]⟩, 0⟩ : XRes) = R by rw [← hR'.out, hq]; rfl)
    clear hq
    go_wp2
    refine bodyPost_ret (v := resV ⟨6, 0, [], ⟨#[]⟩, 0⟩ (.slice none 0 0)) (by simp [results, Try.results15, go_sem, resV, q0, q1, q2, q3, q4]) rfl ⟨_, by rw [← hR'.out], by rw [← hR'.out]; exact ownI_nil _ _, ?_⟩
    repeat (refine Below.setCell ?_ (by first | (simp; done) | (simp; omega)) _)
    exact hB1.out
  rw [hq] at hR'
  simp only [Bool.true_and] at hR'
  have hprog := Hd.mk hq
  clear hq
  go_wp2_with fail
  refine (har _ _ hB1.out).mono ?_; rintro e w2 ⟨rfl, hb2⟩
  have hB2 := Hd.mk (hB1.out.then hb2)
  have hb2' := Hd.mk (hb1'.out.then hb2)
  have hz2 := hb2.size
  clear q0 q1 q2 q3 q4 a0 a1 a2 a3 fr hb2 hb1' hB1
  obtain ⟨cr, fr⟩ := row_facts ((hb2'.out.block _ (by omega)).trans hrb'.out)
  have q0 := cr 0
  have q1 := cr 1
  have q2 := cr 2
  have q3 := cr 3
  have q4 := cr 4
  simp at q0 q1 q2 q3 q4
  obtain ⟨a0, a1, a2, a3⟩ := hpc'.out.mv hb2'.out (by omega)
  clear cr
  cases hq : argsOk p.widths args
  · replace hR' := Hd.mk (show (⟨6, 0, [], ⟨#[]⟩, 0⟩ : XRes) = R by rw [← hR'.out, hq]; rfl)
    clear hq
    go_wp2
    refine bodyPost_ret (v := resV ⟨6, 0, [], ⟨#[]⟩, 0⟩ (.slice none 0 0)) (by simp [results, Try.results15, go_sem, resV, q0, q1, q2, q3, q4]) rfl ⟨_, by rw [← hR'.out], by rw [← hR'.out]; exact ownI_nil _ _, ?_⟩
    repeat (refine Below.setCell ?_ (by first | (simp; done) | (simp; omega)) _)
    exact hB2.out
  rw [hq] at hR'
  simp only [Bool.true_and] at hR'
  have hargs := Hd.mk hq
  clear hq
  by_cases h32 : mem.size = 32
  rotate_left
  · have d : ((mem.size : Int) != 32) = true := by simp; omega
    have d2 : (mem.size == 32) = false := by simpa using h32
    replace hR' := Hd.mk (show (⟨6, 0, [], ⟨#[]⟩, 0⟩ : XRes) = R by rw [← hR'.out, d2]; rfl)
    go_wp2
    refine bodyPost_ret (v := resV ⟨6, 0, [], ⟨#[]⟩, 0⟩ (.slice none 0 0)) (by simp [results, Try.results15, go_sem, resV, q0, q1, q2, q3, q4]) rfl ⟨_, by rw [← hR'.out], by rw [← hR'.out]; exact ownI_nil _ _, ?_⟩
    repeat (refine Below.setCell ?_ (by first | (simp; done) | (simp; omega)) _)
    exact hB2.out
  have d : ((mem.size : Int) != 32) = false := by simp; omega
  have d2 : (mem.size == 32) = true := by simpa using h32
  rw [d2] at hR'
  simp only [Bool.true_and] at hR'
  clear d2
  cases hq : inR fuel 0 20000
  · rw [hq] at hwi
    replace hR' := Hd.mk (show (⟨6, 0, [], ⟨#[]⟩, 0⟩ : XRes) = R by rw [← hR'.out, hq]; rfl)
    clear hq
    go_wp2_with fail
    refine (hwi _).mono ?_; rintro e w3 ⟨rfl, rfl⟩
    go_wp2
    refine bodyPost_ret (v := resV ⟨6, 0, [], ⟨#[]⟩, 0⟩ (.slice none 0 0)) (by simp [results, Try.results15, go_sem, resV, q0, q1, q2, q3, q4]) rfl ⟨_, by rw [← hR'.out], by rw [← hR'.out]; exact ownI_nil _ _, ?_⟩
    repeat (refine Below.setCell ?_ (by first | (simp; done) | (simp; omega)) _)
    exact hB2.out
  rw [hq] at hR' hwi
  rw [if_pos rfl] at hR'
  have hfu : 0 ≤ fuel ∧ fuel ≤ 20000 := by unfold inR at hq; simpa using hq
  clear hq
  go_wp2_with fail
  refine (hwi _).mono ?_; rintro e w3 ⟨rfl, rfl⟩
  have hok := init_ok p args mem hargs.out h32
  obtain ⟨hal0, -⟩ := args_rng hargs.out
  obtain ⟨hn1, hn2, hn3, hn4, hn5, hn6⟩ := progOk_pre hprog.out
  have hal := Hd.mk (show p.params.length = args.length by omega)
  have hreg := Hd.mk hn6
  clear hal0 hn6 hn3
  have hn := hn1
  obtain ⟨f, cf, hcv, hf⟩ : ∃ (f : World → World) (cf : World → Nat), (∀ W, (convert 9 65 (.string mem)).run Try.prog W = .ok (.slice (some ⟨W.heap.size, 0, none⟩) mem.size (cf W)) (f W)) ∧ ∀ W, ByR (f W) W.heap.size (bytesOf mem) ∧ Below W.heap.size W (f W) ∧ (f W).heap.size = W.heap.size + 1 := by
    refine ⟨fun W => (conv_byr W mem).choose_spec.choose, fun W => (conv_byr W mem).choose, fun W => (conv_byr W mem).choose_spec.choose_spec.1, fun W => (conv_byr W mem).choose_spec.choose_spec.2⟩
  have hf' := Hd.mk hf
  have hmk := fun W => mk_run 22 2 (.int .i64 0) 1 8 p.regs.toNat Try.underlying22 infoI (by omega) (by omega) W
  rw [Int.toNat_of_nonneg (by omega), Nat.mul_one] at hmk
  have hmo := fun (W : World) (h : W0.heap.size ≤ W.heap.size) => mk_own W W0.heap.size 2 1 p.regs.toNat #[.int .i64 0] h (by unfold maxLen; omega)
  rw [Nat.mul_one] at hmo
  simp only [Value.cells] at hmk
  rw [madeInts] at hmo
  generalize hmc : madeCells #[.int .i64 0] p.regs.toNat = mc at *
  have hmo' := Hd.mk hmo
  clear hmo hf hmc
  have hd2 : Below W0.heap.size W0 w2.drew := hb2'.out.trans ⟨rfl, rfl, rfl, Nat.le_refl _, fun _ _ => rfl⟩
  have hd3 := hd2.al (show W0.heap.size ≤ w2.drew.heap.size by show W0.heap.size ≤ w2.heap.size; omega) (.cells mc 2)
  have hf1 := hf'.out w2.drew
  have hf2 := hf'.out ((w2.alloc (.cells mc 2)).drew)
  have hs1 : (f w2.drew).heap.size = w2.heap.size + 1 := hf1.2.2
  have hs2 : (f ((w2.alloc (.cells mc 2)).drew)).heap.size = w2.heap.size + 2 := by rw [hf2.2.2]; simp
  have hd4 : Below W0.heap.size W0 (f w2.drew) := hd2.trans (hf1.2.1.mono (show W0.heap.size ≤ w2.heap.size by omega))
  have hd5 : Below W0.heap.size W0 (f ((w2.alloc (.cells mc 2)).drew)) := hd3.trans (hf2.2.1.mono (by simp; omega))
  obtain ⟨o0, o1, o2, o3⟩ := hpc'.out.mv hd4 (by omega)
  obtain ⟨p0, p1, p2, p3⟩ := hpc'.out.mv hd5 (by omega)
  have hfc : ∀ (W : World) (o : Nat), w.heap.size < W.heap.size → (f W).cell? ⟨w.heap.size, o, none⟩ = W.cell? ⟨w.heap.size, o, none⟩ := fun W o h => bat (hf'.out W).2.1 w.heap.size h o
  clear hfc
  have hd6' := Hd.mk (hd4.al (show W0.heap.size ≤ (f w2.drew).heap.size by omega) (.cells mc 2))
  have hd4' := Hd.mk hd4
  have hd5' := Hd.mk hd5
  have hd3' := Hd.mk hd3
  clear hd2 hd3 hd4 hd5 hf1 hf2
  have hwz : w.heap.size < w2.heap.size := by omega
  have hoA := own_mv (show (w2.alloc (.cells mc 2)).drew.ownsRow W0.heap.size 2 1 _ _ _ from hmo'.out w2 (by omega)) (hf'.out ((w2.alloc (.cells mc 2)).drew)).2.1
  have hoB := hmo'.out (f w2.drew) (by omega)
  have hbyA := (hf'.out ((w2.alloc (.cells mc 2)).drew)).1
  have hbyB := ((hf'.out w2.drew).1).mv (((Below.refl (f w2.drew).heap.size (f w2.drew)).al (Nat.le_refl _) (.cells mc 2)).block w2.heap.size (by omega))
  have hMA := init_MX (cm := cf ((w2.alloc (.cells mc 2)).drew)) (v1 := .slice A1 p.params.length c1) (v2 := .slice A2 p.widths.length c2) (v3 := .slice A3 p.code.length c3) hoA (gm := w2.heap.size + 1) (by simpa using hbyA) (by omega) (by omega) (by omega) (by omega) (by omega)
  rw [hs2] at hMA
  rw [hs1] at hoB
  have hMB := init_MX (cm := cf w2.drew) (v1 := .slice A1 p.params.length c1) (v2 := .slice A2 p.widths.length c2) (v3 := .slice A3 p.code.length c3) hoB (gm := w2.heap.size) hbyB (by omega) (by simp; omega) (by omega) (by omega) (by simp; omega)
  have hMA' := Hd.mk hMA
  have hMB' := Hd.mk hMB
  have hbA := Hd.mk (hd5'.out.al (by omega) (.cells #[.int .i64 p.regs, .slice A1 p.params.length c1, .slice A2 p.widths.length c2, .slice A3 p.code.length c3, .slice (some ⟨w2.heap.size, 0, none⟩) p.regs.toNat p.regs.toNat, .slice (some ⟨w2.heap.size + 1, 0, none⟩) 32 (cf ((w2.alloc (.cells mc 2)).drew)), .slice none 0 0, .int .i64 0, .int .i64 0, .int .i64 0, .bool false] 67))
  have hbB := Hd.mk (hd6'.out.al (by simp; omega) (.cells #[.int .i64 p.regs, .slice A1 p.params.length c1, .slice A2 p.widths.length c2, .slice A3 p.code.length c3, .slice (some ⟨w2.heap.size + 1, 0, none⟩) p.regs.toNat p.regs.toNat, .slice (some ⟨w2.heap.size, 0, none⟩) 32 (cf w2.drew), .slice none 0 0, .int .i64 0, .int .i64 0, .int .i64 0, .bool false] 67))
  clear hoA hoB hbyA hbyB hMA hMB hd3' hd4' hd5' hd6'
  go_wp2_with fail
  refine wp_via (fun a a' W => ∃ (u34 u35 u36 u37 u38 u39 u40 : Value) (g gr gm : Nat), a' = ((((((((a.put (some 34) u34).put (some 35) u35).put (some 36) u36).put (some 37) u37).put (some 38) u38).put (some 39) u39).put (some 40) u40).put (some 41) (.pointer (some ⟨g, 0, none⟩))).put (some 9) (.pointer (some ⟨g, 0, none⟩)) ∧ Hd (MX W0.heap.size g gr gm p.regs (.slice A1 p.params.length c1) (.slice A2 p.widths.length c2) (.slice A3 p.code.length c3) ⟨List.replicate p.regs.toNat 0, bytesOf mem, []⟩ 0 0 0 false W) ∧ Hd (Below W0.heap.size W0 W)) ?_ ?_
  · go_region_with (fail)
    all_goals
      unfold Exit.then
      go_simp
    all_goals first
      | exact ⟨_, _, _, _, _, _, _, _, ⟨rfl, rfl, rfl, rfl, rfl, rfl, rfl, rfl, rfl⟩, ⟨_, _, by rw [hz0] at hMA'; exact hMA'⟩, by rw [hz0] at hbA; exact hbA⟩
      | exact ⟨_, _, _, _, _, _, _, _, ⟨rfl, rfl, rfl, rfl, rfl, rfl, rfl, rfl, rfl⟩, ⟨_, _, ⟨by have h9 := hMB'.out; rw [hz0] at h9; simp only [World.size_alloc, hs1] at h9; exact h9⟩⟩, by rw [hz0] at hbB; exact hbB⟩
  rintro a' Wm ⟨u34, u35, u36, u37, u38, u39, u40, g, gr, gm, rfl, hMI, hbm⟩
  simp only [Act.put, List.setIfInBounds_toArray, List.set_cons_zero, List.set_cons_succ]
  clear hMA' hMB' hbA hbB
  obtain ⟨cr, fr⟩ := row_facts ((hbm.out.block _ (by omega)).trans hrb'.out)
  obtain ⟨b0, b1, b2, b3⟩ := hpc'.out.mv hbm.out (by omega)
  clear o0 o1 o2 o3 p0 p1 p2 p3 q0 q1 q2 q3 q4 a0 a1 a2 a3 hs1 hs2 hmk hmo' hcv hf' hwi hpo har
  have q0 := cr 0
  have q1 := cr 1
  have q2 := cr 2
  have q3 := cr 3
  have q4 := cr 4
  simp at q0 q1 q2 q3 q4
  clear cr
  obtain ⟨gq, hgq⟩ : ∃ z, z = w.heap.size := ⟨_, rfl⟩
  go_wp2
  go_loopw [10] (fun s10 wr => ∃ (k : Nat) (st : MS), k ≤ p.params.length ∧ s10 = .int .i64 k ∧ Hd (putArgs (p.params.drop k) (args.drop k) st.regs = (initM p args mem).regs ∧ st.mem = bytesOf mem ∧ st.out = []) ∧ Hd (MOk p.regs st) ∧ Hd (MX W0.heap.size g gr gm p.regs (.slice A1 p.params.length c1) (.slice A2 p.widths.length c2) (.slice A3 p.code.length c3) st 0 0 0 false wr) ∧ Hd (Below W0.heap.size W0 wr)) (fun s10 _ => p.params.length - (intOf s10).toNat)
  case atStart => exact ⟨0, _, Nat.zero_le _, rfl, ⟨rfl, rfl, rfl⟩, ⟨⟨by simp, fun i h => by simp, by rw [bytesOf_len]; exact h32, bytesOf_rng mem, by simp⟩⟩, hMI, hbm⟩
  case round =>
    clear hMI hbm fr q0 q1 q2 q3 q4 b0 b1 b2 b3
    obtain ⟨k, st, hk, rfl, hput, hO, hM, hbr⟩ := hrel
    obtain ⟨b0, b1, b2, b3⟩ := hpc'.out.mv hbr.out (by omega)
    by_cases hlt : k < p.params.length
    · have hka : k < args.length := by have := hal.out; omega
      obtain ⟨b, off, cs, hA, hbl, hk1, hat⟩ := r1'.out.in0 (hb0'.out.then hbr.out) k hlt
      cases hA
      cases hk1
      have g0 := hat 0 _ rfl
      simp at g0
      clear hat
      obtain ⟨b2', off2, cs, hA, hbl2, hk1, hat⟩ := ha'.out.in0 (hb0'.out.then hbr.out) k hka
      cases hA
      cases hk1
      have g1 := hat 0 _ rfl
      simp at g1
      clear hat
      have hto : regB p.regs p.params[k] = true := List.all_eq_true.1 hreg.out _ (List.getElem_mem hlt)
      have hto' := (regB_iff _ _).1 hto
      have har' := (args_rng hargs.out).2 args[k] (List.getElem_mem hka)
      have hput2 := hput.out.1
      rw [List.drop_eq_getElem_cons hlt, List.drop_eq_getElem_cons hka, putArgs] at hput2
      generalize p.params[k] = to at *
      generalize args[k] = av at *
      obtain ⟨Ao, co, cm, hh, -⟩ := id hM.out
      obtain ⟨cg, fg⟩ := row_facts hh
      have k4 := cg 4
      simp at k4
      clear cg hh
      obtain ⟨hu, hfr⟩ := hM.out.reg hO.out to (by omega)
      have hst := Hd.mk (hM.out.setReg to.toNat av)
      have hl := hM.out.los
      have hO2 : Hd (MOk p.regs ⟨st.regs.set to.toNat av, st.mem, st.out⟩) := ⟨⟨by simpa using hO.out.regs, fun i hi => by
        simp only [List.getElem_set]
        split
        · exact har'
        · exact hO.out.rng i (by simpa using hi), hO.out.mem, hO.out.byt, hO.out.out⟩⟩
      have hput3 := Hd.mk hput2
      obtain ⟨y0, y1⟩ := hto'
      have y2 : to < (p.regs.toNat : Int) := by omega
      have y3 : to < max p.regs 0 := by omega
      have y4 : (k : Int) < (args.length : Int) := by omega
      have y5 : (0 : Int) ≤ (k : Int) := by omega
      have y6 : (k : Int) < (p.params.length : Int) := by omega
      clear hput2 hto
      go_wp2
      go_still_tail 14, (by kernel_rfl)
      change wpList _ _ _ _ _ wr.drew
      go_wp2
      go_roundw
      case rel => exact ⟨k + 1, ⟨st.regs.set to.toNat av, st.mem, st.out⟩, by omega, by go_num, ⟨hput3.out, hput.out.2⟩, hO2, hst, ⟨by first | exact (hbr.out.setCell (p := ⟨gr, to.toNat, none⟩) hl.2.2.1 _).drew | exact (Below.drew hbr.out).setCell (p := ⟨gr, to.toNat, none⟩) hl.2.2.1 _⟩⟩
      case measure => simp [intOf]; omega
    · have e : k = p.params.length := by omega
      subst e
      have hst : st = initM p args mem := by
        obtain ⟨h1, h2, h3⟩ := hput.out
        rw [List.drop_length] at h1
        obtain ⟨a1, a2, a3⟩ := st
        try simp only at h2 h3
        subst h2 h3
        have : putArgs [] (args.drop p.params.length) a1 = a1 := by simp [putArgs]
        try simp only at h1
        rw [this] at h1
        rw [h1]
        rfl
      subst hst
      have hal2 := hal.out
      obtain ⟨n, rfl⟩ : ∃ n : Nat, fuel = n := ⟨fuel.toNat, by omega⟩
      generalize hRM : runM p n (n : Int).toNat 0 (initM p args mem) = RM at hR'
      have hRM' := Hd.mk hRM
      clear hRM b0 b1 b2 b3 hput
      go_wp2
      clear hal2
      go_loopw [11] (fun s11 wr => ∃ (k : Nat) (pc value code : Int) (done : Bool) (st : MS), k ≤ n ∧ s11 = .int .i64 ((n : Int) - k) ∧ Hd (done = true → RM = ⟨code, value, (n : Int) - k, st⟩) ∧ Hd (done = false → value = 0 ∧ code = 0 ∧ 0 ≤ pc ∧ pc < p.code.length ∧ runM p n k pc st = RM) ∧ Hd (MOk p.regs st) ∧ Hd (MX W0.heap.size g gr gm p.regs (.slice A1 p.params.length c1) (.slice A2 p.widths.length c2) (.slice A3 p.code.length c3) st pc value code done wr) ∧ Hd (Below W0.heap.size W0 wr)) (fun s11 _ => n + 1 - (intOf s11).toNat)
      case atStart => exact ⟨n, 0, 0, 0, false, initM p args mem, Nat.le_refl _, by simp, ⟨fun h => by cases h⟩, ⟨fun _ => ⟨rfl, rfl, by omega, by omega, by have := hRM'.out; simpa using this⟩⟩, hO, hM, hbr⟩
      case round =>
        clear hM hbr hO hok hRM'
        obtain ⟨k, pc, value, code, done, st, hk, rfl, hdn, hgo, hO, hM, hbr⟩ := hrel
        obtain ⟨Ao, co, cm, hh, -⟩ := id hM.out
        obtain ⟨cg, fg⟩ := row_facts hh
        have k4 := cg 4
        have k7 := cg 7
        have k10 := cg 10
        simp at k4 k7 k10
        clear cg hh
        have hl := hM.out.los
        cases hd : done
        · subst hd
          obtain ⟨rfl, rfl, hp0, hp1, hrun⟩ := hgo.out rfl
          cases k with
          | zero =>
            have hz9 := hbr.out.size
            go_wp2_with fail
            refine (s_fail _ g gr gm _ _ _ _ st pc 0 0 false 4 _ hM.out hz9).mono ?_; rintro e w5 ⟨rfl, hM5, hb5⟩
            have hb9 := Hd.mk (hbr.out.trans hb5)
            have hRr : Hd ((⟨4, 0, (n : Int) - (0 : Nat), st⟩ : MRes) = RM) := ⟨by rw [← hrun]; simp [runM]⟩
            have e9 := hRr.out
            subst e9
            replace hR' := Hd.mk (show (⟨4, 0, st.out, toBytes st.mem, (n : Int) - (0 : Nat)⟩ : XRes) = R from hR'.out)
            obtain ⟨Ao, co, cm, hh1, -, hby, ⟨lo2, hown, i1, i2, i3, i4⟩, hl1, -⟩ := hM5
            have hcv0 := conv_back w5 gm cm st.mem hby hO.out.byt 32 hO.out.mem.symm
            have hcvD := conv_back w5.drew gm cm st.mem hby hO.out.byt 32 hO.out.mem.symm
            obtain ⟨kc, -⟩ := row_facts hh1
            have k5 := kc 5
            have k6 := kc 6
            have k8 := kc 8
            have k9 := kc 9
            simp at k5 k6 k8 k9
            obtain ⟨cr, fr⟩ := row_facts ((hb9.out.block _ (by omega)).trans hrb'.out)
            have q0 := cr 0
            have q1 := cr 1
            have q2 := cr 2
            have q3 := cr 3
            have q4 := cr 4
            simp at q0 q1 q2 q3 q4
            have hown' := Hd.mk hown
            have hb5' := Hd.mk (hb0'.out.trans (hb9.out.mono (by omega)))
            have hgg : g ≠ w.heap.size + 1 := by omega
            have hlo2 := Hd.mk (show w.heap.size + 2 ≤ lo2 by omega)
            clear kc cr hh1 hby hown hO
            go_wp2
            go_still_tail 19, (by kernel_rfl)
            change wpList _ _ _ _ _ w5.drew
            go_wp2
            all_goals refine bodyPost_ret (v := resV ⟨4, 0, st.out, toBytes st.mem, (n : Int) - (0 : Nat)⟩ (.slice Ao st.out.length co)) (by simp [results, Try.results15, go_sem, resV, q0, q1, q2, q3, q4]) rfl ⟨_, by rw [← hR'.out], ?_, ?_⟩
            all_goals first
              | (rw [← hR'.out]
                 refine own_lower (base := lo2) ?_ (by have := hlo2.out; omega)
                 repeat (refine own_far ?_ (by have := hlo2.out; omega))
                 exact hown'.out)
              | (apply Below.drew
                 repeat (refine Below.setCell ?_ (by first | (simp; done) | (simp; omega)) _)
                 exact hb5'.out)
          | succ k =>
            have hmin := pc_ins hprog.out pc hp0 hp1
            have hstep := Hd.mk (run_step p n k pc st)
            have hok2 := Hd.mk (step_ok hO.out hmin pc)
            have hon := Hd.mk (step_on (s := st) pc hprog.out hp0 hp1)
            rw [hrun] at hstep
            have hx : p.code.getD pc.toNat default = p.code[pc.toNat]'(by omega) := by rw [List.getD_eq_getElem?_getD, List.getElem?_eq_getElem (by omega)]; rfl
            rw [hx] at hmin hstep hok2 hon
            obtain ⟨b, off, cs, hA, hbl, ⟨rfl, hop⟩, hat⟩ := r3'.out.in0 (hb0'.out.then hbr.out) pc.toNat (by omega)
            cases hA
            clear hx hop hgo hdn hrun
            have g0 := hat 0 _ rfl
            have g1 := hat 1 _ rfl
            have g2 := hat 2 _ rfl
            have g3 := hat 3 _ rfl
            have g4 := hat 4 _ rfl
            have g5 := hat 5 _ rfl
            have g6 := hat 6 _ rfl
            simp only [Nat.add_zero] at g0
            clear hat
            generalize p.code[pc.toNat]'(by omega) = x at *
            obtain ⟨b0, b1, b2, b3⟩ := hpc'.out.mv hbr.out (by omega)
            have hz9 := hbr.out.size
            have hs9 := Hd.mk (s_step W0.heap.size g gr gm p.regs p.code.length _ _ _ st pc wr.drew x (hM.out.drew 1) hO.out hn1.2 hmin hz9 ⟨hp0, by omega⟩)
            unfold minsV at hs9
            clear b0 b1 b2
            generalize hD : stepX x st pc = D at *
            have y1 : decide ((n : Int) - ((k + 1 : Nat) : Int) ≥ (n : Int)) = false := by simp; omega
            have y2 : (n : Int) - ((k + 1 : Nat) : Int) + 1 ≤ 20000 := by omega
            go_wp2
            go_still_tail 9, (by kernel_rfl)
            change wpList _ _ _ _ _ wr.drew
            go_wp2_with fail
            refine (hs9.out).mono ?_; rintro e w5 ⟨rfl, hM5, hb5⟩
            have hM5' := Hd.mk hM5
            have hb5' := Hd.mk ((drewN_below hbr.out 1).trans hb5)
            clear hM5 hb5 hs9
            go_wp2
            go_roundw
            case rel =>
              exact ⟨k, D.2.1, D.2.2.1, D.2.2.2.1, D.2.2.2.2, D.1, by omega, by congr 1; omega, ⟨fun h => by have h9 := hstep.out; rw [if_pos h] at h9; exact h9⟩, ⟨fun h => by have h9 := hstep.out; rw [if_neg (by rw [h]; decide)] at h9; obtain ⟨e1, e2, e3, e4⟩ := hon.out h; exact ⟨e1, e2, e3, e4, h9.symm⟩⟩, hok2, hM5', hb5'⟩
            case measure => simp [intOf]; omega
        · subst hd
          have hRr := Hd.mk (hdn.out rfl)
          have e9 := hRr.out
          subst e9
          replace hR' := Hd.mk (show (⟨code, value, st.out, toBytes st.mem, (n : Int) - k⟩ : XRes) = R from hR'.out)
          obtain ⟨Ao, co, cm, hh1, -, hby, ⟨lo2, hown, i1, i2, i3, i4⟩, hl1, -⟩ := hM.out
          have hcv0 := conv_back wr gm cm st.mem hby hO.out.byt 32 hO.out.mem.symm
          have hcvD := conv_back wr.drew gm cm st.mem hby hO.out.byt 32 hO.out.mem.symm
          obtain ⟨kc, -⟩ := row_facts hh1
          have k5 := kc 5
          have k6 := kc 6
          have k8 := kc 8
          have k9 := kc 9
          simp at k5 k6 k8 k9
          obtain ⟨cr, fr⟩ := row_facts ((hbr.out.block _ (by omega)).trans hrb'.out)
          have q0 := cr 0
          have q1 := cr 1
          have q2 := cr 2
          have q3 := cr 3
          have q4 := cr 4
          simp at q0 q1 q2 q3 q4
          have hown' := Hd.mk hown
          have hb5' := Hd.mk (hb0'.out.trans (hbr.out.mono (by omega)))
          have hgg : g ≠ w.heap.size + 1 := by omega
          have hlo2 := Hd.mk (show w.heap.size + 2 ≤ lo2 by omega)
          clear kc cr hh1 hby hown hO
          go_wp2
          go_still_tail 19, (by kernel_rfl)
          change wpList _ _ _ _ _ wr.drew
          go_wp2
          all_goals refine bodyPost_ret (v := resV ⟨code, value, st.out, toBytes st.mem, (n : Int) - k⟩ (.slice Ao st.out.length co)) (by simp [results, Try.results15, go_sem, resV, q0, q1, q2, q3, q4]) rfl ⟨_, by rw [← hR'.out], ?_, ?_⟩
          all_goals first
            | (rw [← hR'.out]
               refine own_lower (base := lo2) ?_ (by have := hlo2.out; omega)
               repeat (refine own_far ?_ (by have := hlo2.out; omega))
               exact hown'.out)
            | (apply Below.drew
               repeat (refine Below.setCell ?_ (by first | (simp; done) | (simp; omega)) _)
               exact hb5'.out)
end Go.Proofs.Ytdnbiohohbnhgaa
