import Derived.Test.YtkcgejbnhpccdaaGreatT24
set_option linter.unusedSimpArgs false
set_option linter.unusedVariables false
namespace Go.Proofs.YtkcgejbnhpccdaaGreat
open Go.RowKit
theorem GS.exg {C : GC} {D : GD} {W W' : World} (h : GS C D W) (hF : Fr D.ex W W') (e' : Nat → Prop) (he : ∀ b, e' b → D.ex b ∨ (W.heap.size ≤ b ∧ b < W'.heap.size)) : GS C {D with ex := e'} W' ∧ ∀ b, GE C {D with ex := e'} b → GE C D b ∨ W.heap.size ≤ b := by
  have hf : Fr (GE C D) W W' := hF.sub fun q e => by simp [GE, e]
  have hG : Fr (GA C) W W' := hF.sub fun q e => .inr (h.hex q e).1
  have hsub : ∀ b, GE C {D with ex := e'} b → GE C D b ∨ W.heap.size ≤ b := by
    intro b hb
    simp only [GE] at hb ⊢
    rcases hb with e | e | e | e | e | e | e
    all_goals first
      | exact .inl (by simp [e])
      | (rcases he b e with e2 | e2
         · exact .inl (by simp [e2])
         · exact .inr e2.1)
  have hge : ∀ b, D.ex b → C.fl ≤ b := fun b e => (h.hex b e).1
  have ngg : ¬ D.ex C.gg := fun e => (h.hex _ e).2.2.1 rfl
  have hrs : RdS C.lo W' C.gr := by
    obtain ⟨h1, A, n, c, p, h2, h3, h4, h5⟩ := h.rs
    have hg := h.hgr
    refine ⟨h1, A, n, c, p, (hF.block _ h.rs.lt (fun e => by have := hge _ e; omega)).trans h2, h3, h4, fun i hi => ?_⟩
    obtain ⟨b, off, q, k1, k2, k3, k4, k5⟩ := h5 i hi
    refine ⟨b, off, q, k1, k2, k3, k4, ?_⟩
    rw [← k5]
    exact World.cell?_of_block (hF.block b (by have := h.rs.lt; omega) (fun e => by have := hge _ e; omega))
  have hfl := h.hgg
  have hgl := h.lt
  exact ⟨⟨(hF.block _ h.lt ngg).trans h.cell, hrs, h.hgr, h.hgg, own_fr h.oP hF (fun k hk e => (h.hex k e).2.2.2.1 hk), own_fr h.oB hF (fun k hk e => (h.hex k e).2.2.2.2.1 hk), own_fr h.oPh hF (fun k hk e => (h.hex k e).2.2.2.2.2.1 hk), own_fr h.oIn hF (fun k hk e => (h.hex k e).2.2.2.2.2.2 hk),
    h.eB.go hf hsub, h.ePh.go hf hsub, h.eIn.go hf hsub, h.eI.go hf hsub, h.eW.go hf hsub, h.eR.go hG fun _ e => .inl e, h.eA.go hG fun _ e => .inl e, h.wP, h.lP, h.wR, h.n0, h.n1, h.n2, h.n3, h.n4, h.n5, h.n6, h.wA, h.nA, fun b e => by
      rcases he b e with e2 | ⟨e2, e3⟩
      · obtain ⟨x1, x2, x3⟩ := h.hex b e2
        exact ⟨x1, Nat.lt_of_lt_of_le x2 hF.size, x3⟩
      · exact ⟨by omega, e3, by omega, fun e4 => by have := (own_blk h.oP b e4).1; omega, fun e4 => by have := (own_blk h.oB b e4).1; omega, fun e4 => by have := (own_blk h.oPh b e4).1; omega, fun e4 => by have := (own_blk h.oIn b e4).1; omega⟩⟩, hsub⟩
theorem GP.exg {C : GC} {D Di : GD} {W X w3 : World} (h : GP C D Di W X) (hF : Fr Di.ex X w3) (hn : Fr (fun q => W.heap.size ≤ q) X w3) (e' : Nat → Prop) (he : ∀ b, e' b → Di.ex b ∨ (X.heap.size ≤ b ∧ b < w3.heap.size)) : GP C D {Di with ex := e'} W w3 := by
  obtain ⟨h1, h2⟩ := h.gs.exg hF e' he
  exact ⟨h1, h.fr.go hn fun q e => .inr e, fun b hb => by
    rcases h2 b hb with h' | h'
    · exact h.sub b h'
    · exact .inr (Nat.le_trans h.fr.size h'), h.fk.go hn fun q e => .inr e, fun b hb => h.subk b hb⟩
theorem appI_at {ops : Array Oper} {rest : List Oper} {o : Oper} {a : Act} {Q : Exit → Act → World → Prop} {W : World} (hgd : o.guard = none) (s x : Operand)
    (ho : o.op = .call { callee := .builtin .append, args := #[s, x], argTypes := #[24, 24] }) (base : Nat) (v : Value) (xs ys : List Int) (hs : a.eval s = v)
    (hown : W.ownsRow base 2 1 v xs.length (xs.map (Value.int .i64))) (ad : Addr) (n c : Nat) (hx : a.eval x = .slice (some ad) n c) (hr : RI lm W (.slice (some ad) n c) ys) (hl : xs.length ≤ 1099511627776) (hb : base ≤ W.heap.size)
    (hK : ∀ v' w', w'.ownsRow base 2 1 v' (xs ++ ys).length ((xs ++ ys).map (Value.int .i64)) → W.grownBy w' v.ownBlock → (v'.ownBlock = v.ownBlock ∨ v'.ownBlock = some W.heap.size) → wpList Tryz.prog ops Q rest (a.put o.dst v') w') : wpList Tryz.prog ops Q (o :: rest) a W := app_at hgd s x ho base v xs ys hs hown ad n c hx hr hl hb hK
theorem InsR.exs {k : Int} {D D' : GD} (h : InsR k D D') (e : Nat → Prop) : InsR k {D with ex := e} {D' with ex := e} := by
  obtain ⟨vIn, nIn, cIn, next, vids, vws, nid, rfl, h1, h2, h3, h4⟩ := h
  exact ⟨vIn, nIn, cIn, next, vids, vws, nid, rfl, h1, h2, h3, h4⟩
theorem InsR.ex {k : Int} {D D' : GD} (h : InsR k D D') : D'.ex = D.ex := by
  obtain ⟨vIn, nIn, cIn, next, vids, vws, nid, rfl, -⟩ := h; rfl
theorem Nm.exs {D : GD} (h : Nm D) (e : Nat → Prop) : Nm {D with ex := e} := h
set_option maxRecDepth 20000 in
set_option maxHeartbeats 8000000 in
theorem s_call3 (C : GC) (D : GD) (W : World) (h : GS C D W) (hm : Nm D) (hn : D.next + 5 ≤ 900) : Calls Tryz.prog 158 #[.pointer (some ⟨C.gg, 0, none⟩)] W (RetG0 5 C D W) := by
  have hn0 := h.n0
  have hh := Hd.mk h
  obtain ⟨A1, c1, rs, e1, l1, r1⟩ := bx_ri h.eR
  have k0 := h.at 0
  have k13 := h.at 13
  have k14 := h.at 14
  simp [GD.cells] at k0 k13 k14
  rw [e1] at k13
  have hlt := h.lt
  have hnr := h.n6
  have hm' := Hd.mk hm
  by_cases hz : C.nr = 0
  · have d : ((C.nr : Int) == 0) = true := by simp [hz]
    go_enter Tryz.func158, Tryz.ntmps158
    go_wp2
    (try simp only [Exit.inBlock, Exit.then])
    refine bodyPost_ret (results_none rfl _ _ _) rfl ?_
    exact ⟨D, rfl, GP.refl hh.out, (InsR.refl D).mono (by omega), hm'.out⟩
  have d : ((C.nr : Int) == 0) = false := by simpa using hz
  have hrs := h.rs
  have hB := s_below C.lo C.gr (C.nr : Int) W.drew (hrs.mv (row := none) ⟨rfl, rfl, rfl, Nat.le_refl _, fun _ _ _ => rfl⟩ (by simp) (fun k hk => by cases hk)) (by omega)
  have hgd := Hd.mk (h.mv (W' := W.drew) (Below.refl _ _).drew)
  clear h hm r1 hrs
  go_enter Tryz.func158, Tryz.ntmps158
  go_wp2
  go_still_tail 9, (by kernel_rfl)
  change wpList _ _ _ _ _ W.drew
  go_wp2_with fail
  refine hB.mono ?_; rintro e w1 ⟨v, rfl, ⟨q, rfl, q1, q2⟩, hr1, hg1⟩
  obtain ⟨kk, rfl⟩ : ∃ kk : Nat, q = kk := ⟨q.toNat, by omega⟩
  have hkn : kk < C.nr := by omega
  have hg := Hd.mk (hgd.out.trans (hgd.out.gs.rd hg1 hr1))
  have hal := Hd.mk fun (o : Obj) => (Below.refl w1.heap.size w1).al (Nat.le_refl _) o
  have h2 := hg.out.exg (w3 := w1.alloc (.cells #[] 2)) (Fr.of _ (hal.out _)) (Fr.of _ (hal.out _)) (fun b => D.ex b ∨ b = w1.heap.size) (by rintro b (e | rfl); exact .inl e; exact .inr ⟨Nat.le_refl _, by simp⟩)
  have h2' := Hd.mk h2
  have hz01 : W.heap.size ≤ w1.heap.size := hg.out.fr.size
  have hkp : kk < C.pars.length := by have := hh.out.nA; omega
  have hkp' := Hd.mk hkp
  have hwA := hh.out.wA (C.pars[kk]) (List.getElem_mem hkp)
  obtain ⟨L, hL⟩ : ∃ L, L = (C.pars[kk]).length := ⟨_, rfl⟩
  have hL' := Hd.mk hL
  have hL4 : L ≤ 4 := by rw [hL]; exact hwA.1
  have hwA' := Hd.mk hwA.2
  clear hr1 hg1 hB hgd h2 hL hwA k0 k13 k14
  go_wp2
  go_loopw [3, 4] (fun s3 s4 wr => ∃ (i : Nat) (Di : GD) (al : List Int) (v3 : Value), v3 = s3 ∧ i ≤ L ∧ s4 = .int .i64 i ∧ Hd (wr.ownsRow W.heap.size 2 1 s3 al.length (al.map (.int .i64))) ∧ Hd (∀ b, s3.ownBlock = some b → Di.ex b) ∧ Hd (GP C D Di W wr) ∧ Hd (InsR i D {Di with ex := D.ex}) ∧ Hd (Nm Di) ∧ Hd (∀ b, D.ex b → Di.ex b) ∧ al.length ≤ i) (fun _ s4 _ => L - (intOf s4).toNat)
  case atStart => exact ⟨0, {D with ex := fun b => D.ex b ∨ b = w1.heap.size}, [], _, rfl, Nat.zero_le _, rfl, ⟨own_empty _ _ _ _ _ rfl hz01⟩, ⟨fun b hb => Or.inr (by injection hb with hb; exact hb.symm)⟩, h2', ⟨InsR.refl D⟩, hm', ⟨fun b e => Or.inl e⟩, Nat.zero_le _⟩
  case round =>
    obtain ⟨i, Di, al, v3, rfl, hi, rfl, ho, hox, hgp, hin, hnm, hxx, hal4⟩ := hrel
    have j0 := hgp.out.gs.at 0
    have j13 := hgp.out.gs.at 13
    have j14 := hgp.out.gs.at 14
    simp [GD.cells] at j0 j13 j14
    have hA := hgp.out.gs.eA.out
    obtain ⟨Ap, cp, hvp, hcp1, hcp2, hA0⟩ := hA.sm
    have hA1 : Rd lm 1 KL wr (.slice Ap C.pars.length cp) C.pars := by rw [← hvp]; exact hA0.out
    rw [hvp] at j14
    obtain ⟨pb, po, pcs, hpA, hpl, ⟨vp, rfl, hrv⟩, hpat⟩ := hA1.in0 (Below.refl _ _) kk hkp'.out
    cases hpA
    have p0 := hpat 0 _ rfl
    simp at p0
    clear hpat
    obtain ⟨Av, cv, rfl, -, -, hv0⟩ := hrv.sm
    rw [← hL'.out] at p0
    have hlen : C.pars.length = C.nr := hh.out.nA
    rw [hlen] at j14
    have ik0 : (0 : Int) ≤ (kk : Int) := by omega
    have ik1 : (kk : Int) < (C.nr : Int) := by omega
    by_cases hlt2 : i < L
    · obtain ⟨b, off, cs, hA2, hbl, hk1, hat⟩ := hv0.out.in0 (Below.refl _ _) i (by have := hL'.out; omega)
      cases hA2
      cases hk1
      have g0 := hat 0 _ rfl
      simp at g0
      clear hat
      have hwd := hwA'.out _ (List.getElem_mem (l := C.pars[kk]) (n := i) (by have := hL'.out; omega))
      generalize (C.pars[kk])[i]'_ = wd at *
      have hz1 : (i : Int) < (L : Int) := by omega
      have hz0 : (0 : Int) ≤ (i : Int) := by omega
      have hnx := hin.out.next
      have hpk := s_pick C Di wd wr hgp.out.gs hnm.out (by have : Di.next ≤ D.next + i := hnx.2; omega) hwd
      go_wp2_with fail
      refine hpk.mono ?_; rintro e w2 ⟨x, Dj, rfl, hgj, hij, hnj⟩
      have hjx := hij.ex
      have hgj2 := hgp.out.trans hgj
      have hne : ∀ b, v3.ownBlock = some b → ¬ GK C Di b := by
        intro b hb hk
        have hx := hgp.out.gs.hex b (hox.out b hb)
        have hg9 := hgp.out.gs.hgr
        rcases hk with e | e | e | e | e | e
        · omega
        · exact hx.2.2.1 e
        · exact hx.2.2.2.1 e
        · exact hx.2.2.2.2.1 e
        · exact hx.2.2.2.2.2.1 e
        · exact hx.2.2.2.2.2.2 e
      have ho2 := Hd.mk (own_fr ho.out hgj.fk hne)
      have hal2 := Hd.mk fun (o : Obj) => (Below.refl w2.heap.size w2).al (Nat.le_refl _) o
      have hgX := Hd.mk (hgj2.trans (hgj2.gs.mv (hal2.out (.cells #[.int .i64 x] 2))))
      have hij2 := Hd.mk (hin.out.trans (hij.exs D.ex))
      have hnj' := Hd.mk hnj
      have hjx' := Hd.mk hjx
      have hz02 : W.heap.size ≤ w2.heap.size := hgj2.fr.size
      clear hgj hij hnj hgj2 hpk hne hjx
      go_wp2_with (at_builtin; refine appI_at rfl _ _ rfl W.heap.size _ al [x] rfl (own_mv ho2.out (hal2.out _)) _ 1 1 rfl (rd_one _ _) (by omega) (by simp; omega) ?_)
      intro v' w' ho' hg' hn'
      have he' : ∀ b, (Dj.ex b ∨ v'.ownBlock = some b) → Dj.ex b ∨ ((w2.alloc (.cells #[.int .i64 x] 2)).heap.size ≤ b ∧ b < w'.heap.size) := by
        rintro b (e | e)
        · exact .inl e
        · rcases hn' with hn' | hn'
          · exact .inl (by rw [hjx'.out]; exact hox.out b (by rw [← hn']; exact e))
          · have hlt3 := (own_blk ho' b e).1
            rw [hn'] at e
            injection e with e
            exact .inr ⟨by first | omega | (simp; omega), hlt3⟩
      have hG := hgX.out.exg ((Fr.gb hg').sub fun q e => by rw [hjx'.out]; exact hox.out q e) ((Fr.gb hg').sub fun q e => own_block_ge ho2.out q e) (fun b => Dj.ex b ∨ v'.ownBlock = some b) he'
      have hG' := Hd.mk hG
      have ho3 : Hd (w'.ownsRow W.heap.size 2 1 v' (al ++ [x]).length ((al ++ [x]).map (.int .i64))) := ⟨by simpa using ho'⟩
      clear ho' hg' hn' he' hG
      go_wp2
      go_roundw
      case rel => exact ⟨i + 1, {Dj with ex := fun b => Dj.ex b ∨ v'.ownBlock = some b}, al ++ [x], v', rfl, by omega, by go_num, ⟨by simpa using ho3.out⟩, ⟨fun b hb => Or.inr hb⟩, hG', ⟨hij2.out.mono (by omega)⟩, hnj', ⟨fun b e => Or.inl (by rw [hjx'.out]; exact hxx.out b e)⟩, by simp; omega⟩
      case measure => simp [intOf]; omega
    · obtain ⟨Ar, cr, rs2, er, lr, rr⟩ := bx_ri hgp.out.gs.eR
      rw [er] at j13
      obtain ⟨b, off, cs, hA2, hbl, hk1, hat⟩ := (rr wr (Below.refl _ _)).in0 (Below.refl _ _) kk (by omega)
      cases hA2
      cases hk1
      have g0 := hat 0 _ rfl
      simp at g0
      clear hat rr
      generalize rs2[kk]'_ = y at *
      obtain ⟨A5, c5, rfl, -, -, -, -⟩ := own_shape ho.out
      have hlt2' : ¬ (i : Int) < (L : Int) := by omega
      have hnx := hin.out.next
      have hgf := hgp.out.exg (Fr.refl _ wr) (Fr.refl _ wr) D.ex (fun b e => .inl (hxx.out b e))
      have hq : Bx (GE C {Di with ex := D.ex}) (QInst (instC ⟨26, y, 0, 0, 0, kk, al⟩ (.slice A5 al.length c5))) wr := by
        intro w' hF
        refine ⟨⟨26, y, 0, 0, 0, kk, al⟩, trivial, _, rfl, (OwI.of (own_fr ho.out hF fun b hb hk => ?_)).rd (by show _ ≤ 1048576; omega)⟩
        have hx := hgp.out.gs.hex b (hox.out b hb)
        have hg9 := hgp.out.gs.hgr
        have hg8 := own_block_ge ho.out b hb
        rcases hk with e | e | e | e | e | e | e
        · have := hx.1; omega
        · exact hx.2.2.1 e
        · exact hx.2.2.2.1 e
        · exact hx.2.2.2.2.1 e
        · exact hx.2.2.2.2.2.1 e
        · exact hx.2.2.2.2.2.2 e
        · have := (hh.out.hex b e).2.1; omega
      have hpt := s_put C {Di with ex := D.ex} ⟨26, y, 0, 0, 0, kk, al⟩ A5 al.length c5 wr hgf.gs (hnm.out.exs D.ex) (by have := hnx.2; show Di.next + 1 ≤ 900; have h9 : Di.next ≤ D.next + i := hnx.2; omega) hq (no24 (show (26 : Int) ≠ 24 by decide) (show (26 : Int) ≠ 25 by decide))
      have hgf' := Hd.mk hgf
      clear hgf hq
      go_wp2_with fail
      refine hpt.mono ?_; rintro e w2 ⟨q, D', rfl, hgp2, hin2, hnm2⟩
      have hgp' := Hd.mk (hgf'.out.trans hgp2)
      have hin' := Hd.mk ((hin.out.trans hin2).mono (show (i : Int) + 1 ≤ 5 by omega))
      have hnm' := Hd.mk hnm2
      clear hgp2 hin2 hnm2 hpt
      go_wp2
      go_end0
      exact ⟨D', rfl, hgp'.out, hin'.out, hnm'.out⟩
end Go.Proofs.YtkcgejbnhpccdaaGreat
