import Derived.Test.YtkcgejbnhpccdaaGreatP40
import Derived.Deep.RegionHeld3
import Derived.Test.YtkcgejbnhpccdaaGreatP29
set_option linter.unusedSimpArgs false
set_option linter.unusedVariables false
namespace Go.Proofs.YtkcgejbnhpccdaaGreat
open Go.RowKit
theorem GS.exg {C : GC} {D : GD} {W W' : World} (h : GS C D W) (hF : Fr D.ex W W') (e' : Nat → Prop) (he : ∀ b, e' b → D.ex b ∨ (W.heap.size ≤ b ∧ b < W'.heap.size)) : GS C {D with ex := e'} W' ∧ ∀ b, GE C {D with ex := e'} b → GE C D b ∨ W.heap.size ≤ b := by
  have hf : Fr (GE C D) W W' := hF.sub fun q e => by simp [GE, e]
  have hG : Fr (GA C) W W' := hF.sub fun q e => .inr (h.hex q e).1
  have hsub : ∀ b, GE C {D with ex := e'} b → GE C D b ∨ W.heap.size ≤ b := by
    intro b hb
    simp only [GE] at hb ⊢
    rcases hb with e | e | e | e | e | e | e
    all_goals first
      | exact .inl (by simp [e])
      | (rcases he b e with e2 | e2
         · exact .inl (by simp [e2])
         · exact .inr e2.1)
  have hge : ∀ b, D.ex b → C.fl ≤ b := fun b e => (h.hex b e).1
  have ngg : ¬ D.ex C.gg := fun e => (h.hex _ e).2.2.1 rfl
  have hrs : RdS C.lo W' C.gr := by
    obtain ⟨h1, A, n, c, p, h2, h3, h4, h5⟩ := h.rs
    have hg := h.hgr
    refine ⟨h1, A, n, c, p, (hF.block _ h.rs.lt (fun e => by have := hge _ e; omega)).trans h2, h3, h4, fun i hi => ?_⟩
    obtain ⟨b, off, q, k1, k2, k3, k4, k5⟩ := h5 i hi
    refine ⟨b, off, q, k1, k2, k3, k4, ?_⟩
    rw [← k5]
    exact World.cell?_of_block (hF.block b (by have := h.rs.lt; omega) (fun e => by have := hge _ e; omega))
  have hfl := h.hgg
  have hgl := h.lt
  exact ⟨⟨(hF.block _ h.lt ngg).trans h.cell, hrs, h.hgr, h.hgg, own_fr h.oP hF (fun k hk e => (h.hex k e).2.2.2.1 hk), own_fr h.oB hF (fun k hk e => (h.hex k e).2.2.2.2.1 hk), own_fr h.oPh hF (fun k hk e => (h.hex k e).2.2.2.2.2.1 hk), own_fr h.oIn hF (fun k hk e => (h.hex k e).2.2.2.2.2.2 hk),
    h.eB.go hf hsub, h.ePh.go hf hsub, h.eIn.go hf hsub, h.eI.go hf hsub, h.eW.go hf hsub, h.eR.go hG fun _ e => .inl e, h.eA.go hG fun _ e => .inl e, h.wP, h.lP, h.wR, h.n0, h.n1, h.n2, h.n3, h.n4, h.n5, h.n6, h.wA, h.nA, fun b e => by
      rcases he b e with e2 | ⟨e2, e3⟩
      · obtain ⟨x1, x2, x3⟩ := h.hex b e2
        exact ⟨x1, Nat.lt_of_lt_of_le x2 hF.size, x3⟩
      · exact ⟨by omega, e3, by omega, fun e4 => by have := (own_blk h.oP b e4).1; omega, fun e4 => by have := (own_blk h.oB b e4).1; omega, fun e4 => by have := (own_blk h.oPh b e4).1; omega, fun e4 => by have := (own_blk h.oIn b e4).1; omega⟩⟩, hsub⟩
theorem GP.exg {C : GC} {D Di : GD} {W X w3 : World} (h : GP C D Di W X) (hF : Fr Di.ex X w3) (hn : Fr (fun q => W.heap.size ≤ q) X w3) (e' : Nat → Prop) (he : ∀ b, e' b → Di.ex b ∨ (X.heap.size ≤ b ∧ b < w3.heap.size)) : GP C D {Di with ex := e'} W w3 := by
  obtain ⟨h1, h2⟩ := h.gs.exg hF e' he
  exact ⟨h1, h.fr.go hn fun q e => .inr e, fun b hb => by
    rcases h2 b hb with h' | h'
    · exact h.sub b h'
    · exact .inr (Nat.le_trans h.fr.size h'), h.fk.go hn fun q e => .inr e, fun b hb => h.subk b hb⟩
theorem appI_at {ops : Array Oper} {rest : List Oper} {o : Oper} {a : Act} {Q : Exit → Act → World → Prop} {W : World} (hgd : o.guard = none) (s x : Operand)
    (ho : o.op = .call { callee := .builtin .append, args := #[s, x], argTypes := #[24, 24] }) (base : Nat) (v : Value) (xs ys : List Int) (hs : a.eval s = v)
    (hown : W.ownsRow base 2 1 v xs.length (xs.map (Value.int .i64))) (ad : Addr) (n c : Nat) (hx : a.eval x = .slice (some ad) n c) (hr : RI lm W (.slice (some ad) n c) ys) (hl : xs.length ≤ 1099511627776) (hb : base ≤ W.heap.size)
    (hK : ∀ v' w', w'.ownsRow base 2 1 v' (xs ++ ys).length ((xs ++ ys).map (Value.int .i64)) → W.grownBy w' v.ownBlock → (v'.ownBlock = v.ownBlock ∨ v'.ownBlock = some W.heap.size) → wpList Tryz.prog ops Q rest (a.put o.dst v') w') : wpList Tryz.prog ops Q (o :: rest) a W := app_at hgd s x ho base v xs ys hs hown ad n c hx hr hl hb hK
theorem InsR.exs {k : Int} {D D' : GD} (h : InsR k D D') (e : Nat → Prop) : InsR k {D with ex := e} {D' with ex := e} := by
  obtain ⟨vIn, nIn, cIn, next, vids, vws, nid, rfl, h1, h2, h3, h4⟩ := h
  exact ⟨vIn, nIn, cIn, next, vids, vws, nid, rfl, h1, h2, h3, h4⟩
theorem InsR.ex {k : Int} {D D' : GD} (h : InsR k D D') : D'.ex = D.ex := by
  obtain ⟨vIn, nIn, cIn, next, vids, vws, nid, rfl, -⟩ := h; rfl
theorem Nm.exs {D : GD} (h : Nm D) (e : Nat → Prop) : Nm {D with ex := e} := h
set_option maxRecDepth 20000 in
set_option maxHeartbeats 8000000 in
theorem s_call3 (C : GC) (D : GD) (W : World) (h : GS C D W) (hm : Nm D) (hn : D.next + 5 ≤ 900) : Calls Tryz.prog 158 #[.pointer (some ⟨C.gg, 0, none⟩)] W (RetG0 5 C D W) := by
  have hn0 := h.n0
  have hh := Hd.mk h
  obtain ⟨A1, c1, rs, e1, l1, r1⟩ := bx_ri h.eR
  have k0 := h.at 0
  have k13 := h.at 13
  have k14 := h.at 14
  simp [GD.cells] at k0 k13 k14
  rw [e1] at k13
  have hlt := h.lt
  have hnr := h.n6
  have hm' := Hd.mk hm
  by_cases hz : C.nr = 0
  · have d : ((C.nr : Int) == 0) = true := by simp [hz]
    go_enter Tryz.func158, Tryz.ntmps158
    go_wp2
    (try simp only [Exit.inBlock, Exit.then])
    refine bodyPost_ret (results_none rfl _ _ _) rfl ?_
    exact ⟨D, rfl, GP.refl hh.out, (InsR.refl D).mono (by omega), hm'.out⟩
  have d : ((C.nr : Int) == 0) = false := by simpa using hz
  have hrs := h.rs
  have hB := s_below C.lo C.gr (C.nr : Int) W.drew (hrs.mv (row := none) ⟨rfl, rfl, rfl, Nat.le_refl _, fun _ _ _ => rfl⟩ (by simp) (fun k hk => by cases hk)) (by omega)
  have hgd := Hd.mk (h.mv (W' := W.drew) (Below.refl _ _).drew)
  clear h hm r1 hrs
  go_enter Tryz.func158, Tryz.ntmps158
  go_wp2
  go_still_tail 9, (by kernel_rfl)
  change wpList _ _ _ _ _ W.drew
  go_wp2_with fail
  refine hB.mono ?_; rintro e w1 ⟨v, rfl, ⟨q, rfl, q1, q2⟩, hr1, hg1⟩
  obtain ⟨kk, rfl⟩ : ∃ kk : Nat, q = kk := ⟨q.toNat, by omega⟩
  have hkn : kk < C.nr := by omega
  have hg := Hd.mk (hgd.out.trans (hgd.out.gs.rd hg1 hr1))
  have hal := Hd.mk fun (o : Obj) => (Below.refl w1.heap.size w1).al (Nat.le_refl _) o
  have h2 := hg.out.exg (w3 := w1.alloc (.cells #[] 2)) (Fr.of _ (hal.out _)) (Fr.of _ (hal.out _)) (fun b => D.ex b ∨ b = w1.heap.size) (by rintro b (e | rfl); exact .inl e; exact .inr ⟨Nat.le_refl _, by simp⟩)
  have h2' := Hd.mk h2
  have hz01 : W.heap.size ≤ w1.heap.size := hg.out.fr.size
  have hkp : kk < C.pars.length := by have := hh.out.nA; omega
  have hkp' := Hd.mk hkp
  have hwA := hh.out.wA (C.pars[kk]) (List.getElem_mem hkp)
  obtain ⟨L, hL⟩ : ∃ L, L = (C.pars[kk]).length := ⟨_, rfl⟩
  have hL' := Hd.mk hL
  have hL4 : L ≤ 4 := by rw [hL]; exact hwA.1
  have hwA' := Hd.mk hwA.2
  clear hr1 hg1 hB hgd h2 hL hwA k0 k13 k14
  go_wp2
  go_loopw [3, 4] (fun s3 s4 wr => ∃ (i : Nat) (Di : GD) (al : List Int) (v3 : Value), v3 = s3 ∧ i ≤ L ∧ s4 = .int .i64 i ∧ Hd (wr.ownsRow W.heap.size 2 1 s3 al.length (al.map (.int .i64))) ∧ Hd (∀ b, s3.ownBlock = some b → Di.ex b) ∧ Hd (GP C D Di W wr) ∧ Hd (InsR i D {Di with ex := D.ex}) ∧ Hd (Nm Di) ∧ Hd (∀ b, D.ex b → Di.ex b) ∧ al.length ≤ i) (fun _ s4 _ => L - (intOf s4).toNat)
  case atStart => exact ⟨0, {D with ex := fun b => D.ex b ∨ b = w1.heap.size}, [], _, rfl, Nat.zero_le _, rfl, ⟨own_empty _ _ _ _ _ rfl hz01⟩, ⟨fun b hb => Or.inr (by injection hb with hb; exact hb.symm)⟩, h2', ⟨InsR.refl D⟩, hm', ⟨fun b e => Or.inl e⟩, Nat.zero_le _⟩
  case round =>
    obtain ⟨i, Di, al, v3, rfl, hi, rfl, ho, hox, hgp, hin, hnm, hxx, hal4⟩ := hrel
    have j0 := hgp.out.gs.at 0
    have j13 := hgp.out.gs.at 13
    have j14 := hgp.out.gs.at 14
    simp [GD.cells] at j0 j13 j14
    have hA := hgp.out.gs.eA.out
    obtain ⟨Ap, cp, hvp, hcp1, hcp2, hA0⟩ := hA.sm
    have hA1 : Rd lm 1 KL wr (.slice Ap C.pars.length cp) C.pars := by rw [← hvp]; exact hA0.out
    rw [hvp] at j14
    obtain ⟨pb, po, pcs, hpA, hpl, ⟨vp, rfl, hrv⟩, hpat⟩ := hA1.in0 (Below.refl _ _) kk hkp'.out
    cases hpA
    have p0 := hpat 0 _ rfl
    simp at p0
    clear hpat
    obtain ⟨Av, cv, rfl, -, -, hv0⟩ := hrv.sm
    rw [← hL'.out] at p0
    have hlen : C.pars.length = C.nr := hh.out.nA
    rw [hlen] at j14
    have ik0 : (0 : Int) ≤ (kk : Int) := by omega
    have ik1 : (kk : Int) < (C.nr : Int) := by omega
    by_cases hlt2 : i < L
    · obtain ⟨b, off, cs, hA2, hbl, hk1, hat⟩ := hv0.out.in0 (Below.refl _ _) i (by have := hL'.out; omega)
      cases hA2
      cases hk1
      have g0 := hat 0 _ rfl
      simp at g0
      clear hat
      have hwd := hwA'.out _ (List.getElem_mem (l := C.pars[kk]) (n := i) (by have := hL'.out; omega))
      generalize (C.pars[kk])[i]'_ = wd at *
      have hz1 : (i : Int) < (L : Int) := by omega
      have hz0 : (0 : Int) ≤ (i : Int) := by omega
      have hnx := hin.out.next
      have hpk := s_pick C Di wd wr hgp.out.gs hnm.out (by have : Di.next ≤ D.next + i := hnx.2; omega) hwd
      go_wp2_with fail
      refine hpk.mono ?_; rintro e w2 ⟨x, Dj, rfl, hgj, hij, hnj⟩
      have hjx := hij.ex
      have hgj2 := hgp.out.trans hgj
      have hne : ∀ b, v3.ownBlock = some b → ¬ GK C Di b := by
        intro b hb hk
        have hx := hgp.out.gs.hex b (hox.out b hb)
        have hg9 := hgp.out.gs.hgr
        rcases hk with e | e | e | e | e | e
        · omega
        · exact hx.2.2.1 e
        · exact hx.2.2.2.1 e
        · exact hx.2.2.2.2.1 e
        · exact hx.2.2.2.2.2.1 e
        · exact hx.2.2.2.2.2.2 e
      have ho2 := Hd.mk (own_fr ho.out hgj.fk hne)
      have hal2 := Hd.mk fun (o : Obj) => (Below.refl w2.heap.size w2).al (Nat.le_refl _) o
      have hgX := Hd.mk (hgj2.trans (hgj2.gs.mv (hal2.out (.cells #[.int .i64 x] 2))))
      have hij2 := Hd.mk (hin.out.trans (hij.exs D.ex))
      have hnj' := Hd.mk hnj
      have hjx' := Hd.mk hjx
      have hz02 : W.heap.size ≤ w2.heap.size := hgj2.fr.size
      clear hgj hij hnj hgj2 hpk hne hjx
      go_wp2_with (at_builtin; refine appI_at rfl _ _ rfl W.heap.size _ al [x] rfl (own_mv ho2.out (hal2.out _)) _ 1 1 rfl (rd_one _ _) (by omega) (by simp; omega) ?_)
      intro v' w' ho' hg' hn'
      have he' : ∀ b, (Dj.ex b ∨ v'.ownBlock = some b) → Dj.ex b ∨ ((w2.alloc (.cells #[.int .i64 x] 2)).heap.size ≤ b ∧ b < w'.heap.size) := by
        rintro b (e | e)
        · exact .inl e
        · rcases hn' with hn' | hn'
          · exact .inl (by rw [hjx'.out]; exact hox.out b (by rw [← hn']; exact e))
          · have hlt3 := (own_blk ho' b e).1
            rw [hn'] at e
            injection e with e
            exact .inr ⟨by first | omega | (simp; omega), hlt3⟩
      have hG := hgX.out.exg ((Fr.gb hg').sub fun q e => by rw [hjx'.out]; exact hox.out q e) ((Fr.gb hg').sub fun q e => own_block_ge ho2.out q e) (fun b => Dj.ex b ∨ v'.ownBlock = some b) he'
      have hG' := Hd.mk hG
      have ho3 : Hd (w'.ownsRow W.heap.size 2 1 v' (al ++ [x]).length ((al ++ [x]).map (.int .i64))) := ⟨by simpa using ho'⟩
      clear ho' hg' hn' he' hG
      go_wp2
      go_roundw
      case rel => exact ⟨i + 1, {Dj with ex := fun b => Dj.ex b ∨ v'.ownBlock = some b}, al ++ [x], v', rfl, by omega, by go_num, ⟨by simpa using ho3.out⟩, ⟨fun b hb => Or.inr hb⟩, hG', ⟨hij2.out.mono (by omega)⟩, hnj', ⟨fun b e => Or.inl (by rw [hjx'.out]; exact hxx.out b e)⟩, by simp; omega⟩
      case measure => simp [intOf]; omega
    · obtain ⟨Ar, cr, rs2, er, lr, rr⟩ := bx_ri hgp.out.gs.eR
      rw [er] at j13
      obtain ⟨b, off, cs, hA2, hbl, hk1, hat⟩ := (rr wr (Below.refl _ _)).in0 (Below.refl _ _) kk (by omega)
      cases hA2
      cases hk1
      have g0 := hat 0 _ rfl
      simp at g0
      clear hat rr
      generalize rs2[kk]'_ = y at *
      obtain ⟨A5, c5, rfl, -, -, -, -⟩ := own_shape ho.out
      have hlt2' : ¬ (i : Int) < (L : Int) := by omega
      have hnx := hin.out.next
      have hgf := hgp.out.exg (Fr.refl _ wr) (Fr.refl _ wr) D.ex (fun b e => .inl (hxx.out b e))
      have hq : Bx (GE C {Di with ex := D.ex}) (QInst (instC ⟨26, y, 0, 0, 0, kk, al⟩ (.slice A5 al.length c5))) wr := by
        intro w' hF
        refine ⟨⟨26, y, 0, 0, 0, kk, al⟩, trivial, _, rfl, (OwI.of (own_fr ho.out hF fun b hb hk => ?_)).rd (by show _ ≤ 1048576; omega)⟩
        have hx := hgp.out.gs.hex b (hox.out b hb)
        have hg9 := hgp.out.gs.hgr
        have hg8 := own_block_ge ho.out b hb
        rcases hk with e | e | e | e | e | e | e
        · have := hx.1; omega
        · exact hx.2.2.1 e
        · exact hx.2.2.2.1 e
        · exact hx.2.2.2.2.1 e
        · exact hx.2.2.2.2.2.1 e
        · exact hx.2.2.2.2.2.2 e
        · have := (hh.out.hex b e).2.1; omega
      have hpt := s_put C {Di with ex := D.ex} ⟨26, y, 0, 0, 0, kk, al⟩ A5 al.length c5 wr hgf.gs (hnm.out.exs D.ex) (by have := hnx.2; show Di.next + 1 ≤ 900; have h9 : Di.next ≤ D.next + i := hnx.2; omega) hq (no24 (show (26 : Int) ≠ 24 by decide) (show (26 : Int) ≠ 25 by decide))
      have hgf' := Hd.mk hgf
      clear hgf hq
      go_wp2_with fail
      refine hpt.mono ?_; rintro e w2 ⟨q, D', rfl, hgp2, hin2, hnm2⟩
      have hgp' := Hd.mk (hgf'.out.trans hgp2)
      have hin' := Hd.mk ((hin.out.trans hin2).mono (show (i : Int) + 1 ≤ 5 by omega))
      have hnm' := Hd.mk hnm2
      clear hgp2 hin2 hnm2 hpt
      go_wp2
      go_end0
      exact ⟨D', rfl, hgp'.out, hin'.out, hnm'.out⟩
theorem no24n {x w : Int} (h : x < 24) : (x = 24 ∨ x = 25) → w = 0 := no24 (by omega) (by omega)
set_option maxRecDepth 20000 in
set_option maxHeartbeats 20000000 in
theorem s_some (C : GC) (D : GD) (n : Int) (W : World) (h : GS C D W) (hm : Nm D) (hn : D.next ≤ 800) (h0 : 0 ≤ n ∧ n ≤ 5) : Calls Tryz.prog 114 #[.pointer (some ⟨C.gg, 0, none⟩), .int .i64 n] W (RetG0 (5 * n) C D W) := by
  obtain ⟨hn1, hn2⟩ := h0
  have hd0 := h.n0
  have hgs := Hd.mk (GP.refl h)
  have hm' := Hd.mk hm
  clear h hm
  go_enter Tryz.func114, Tryz.ntmps114
  go_wp2
  go_loopw [4] (fun s4 wr => ∃ (i : Nat) (Di : GD), (i : Int) ≤ n ∧ s4 = .int .i64 i ∧ Hd (GP C D Di W wr) ∧ Hd (InsR (5 * i) D Di) ∧ Hd (Nm Di)) (fun s4 _ => (n - intOf s4).toNat)
  case atStart => exact ⟨0, D, by omega, rfl, hgs, ⟨(InsR.refl D).mono (by omega)⟩, hm'⟩
  case round =>
    obtain ⟨i, D1, hi, rfl, g1, i1, m1⟩ := hrel
    clear hgs hm'
    obtain ⟨w1, rfl⟩ : ∃ w1 : World, w1 = wr := ⟨_, rfl⟩
    have j10 := g1.out.gs.at 10
    simp [GD.cells] at j10
    by_cases hlt : (i : Int) < n
    case neg =>
      go_wp2
      go_end0
      exact ⟨D1, rfl, g1.out, i1.out.mono (by omega), m1.out⟩
    by_cases h40 : D1.next < 40
    case neg =>
      go_wp2
      go_end0
      exact ⟨D1, rfl, g1.out, i1.out.mono (by omega), m1.out⟩
    have j0 := g1.out.gs.at 0
    simp [GD.cells] at j0
    have hp := s_width C.lo C.gr w1 g1.out.gs.rs
    go_wp2_with fail
    refine hp.mono ?_; rintro e w2 ⟨v, rfl, ⟨wd, rfl, hwd⟩, hr, hg⟩
    have g2 := Hd.mk (g1.out.trans (g1.out.gs.rd hg hr))
    clear hr hg hp j0
    have j0 := g2.out.gs.at 0
    simp [GD.cells] at j0
    have hp := s_below C.lo C.gr 14 w2 g2.out.gs.rs (by omega)
    go_wp2_with fail
    refine hp.mono ?_; rintro e w3 ⟨v, rfl, ⟨q, rfl, q1, q2⟩, hr, hg⟩
    have g3 := Hd.mk (g2.out.trans (g2.out.gs.rd hg hr))
    clear hr hg hp j0
    clear j10 h40
    have hwd' := Hd.mk hwd
    clear hwd
    have hq : q = 0 ∨ q = 1 ∨ q = 2 ∨ q = 3 ∨ q = 4 ∨ q = 5 ∨ q = 6 ∨ q = 7 ∨ q = 8 ∨ 9 ≤ q := by omega
    rcases hq with rfl | rfl | rfl | rfl | rfl | rfl | rfl | rfl | rfl | hq
    · have j0 := g3.out.gs.at 0
      simp [GD.cells] at j0
      have hp := s_value C.lo C.gr wd w3 g3.out.gs.rs hwd'.out
      go_wp2_with fail
      refine hp.mono ?_; rintro e w4 ⟨v, rfl, ⟨x, rfl⟩, hr, hg⟩
      have g4 := Hd.mk (g3.out.trans (g3.out.gs.rd hg hr))
      clear hr hg hp j0
      have hp := s_put C D1 ⟨21, wd, 0, 0, 0, x, []⟩ none 0 0 w4 g4.out.gs m1.out (by have h9 := i1.out.next; omega) (kinst_nil _ _ _ _ _ _ _ _) (no24n (by show (21 : Int) < 24; omega))
      go_wp2_with fail
      refine hp.mono ?_; rintro e w5 ⟨y, D2, rfl, hg, hi, hn'⟩
      have g5 := Hd.mk (g4.out.trans hg)
      have i2 := Hd.mk (i1.out.trans hi)
      have m2 := Hd.mk hn'
      clear hg hi hn' hp
      go_wp2
      go_roundw
      case rel => exact ⟨i + 1, D2, by omega, by go_num, g5, ⟨i2.out.mono (by omega)⟩, m2⟩
      case measure => simp [intOf]; omega
    · have hp := s_pick C D1 1 w3 g3.out.gs m1.out (by have h9 := i1.out.next; omega) (.inl rfl)
      go_wp2_with fail
      refine hp.mono ?_; rintro e w4 ⟨xa, D2, rfl, hg, hi, hn'⟩
      have g4 := Hd.mk (g3.out.trans hg)
      have i2 := Hd.mk (i1.out.trans hi)
      have m2 := Hd.mk hn'
      clear hg hi hn' hp
      have hp := s_pick C D2 wd w4 g4.out.gs m2.out (by have h9 := i2.out.next; omega) hwd'.out
      go_wp2_with fail
      refine hp.mono ?_; rintro e w5 ⟨xb, D3, rfl, hg, hi, hn'⟩
      have g5 := Hd.mk (g4.out.trans hg)
      have i3 := Hd.mk (i2.out.trans hi)
      have m3 := Hd.mk hn'
      clear hg hi hn' hp
      have hp := s_pick C D3 wd w5 g5.out.gs m3.out (by have h9 := i3.out.next; omega) hwd'.out
      go_wp2_with fail
      refine hp.mono ?_; rintro e w6 ⟨xc, D4, rfl, hg, hi, hn'⟩
      have g6 := Hd.mk (g5.out.trans hg)
      have i4 := Hd.mk (i3.out.trans hi)
      have m4 := Hd.mk hn'
      clear hg hi hn' hp
      have hp := s_put C D4 ⟨22, wd, xa, xb, xc, 0, []⟩ none 0 0 w6 g6.out.gs m4.out (by have h9 := i4.out.next; omega) (kinst_nil _ _ _ _ _ _ _ _) (no24n (by show (22 : Int) < 24; omega))
      go_wp2_with fail
      refine hp.mono ?_; rintro e w7 ⟨y, D5, rfl, hg, hi, hn'⟩
      have g7 := Hd.mk (g6.out.trans hg)
      have i5 := Hd.mk (i4.out.trans hi)
      have m5 := Hd.mk hn'
      clear hg hi hn' hp
      go_wp2
      go_roundw
      case rel => exact ⟨i + 1, D5, by omega, by go_num, g7, ⟨i5.out.mono (by omega)⟩, m5⟩
      case measure => simp [intOf]; omega
    · have hp := s_pick C D1 8 w3 g3.out.gs m1.out (by have h9 := i1.out.next; omega) (.inr (.inl rfl))
      go_wp2_with fail
      refine hp.mono ?_; rintro e w4 ⟨xa, D2, rfl, hg, hi, hn'⟩
      have g4 := Hd.mk (g3.out.trans hg)
      have i2 := Hd.mk (i1.out.trans hi)
      have m2 := Hd.mk hn'
      clear hg hi hn' hp
      have hgr := g4.out.gs.rs.lt
      go_wp2
      refine wp_region_hos (fun w => Hd (GP C D2 D2 w4 w)) (RStep w4.heap.size) [.k (.pointer (some ⟨C.gg, 0, none⟩)), .n (fun v => ∃ b : Nat, v = .slice (some ⟨b, 0, none⟩) 2 2) (fun w v => ∃ b : Nat, v = .slice (some ⟨b, 0, none⟩) 2 2 ∧ InB w4.heap.size w b #[.int .i64 18, .int .i64 19] 2), .k (.pointer (some ⟨C.gg, 0, none⟩)), .k (.pointer (some ⟨C.gg, 0, none⟩)), .k (.pointer (some ⟨C.gg, 0, none⟩)), .k (.pointer (some ⟨C.gr, 0, none⟩)), .n (fun v => ∃ q : Nat, v = .int .i64 q ∧ q < 2) (fun _ _ => True), .n (fun v => ∃ (b q : Nat), v = .pointer (some ⟨b, q, none⟩)) (fun w v => ∃ (b q : Nat), v = .pointer (some ⟨b, q, none⟩) ∧ q < 2 ∧ InB w4.heap.size w b #[.int .i64 18, .int .i64 19] 2), .n (fun v => ∃ x : Int, v = .int .i64 x ∧ x < 24) (fun _ _ => True), .n (fun v => ∃ b : Nat, v = .slice (some ⟨b, 0, none⟩) 2 2) (fun w v => ∃ b : Nat, v = .slice (some ⟨b, 0, none⟩) 2 2 ∧ InB w4.heap.size w b #[.int .i64 16, .int .i64 32] 2), .k (.pointer (some ⟨C.gg, 0, none⟩)), .k (.pointer (some ⟨C.gg, 0, none⟩)), .k (.pointer (some ⟨C.gg, 0, none⟩)), .k (.pointer (some ⟨C.gr, 0, none⟩)), .n (fun v => ∃ q : Nat, v = .int .i64 q ∧ q < 2) (fun _ _ => True), .n (fun v => ∃ (b q : Nat), v = .pointer (some ⟨b, q, none⟩)) (fun w v => ∃ (b q : Nat), v = .pointer (some ⟨b, q, none⟩) ∧ q < 2 ∧ InB w4.heap.size w b #[.int .i64 16, .int .i64 32] 2), .n (fun v => ∃ x : Int, v = .int .i64 x ∧ x < 37) (fun _ _ => True), .k (.int .i64 xa), .n (fun v => ∃ x y : Int, v = .agg #[.int .i64 x, .int .i64 y, .int .i64 xa, .int .i64 0, .int .i64 0, .int .i64 0, .slice none 0 0] ∧ x < 24) (fun _ _ => True)] (by kernel_rfl) (by kernel_rfl) (by kernel_rfl) ⟨g4.out.gs.mv (by repeat (first | exact Below.refl _ _ | assumption | refine Below.drew ?_ | refine Below.al ?_ (by first | exact Nat.le_refl _ | assumption | omega | (simp; done) | (simp; omega)) _))⟩ (RStep.refl _) ?hex ?hst ?hrun
      case hex =>
        simp only [ExS, Sp.pure]
        repeat' first | exact trivial | refine And.intro ?_ ?_ | exact ⟨_, rfl⟩ | exact ⟨_, 0, rfl⟩ | exact ⟨_, 0, 0, rfl⟩ | exact ⟨_, 0, rfl, by decide⟩ | exact ⟨_, 0, 0, rfl, by decide⟩
      case hst =>
        simp only [StS, Sp.inW]
        repeat' first | exact trivial | refine And.intro ?_ ?_ | (intro w w' v hS hR hi; first | exact trivial | (obtain ⟨b, rfl, h1⟩ := hi; exact ⟨b, rfl, h1.mv hR⟩) | (obtain ⟨b, q, rfl, h0, h1⟩ := hi; exact ⟨b, q, rfl, h0, h1.mv hR⟩))
      simp only [List.toList_toArray]
      refine hos_k (fun w hS hk => ?_) ?_
      · have j0 := hS.out.gs.at 0
        simp [GD.cells] at j0
        clear hk
        go_simp
        first | done | rfl
      simp only [Act.put, List.setIfInBounds_toArray, List.set_cons_zero, List.set_cons_succ]
      refine hos_n (fun w hS hk => ?_) ?_
      · refine opH_val (.slice (some ⟨w.heap.size, 0, none⟩) 2 2) (w.alloc (.cells #[.int .i64 18, .int .i64 19] 2)) ?_ ?_
        · clear hk
          go_simp
          first | done | rfl
        · exact ⟨⟨_, rfl⟩, ⟨_, rfl, hS.out.fr.size, heap_new _ _ _ _ rfl⟩, ⟨hS.out.trans (hS.out.gs.mv (by repeat (first | exact Below.refl _ _ | assumption | refine Below.drew ?_ | refine Below.al ?_ (by first | exact Nat.le_refl _ | assumption | omega | (simp; done) | (simp; omega)) _)))⟩, .of (by repeat (first | exact Below.refl _ _ | assumption | refine Below.drew ?_ | refine Below.al ?_ (by first | exact Nat.le_refl _ | assumption | omega | (simp; done) | (simp; omega)) _))⟩
      rintro _ ⟨b0, rfl⟩
      simp only [Act.put, List.setIfInBounds_toArray, List.set_cons_zero, List.set_cons_succ]
      refine hos_k (fun w hS hk => ?_) ?_
      · have j0 := hS.out.gs.at 0
        simp [GD.cells] at j0
        clear hk
        go_simp
        first | done | rfl
      simp only [Act.put, List.setIfInBounds_toArray, List.set_cons_zero, List.set_cons_succ]
      refine hos_k (fun w hS hk => ?_) ?_
      · have j0 := hS.out.gs.at 0
        simp [GD.cells] at j0
        clear hk
        go_simp
        first | done | rfl
      simp only [Act.put, List.setIfInBounds_toArray, List.set_cons_zero, List.set_cons_succ]
      refine hos_k (fun w hS hk => ?_) ?_
      · have j0 := hS.out.gs.at 0
        simp [GD.cells] at j0
        clear hk
        go_simp
        first | done | rfl
      simp only [Act.put, List.setIfInBounds_toArray, List.set_cons_zero, List.set_cons_succ]
      refine hos_k (fun w hS hk => ?_) ?_
      · have j0 := hS.out.gs.at 0
        simp [GD.cells] at j0
        clear hk
        go_simp
        first | done | rfl
      simp only [Act.put, List.setIfInBounds_toArray, List.set_cons_zero, List.set_cons_succ]
      refine hos_n (fun w hS hk => ?_) ?_
      · refine opH_call 52 #[.pointer (some ⟨C.gr, 0, none⟩), .int .i64 2] ?_ ?_
        · clear hk
          go_simp
          first | done | rfl
        · refine (s_below C.lo C.gr 2 w hS.out.gs.rs (by omega)).mono ?_
          rintro e w' ⟨v, rfl, ⟨q, rfl, q1, q2⟩, hr, hg⟩
          obtain ⟨q', rfl⟩ : ∃ q' : Nat, q = q' := ⟨q.toNat, by omega⟩
          exact ⟨_, rfl, ⟨q', rfl, by omega⟩, trivial, ⟨hS.out.trans (hS.out.gs.rd hg hr)⟩, hg.size, fun b h1 h2 => hg.block b h2 (by simp; omega)⟩
      rintro _ ⟨q0, rfl, hq0⟩
      simp only [Act.put, List.setIfInBounds_toArray, List.set_cons_zero, List.set_cons_succ]
      refine hos_n (fun w hS hk => ?_) ?_
      · obtain ⟨hk1, -⟩ := hk
        obtain ⟨b, e, hin⟩ := hk1 (by kernel_rfl)
        cases e
        refine opH_val (.pointer (some ⟨b0, q0, none⟩)) w ?_ ?_
        · clear hk1
          go_simp
          first | done | (intro h; omega)
        · exact ⟨⟨_, _, rfl⟩, ⟨_, _, rfl, hq0, hin⟩, hS, .refl _ _⟩
      rintro _ ⟨b1, q1, rfl⟩
      simp only [Act.put, List.setIfInBounds_toArray, List.set_cons_zero, List.set_cons_succ]
      refine hos_n (fun w hS hk => ?_) ?_
      · obtain ⟨-, -, hk1, -⟩ := hk
        obtain ⟨b, q, e, hq, hin⟩ := hk1 (by kernel_rfl)
        cases e
        have hc := (row_facts hin.2).1 q1
        have hq' : q1 = 0 ∨ q1 = 1 := by omega
        clear hk1
        rcases hq' with rfl | rfl
        · simp at hc
          refine opH_val (.int .i64 18) w ?_ ⟨⟨_, rfl, by decide⟩, trivial, hS, .refl _ _⟩
          go_simp
          first | done | rfl
        · simp at hc
          refine opH_val (.int .i64 19) w ?_ ⟨⟨_, rfl, by decide⟩, trivial, hS, .refl _ _⟩
          go_simp
          first | done | rfl
      rintro _ ⟨x0, rfl, hx0⟩
      simp only [Act.put, List.setIfInBounds_toArray, List.set_cons_zero, List.set_cons_succ]
      refine hos_n (fun w hS hk => ?_) ?_
      · refine opH_val (.slice (some ⟨w.heap.size, 0, none⟩) 2 2) (w.alloc (.cells #[.int .i64 16, .int .i64 32] 2)) ?_ ?_
        · clear hk
          go_simp
          first | done | rfl
        · exact ⟨⟨_, rfl⟩, ⟨_, rfl, hS.out.fr.size, heap_new _ _ _ _ rfl⟩, ⟨hS.out.trans (hS.out.gs.mv (by repeat (first | exact Below.refl _ _ | assumption | refine Below.drew ?_ | refine Below.al ?_ (by first | exact Nat.le_refl _ | assumption | omega | (simp; done) | (simp; omega)) _)))⟩, .of (by repeat (first | exact Below.refl _ _ | assumption | refine Below.drew ?_ | refine Below.al ?_ (by first | exact Nat.le_refl _ | assumption | omega | (simp; done) | (simp; omega)) _))⟩
      rintro _ ⟨b2, rfl⟩
      simp only [Act.put, List.setIfInBounds_toArray, List.set_cons_zero, List.set_cons_succ]
      refine hos_k (fun w hS hk => ?_) ?_
      · have j0 := hS.out.gs.at 0
        simp [GD.cells] at j0
        clear hk
        go_simp
        first | done | rfl
      simp only [Act.put, List.setIfInBounds_toArray, List.set_cons_zero, List.set_cons_succ]
      refine hos_k (fun w hS hk => ?_) ?_
      · have j0 := hS.out.gs.at 0
        simp [GD.cells] at j0
        clear hk
        go_simp
        first | done | rfl
      simp only [Act.put, List.setIfInBounds_toArray, List.set_cons_zero, List.set_cons_succ]
      refine hos_k (fun w hS hk => ?_) ?_
      · have j0 := hS.out.gs.at 0
        simp [GD.cells] at j0
        clear hk
        go_simp
        first | done | rfl
      simp only [Act.put, List.setIfInBounds_toArray, List.set_cons_zero, List.set_cons_succ]
      refine hos_k (fun w hS hk => ?_) ?_
      · have j0 := hS.out.gs.at 0
        simp [GD.cells] at j0
        clear hk
        go_simp
        first | done | rfl
      simp only [Act.put, List.setIfInBounds_toArray, List.set_cons_zero, List.set_cons_succ]
      refine hos_n (fun w hS hk => ?_) ?_
      · refine opH_call 52 #[.pointer (some ⟨C.gr, 0, none⟩), .int .i64 2] ?_ ?_
        · clear hk
          go_simp
          first | done | rfl
        · refine (s_below C.lo C.gr 2 w hS.out.gs.rs (by omega)).mono ?_
          rintro e w' ⟨v, rfl, ⟨q, rfl, q1, q2⟩, hr, hg⟩
          obtain ⟨q', rfl⟩ : ∃ q' : Nat, q = q' := ⟨q.toNat, by omega⟩
          exact ⟨_, rfl, ⟨q', rfl, by omega⟩, trivial, ⟨hS.out.trans (hS.out.gs.rd hg hr)⟩, hg.size, fun b h1 h2 => hg.block b h2 (by simp; omega)⟩
      rintro _ ⟨q2, rfl, hq2⟩
      simp only [Act.put, List.setIfInBounds_toArray, List.set_cons_zero, List.set_cons_succ]
      refine hos_n (fun w hS hk => ?_) ?_
      · obtain ⟨-, -, -, -, hk1, -⟩ := hk
        obtain ⟨b, e, hin⟩ := hk1 (by kernel_rfl)
        cases e
        refine opH_val (.pointer (some ⟨b2, q2, none⟩)) w ?_ ?_
        · clear hk1
          go_simp
          first | done | (intro h; omega)
        · exact ⟨⟨_, _, rfl⟩, ⟨_, _, rfl, hq2, hin⟩, hS, .refl _ _⟩
      rintro _ ⟨b3, q3, rfl⟩
      simp only [Act.put, List.setIfInBounds_toArray, List.set_cons_zero, List.set_cons_succ]
      refine hos_n (fun w hS hk => ?_) ?_
      · obtain ⟨-, -, -, -, -, -, hk1, -⟩ := hk
        obtain ⟨b, q, e, hq, hin⟩ := hk1 (by kernel_rfl)
        cases e
        have hc := (row_facts hin.2).1 q3
        have hq' : q3 = 0 ∨ q3 = 1 := by omega
        clear hk1
        rcases hq' with rfl | rfl
        · simp at hc
          refine opH_val (.int .i64 16) w ?_ ⟨⟨_, rfl, by decide⟩, trivial, hS, .refl _ _⟩
          go_simp
          first | done | rfl
        · simp at hc
          refine opH_val (.int .i64 32) w ?_ ⟨⟨_, rfl, by decide⟩, trivial, hS, .refl _ _⟩
          go_simp
          first | done | rfl
      rintro _ ⟨x2, rfl, hx2⟩
      simp only [Act.put, List.setIfInBounds_toArray, List.set_cons_zero, List.set_cons_succ]
      refine hos_k (fun w hS hk => ?_) ?_
      · have j0 := hS.out.gs.at 0
        simp [GD.cells] at j0
        clear hk
        go_simp
        first | done | rfl
      simp only [Act.put, List.setIfInBounds_toArray, List.set_cons_zero, List.set_cons_succ]
      refine hos_n (fun w hS hk => ?_) ?_
      · refine opH_val (.agg #[.int .i64 x0, .int .i64 x2, .int .i64 xa, .int .i64 0, .int .i64 0, .int .i64 0, .slice none 0 0]) w ?_ ⟨⟨x0, x2, rfl, hx0⟩, trivial, hS, .refl _ _⟩
        clear hk
        go_simp
        first | done | rfl
      rintro _ ⟨x5, x6, rfl, hx5⟩
      simp only [Act.put, List.setIfInBounds_toArray, List.set_cons_zero, List.set_cons_succ]
      refine hos_end (fun w5 h5 _ => ?_)
      have g5 := Hd.mk (g4.out.trans h5.out)
      clear h5 hgr hx0 hx2 hq0 hq2
      refine tail_call rfl 156 #[.pointer (some ⟨C.gg, 0, none⟩), .agg #[.int .i64 x5, .int .i64 x6, .int .i64 xa, .int .i64 0, .int .i64 0, .int .i64 0, .slice none 0 0]] (by go_simp; first | done | rfl) ?_
      have hp := s_put C D2 ⟨x5, x6, xa, 0, 0, 0, []⟩ none 0 0 w5 g5.out.gs m2.out (by have h9 := i2.out.next; omega) (kinst_nil _ _ _ _ _ _ _ _) (no24n hx5)
      refine hp.mono ?_; rintro e w6 ⟨y2, D3, rfl, hg, hi, hn'⟩
      refine ⟨_, rfl, ?_⟩
      simp only [Act.put, List.setIfInBounds_toArray, List.set_cons_zero, List.set_cons_succ]
      have g6 := Hd.mk (g5.out.trans hg)
      have i3 := Hd.mk (i2.out.trans hi)
      have m3 := Hd.mk hn'
      clear hg hi hn' hp
      go_wp2
      go_roundw
      case rel => exact ⟨i + 1, D3, by omega, by go_num, g6, ⟨i3.out.mono (by omega)⟩, m3⟩
      case measure => simp [intOf]; omega
    · have hp := s_pick C D1 32 w3 g3.out.gs m1.out (by have h9 := i1.out.next; omega) (.inr (.inr (.inr rfl)))
      go_wp2_with fail
      refine hp.mono ?_; rintro e w4 ⟨xa, D2, rfl, hg, hi, hn'⟩
      have g4 := Hd.mk (g3.out.trans hg)
      have i2 := Hd.mk (i1.out.trans hi)
      have m2 := Hd.mk hn'
      clear hg hi hn' hp
      have hal := Hd.mk fun (ob : Obj) => (Below.refl w4.heap.size w4).al (Nat.le_refl _) ob
      have hz3 : w4.heap.size < (w4.alloc (.cells #[.int .i64 1, .int .i64 8, .int .i64 16] 2)).heap.size := by simp
      have hg3 := Hd.mk (g4.out.trans (g4.out.gs.mv (hal.out (.cells #[.int .i64 1, .int .i64 8, .int .i64 16] 2))))
      have j0 := g4.out.gs.at 0
      simp [GD.cells] at j0
      have hgl := g4.out.gs.lt
      have hp := s_below C.lo C.gr 3 _ hg3.out.gs.rs (by omega)
      go_wp2_with fail
      refine hp.mono ?_; rintro e w5 ⟨v, rfl, ⟨q, rfl, p1, p2⟩, hr, hg⟩
      have hne : C.gr ≠ w4.heap.size := by have := g4.out.gs.rs.lt; omega
      have hcc := fun o => (World.cell?_of_block (a := ⟨w4.heap.size, o, none⟩) (hg.block _ hz3 (by simp; omega))).trans ((row_facts (heap_new w4 #[.int .i64 1, .int .i64 8, .int .i64 16] 2 _ rfl)).1 o)
      have c0 := hcc 0
      have c1 := hcc 1
      have c2 := hcc 2
      simp at c0 c1 c2
      have g5 := Hd.mk (hg3.out.trans (hg3.out.gs.rd hg hr))
      clear hr hg hp j0 hcc hg3 hal hz3 hne
      have hq3 : ∃ wq, w5.cell? ⟨w4.heap.size, q.toNat, none⟩ = some (.int .i64 wq) := by
        have : q = 0 ∨ q = 1 ∨ q = 2 := by omega
        rcases this with rfl | rfl | rfl
        · exact ⟨_, c0⟩
        · exact ⟨_, c1⟩
        · exact ⟨_, c2⟩
      obtain ⟨wq, hq3⟩ := hq3
      obtain ⟨jq, rfl⟩ : ∃ jq : Nat, q = jq := ⟨q.toNat, by omega⟩
      simp at hq3
      clear c0 c1 c2
      have hp := s_put C D2 ⟨20, wq, xa, 0, 0, 0, []⟩ none 0 0 w5 g5.out.gs m2.out (by have h9 := i2.out.next; omega) (kinst_nil _ _ _ _ _ _ _ _) (no24n (by show (20 : Int) < 24; omega))
      go_wp2_with fail
      refine hp.mono ?_; rintro e w6 ⟨y, D3, rfl, hg, hi, hn'⟩
      have g6 := Hd.mk (g5.out.trans hg)
      have i3 := Hd.mk (i2.out.trans hi)
      have m3 := Hd.mk hn'
      clear hg hi hn' hp
      go_wp2
      go_roundw
      case rel => exact ⟨i + 1, D3, by omega, by go_num, g6, ⟨i3.out.mono (by omega)⟩, m3⟩
      case measure => simp [intOf]; omega
    · have j0 := g3.out.gs.at 0
      simp [GD.cells] at j0
      have hp := s_below C.lo C.gr 34 w3 g3.out.gs.rs (by omega)
      go_wp2_with fail
      refine hp.mono ?_; rintro e w4 ⟨v, rfl, ⟨p, rfl, p1, p2⟩, hr, hg⟩
      have g4 := Hd.mk (g3.out.trans (g3.out.gs.rd hg hr))
      clear hr hg hp j0
      have hp := s_put C D1 ⟨21, 32, 0, 0, 0, p, []⟩ none 0 0 w4 g4.out.gs m1.out (by have h9 := i1.out.next; omega) (kinst_nil _ _ _ _ _ _ _ _) (no24n (by show (21 : Int) < 24; omega))
      go_wp2_with fail
      refine hp.mono ?_; rintro e w5 ⟨y, D2, rfl, hg, hi, hn'⟩
      have g5 := Hd.mk (g4.out.trans hg)
      have i2 := Hd.mk (i1.out.trans hi)
      have m2 := Hd.mk hn'
      clear hg hi hn' hp
      have hp := s_put C D2 ⟨23, 8, y, 0, 0, 0, []⟩ none 0 0 w5 g5.out.gs m2.out (by have h9 := i2.out.next; omega) (kinst_nil _ _ _ _ _ _ _ _) (no24n (by show (23 : Int) < 24; omega))
      go_wp2_with fail
      refine hp.mono ?_; rintro e w6 ⟨y2, D3, rfl, hg, hi, hn'⟩
      have g6 := Hd.mk (g5.out.trans hg)
      have i3 := Hd.mk (i2.out.trans hi)
      have m3 := Hd.mk hn'
      clear hg hi hn' hp
      go_wp2
      go_roundw
      case rel => exact ⟨i + 1, D3, by omega, by go_num, g6, ⟨i3.out.mono (by omega)⟩, m3⟩
      case measure => simp [intOf]; omega
    · have j0 := g3.out.gs.at 0
      simp [GD.cells] at j0
      have hp := s_below C.lo C.gr 33 w3 g3.out.gs.rs (by omega)
      go_wp2_with fail
      refine hp.mono ?_; rintro e w4 ⟨v, rfl, ⟨p, rfl, p1, p2⟩, hr, hg⟩
      have g4 := Hd.mk (g3.out.trans (g3.out.gs.rd hg hr))
      clear hr hg hp j0
      have hp := s_put C D1 ⟨21, 32, 0, 0, 0, p, []⟩ none 0 0 w4 g4.out.gs m1.out (by have h9 := i1.out.next; omega) (kinst_nil _ _ _ _ _ _ _ _) (no24n (by show (21 : Int) < 24; omega))
      go_wp2_with fail
      refine hp.mono ?_; rintro e w5 ⟨y, D2, rfl, hg, hi, hn'⟩
      have g5 := Hd.mk (g4.out.trans hg)
      have i2 := Hd.mk (i1.out.trans hi)
      have m2 := Hd.mk hn'
      clear hg hi hn' hp
      have hp := s_pick C D2 8 w5 g5.out.gs m2.out (by have h9 := i2.out.next; omega) (.inr (.inl rfl))
      go_wp2_with fail
      refine hp.mono ?_; rintro e w6 ⟨xb, D3, rfl, hg, hi, hn'⟩
      have g6 := Hd.mk (g5.out.trans hg)
      have i3 := Hd.mk (i2.out.trans hi)
      have m3 := Hd.mk hn'
      clear hg hi hn' hp
      have hp := s_put C D3 ⟨24, 0, y, xb, 0, 0, []⟩ none 0 0 w6 g6.out.gs m3.out (by have h9 := i3.out.next; omega) (kinst_nil _ _ _ _ _ _ _ _) (fun _ => rfl)
      go_wp2_with fail
      refine hp.mono ?_; rintro e w7 ⟨y2, D4, rfl, hg, hi, hn'⟩
      have g7 := Hd.mk (g6.out.trans hg)
      have i4 := Hd.mk (i3.out.trans hi)
      have m4 := Hd.mk hn'
      clear hg hi hn' hp
      go_wp2
      go_roundw
      case rel => exact ⟨i + 1, D4, by omega, by go_num, g7, ⟨i4.out.mono (by omega)⟩, m4⟩
      case measure => simp [intOf]; omega
    · have hp := s_pick C D1 wd w3 g3.out.gs m1.out (by have h9 := i1.out.next; omega) hwd'.out
      go_wp2_with fail
      refine hp.mono ?_; rintro e w4 ⟨xa, D2, rfl, hg, hi, hn'⟩
      have g4 := Hd.mk (g3.out.trans hg)
      have i2 := Hd.mk (i1.out.trans hi)
      have m2 := Hd.mk hn'
      clear hg hi hn' hp
      have hp := s_put C D2 ⟨25, 0, xa, 0, 0, 0, []⟩ none 0 0 w4 g4.out.gs m2.out (by have h9 := i2.out.next; omega) (kinst_nil _ _ _ _ _ _ _ _) (fun _ => rfl)
      go_wp2_with fail
      refine hp.mono ?_; rintro e w5 ⟨y2, D3, rfl, hg, hi, hn'⟩
      have g5 := Hd.mk (g4.out.trans hg)
      have i3 := Hd.mk (i2.out.trans hi)
      have m3 := Hd.mk hn'
      clear hg hi hn' hp
      go_wp2
      go_roundw
      case rel => exact ⟨i + 1, D3, by omega, by go_num, g5, ⟨i3.out.mono (by omega)⟩, m3⟩
      case measure => simp [intOf]; omega
    · have hp := s_pick C D1 wd w3 g3.out.gs m1.out (by have h9 := i1.out.next; omega) hwd'.out
      go_wp2_with fail
      refine hp.mono ?_; rintro e w4 ⟨xa, D2, rfl, hg, hi, hn'⟩
      have g4 := Hd.mk (g3.out.trans hg)
      have i2 := Hd.mk (i1.out.trans hi)
      have m2 := Hd.mk hn'
      clear hg hi hn' hp
      have hp := s_put C D2 ⟨27, wd, xa, 0, 0, 0, []⟩ none 0 0 w4 g4.out.gs m2.out (by have h9 := i2.out.next; omega) (kinst_nil _ _ _ _ _ _ _ _) (no24 (show (27 : Int) ≠ 24 by decide) (show (27 : Int) ≠ 25 by decide))
      go_wp2_with fail
      refine hp.mono ?_; rintro e w5 ⟨y2, D3, rfl, hg, hi, hn'⟩
      have g5 := Hd.mk (g4.out.trans hg)
      have i3 := Hd.mk (i2.out.trans hi)
      have m3 := Hd.mk hn'
      clear hg hi hn' hp
      go_wp2
      go_roundw
      case rel => exact ⟨i + 1, D3, by omega, by go_num, g5, ⟨i3.out.mono (by omega)⟩, m3⟩
      case measure => simp [intOf]; omega
    · have hp := s_call3 C D1 w3 g3.out.gs m1.out (by have h9 := i1.out.next; omega)
      go_wp2_with fail
      refine hp.mono ?_; rintro e w4 ⟨D2, rfl, hg, hi, hn'⟩
      have g4 := Hd.mk (g3.out.trans hg)
      have i2 := Hd.mk (i1.out.trans hi)
      have m2 := Hd.mk hn'
      clear hg hi hn' hp
      go_wp2
      go_roundw
      case rel => exact ⟨i + 1, D2, by omega, by go_num, g4, ⟨i2.out.mono (by omega)⟩, m2⟩
      case measure => simp [intOf]; omega
    · have e0 := beqF (show q ≠ 0 by omega)
      have e1 := beqF (show q ≠ 1 by omega)
      have e2 := beqF (show q ≠ 2 by omega)
      have e3 := beqF (show q ≠ 3 by omega)
      have e4 := beqF (show q ≠ 4 by omega)
      have e5 := beqF (show q ≠ 5 by omega)
      have e6 := beqF (show q ≠ 6 by omega)
      have e7 := beqF (show q ≠ 7 by omega)
      have e8 := beqF (show q ≠ 8 by omega)
      have hp := s_pick C D1 wd w3 g3.out.gs m1.out (by have h9 := i1.out.next; omega) hwd'.out
      go_wp2_with fail
      refine hp.mono ?_; rintro e w4 ⟨xa, D2, rfl, hg, hi, hn'⟩
      have g4 := Hd.mk (g3.out.trans hg)
      have i2 := Hd.mk (i1.out.trans hi)
      have m2 := Hd.mk hn'
      clear hg hi hn' hp
      have hp := s_pick C D2 wd w4 g4.out.gs m2.out (by have h9 := i2.out.next; omega) hwd'.out
      go_wp2_with fail
      refine hp.mono ?_; rintro e w5 ⟨xb, D3, rfl, hg, hi, hn'⟩
      have g5 := Hd.mk (g4.out.trans hg)
      have i3 := Hd.mk (i2.out.trans hi)
      have m3 := Hd.mk hn'
      clear hg hi hn' hp
      have j0 := g5.out.gs.at 0
      simp [GD.cells] at j0
      have hp := s_below C.lo C.gr 17 w5 g5.out.gs.rs (by omega)
      go_wp2_with fail
      refine hp.mono ?_; rintro e w6 ⟨v, rfl, ⟨p, rfl, p1, p2⟩, hr, hg⟩
      have g6 := Hd.mk (g5.out.trans (g5.out.gs.rd hg hr))
      clear hr hg hp j0
      have hp := s_put C D3 ⟨1 + p, wd, xa, xb, 0, 0, []⟩ none 0 0 w6 g6.out.gs m3.out (by have h9 := i3.out.next; omega) (kinst_nil _ _ _ _ _ _ _ _) (no24n (by show 1 + p < 24; omega))
      go_wp2_with fail
      refine hp.mono ?_; rintro e w7 ⟨y2, D4, rfl, hg, hi, hn'⟩
      have g7 := Hd.mk (g6.out.trans hg)
      have i4 := Hd.mk (i3.out.trans hi)
      have m4 := Hd.mk hn'
      clear hg hi hn' hp
      go_wp2
      go_roundw
      case rel => exact ⟨i + 1, D4, by omega, by go_num, g7, ⟨i4.out.mono (by omega)⟩, m4⟩
      case measure => simp [intOf]; omega
end Go.Proofs.YtkcgejbnhpccdaaGreat
