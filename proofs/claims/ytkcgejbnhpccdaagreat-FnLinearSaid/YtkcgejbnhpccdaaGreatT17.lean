import Derived.Test.YtkcgejbnhpccdaaGreatT16
set_option linter.unusedSimpArgs false
set_option linter.unusedVariables false
namespace Go.Proofs.YtkcgejbnhpccdaaGreat
open Go.RowKit
def KInstQ (Q : XInst → Prop) (w : World) (x : XInst) (cs : List Value) : Prop := KInst lm w x cs ∧ Q x
instance {Q : XInst → Prop} : KM (KInstQ Q) := ⟨fun h hb => ⟨KM.mv h.1 hb, h.2⟩⟩
theorem Rd.withQ {w : World} {v : Value} {xs : List XInst} {Q : XInst → Prop} (h : Rd lm 7 (KInst lm) w v xs) (hq : ∀ x ∈ xs, Q x) : Rd lm 7 (KInstQ Q) w v xs := by
  obtain ⟨A, c, h0, h1, h2, h3, h4⟩ := h
  refine ⟨A, c, h0, h1, h2, h3, fun hp => ?_⟩
  obtain ⟨b, off, h5, h6, h7⟩ := h4 hp
  refine ⟨b, off, h5, h6, fun i hi => ?_⟩
  obtain ⟨cs, h8, h9⟩ := h7 i hi
  exact ⟨cs, ⟨h8, hq _ (List.getElem_mem hi)⟩, h9⟩
set_option maxHeartbeats 400000 in
theorem c_IdxInstQ (Q : XInst → Prop) (v : Value) (xs : List XInst) (g : Nat) (lb : Array Value) (p : XInst → Bool) (w : World) (hv : Rd lm 7 (KInstQ Q) w v xs)
    (eg : ∀ args w, (callFunc g args).run Tryz.prog w = .ok (.enter g args) w) (hp : PB Tryz.prog g lb (KInstQ Q) argN p w) :
    Calls Tryz.prog 177 #[v, .func (.func g) #[] lb] w (Ret (.int .i64 (idx p xs)) w) := by
  obtain ⟨A, c, rfl, h1, h2, hv0⟩ := hv.sm
  have hp' := Hd.mk hp
  clear hv hp
  go_enter Tryz.func177, Tryz.ntmps177
  go_wp2
  go_loopw [5, 8] (fun _ s8 wr => ∃ k : Nat, k ≤ xs.length ∧ s8 = .int .i64 k ∧ Hd (Below w.heap.size w wr) ∧ Hd (∀ j (h : j < xs.length), j < k → p xs[j] = false)) (fun _ s8 _ => xs.length - (intOf s8).toNat)
  case atStart => exact ⟨0, Nat.zero_le _, rfl, ⟨Below.refl _ w⟩, ⟨fun j _ h => absurd h (Nat.not_lt_zero _)⟩⟩
  case round =>
    obtain ⟨k, hk, rfl, hb, hn⟩ := hrel
    by_cases hlt : k < xs.length
    · obtain ⟨b, off, cs, hA, hbl, hkk, hat⟩ := hv0.out.in_ hb.out k hlt
      cases hA
      obtain ⟨⟨v1, rfl, hr⟩, hQ⟩ := hkk
      have g0 := hat 0 _ rfl
      have g1 := hat 1 _ rfl
      have g2 := hat 2 _ rfl
      have g3 := hat 3 _ rfl
      have g4 := hat 4 _ rfl
      have g5 := hat 5 _ rfl
      have g6 := hat 6 _ rfl
      simp at g0 g1 g2 g3 g4 g5 g6
      have hcall := hp'.out wr xs[k] _ hb.out ⟨⟨v1, rfl, hr⟩, hQ⟩
      clear hat
      cases hq : p xs[k] with
      | true =>
        rw [hq] at hcall
        have hq' := Hd.mk hq
        clear hq
        go_wp2_with (go_at_fn g; refine hcall.mono ?_; rintro e w' ⟨rfl, hb'⟩)
        go_ret
        exact ⟨by rw [idx_hit p xs k hlt hq'.out hn.out]; rfl, hb.out.then hb'⟩
      | false =>
        rw [hq] at hcall
        have hq' := Hd.mk hq
        clear hq
        go_wp2_with (go_at_fn g; refine hcall.mono ?_; rintro e w' ⟨rfl, hb'⟩)
        go_roundw
        case rel =>
          refine ⟨k + 1, by omega, by go_num, ⟨hb.out.then hb'⟩, ⟨fun j hj hjk => ?_⟩⟩
          by_cases e : j = k
          · subst e; exact hq'.out
          · exact hn.out j hj (by omega)
        case measure => simp [intOf]; omega
    · have e : k = xs.length := by omega
      subst e
      go_wp2
      go_ret
      exact ⟨by rw [idx_miss p xs (fun j hj => hn.out j hj hj)]; rfl, hb.out⟩
theorem c_ConInstQ (Q : XInst → Prop) (v : Value) (xs : List XInst) (g : Nat) (lb : Array Value) (p : XInst → Bool) (w : World) (hv : Rd lm 7 (KInstQ Q) w v xs)
    (eg : ∀ args w, (callFunc g args).run Tryz.prog w = .ok (.enter g args) w) (hp : PB Tryz.prog g lb (KInstQ Q) argN p w) :
    Calls Tryz.prog 132 #[v, .func (.func g) #[] lb] w (Ret (.bool (xs.any p)) w) := by
  rw [← idx_any]
  have hi := c_IdxInstQ Q v xs g lb p w hv eg hp
  clear hv eg hp
  go_enter Tryz.func132, Tryz.ntmps132
  go_wp2_with (go_at_call 177; refine hi.mono ?_; rintro e w' ⟨rfl, hb'⟩)
  go_ret
  exact ⟨rfl, hb'⟩
set_option maxHeartbeats 400000 in
theorem c_IdxFn (v : Value) (xs : List XFunc) (g : Nat) (lb : Array Value) (p : XFunc → Bool) (w : World) (hv : Rd lm 3 (KFunc lm) w v xs)
    (eg : ∀ args w, (callFunc g args).run Tryz.prog w = .ok (.enter g args) w) (hp : PB Tryz.prog g lb (KFunc lm) argN p w) :
    Calls Tryz.prog 164 #[v, .func (.func g) #[] lb] w (Ret (.int .i64 (idx p xs)) w) := by
  obtain ⟨A, c, rfl, h1, h2, hv0⟩ := hv.sm
  have hp' := Hd.mk hp
  clear hv hp
  go_enter Tryz.func164, Tryz.ntmps164
  go_wp2
  go_loopw [5, 8] (fun _ s8 wr => ∃ k : Nat, k ≤ xs.length ∧ s8 = .int .i64 k ∧ Hd (Below w.heap.size w wr) ∧ Hd (∀ j (h : j < xs.length), j < k → p xs[j] = false)) (fun _ s8 _ => xs.length - (intOf s8).toNat)
  case atStart => exact ⟨0, Nat.zero_le _, rfl, ⟨Below.refl _ w⟩, ⟨fun j _ h => absurd h (Nat.not_lt_zero _)⟩⟩
  case round =>
    obtain ⟨k, hk, rfl, hb, hn⟩ := hrel
    by_cases hlt : k < xs.length
    · obtain ⟨b, off, cs, hA, hbl, hkk, hat⟩ := hv0.out.in_ hb.out k hlt
      cases hA
      obtain ⟨v1, v2, rfl, hr, hr2⟩ := hkk
      obtain ⟨A5, c5, rfl, -, -, -⟩ := hr.sm
      obtain ⟨A6, c6, rfl, -, -, -⟩ := hr2.sm
      have g0 := hat 0 _ rfl
      have g1 := hat 1 _ rfl
      have g2 := hat 2 _ rfl
      simp at g0 g1 g2
      have hcall := hp'.out wr xs[k] _ hb.out ⟨_, _, rfl, hr, hr2⟩
      clear hat
      cases hq : p xs[k] with
      | true =>
        rw [hq] at hcall
        have hq' := Hd.mk hq
        clear hq
        go_wp2_with (go_at_fn g; refine hcall.mono ?_; rintro e w' ⟨rfl, hb'⟩)
        go_ret
        exact ⟨by rw [idx_hit p xs k hlt hq'.out hn.out]; rfl, hb.out.then hb'⟩
      | false =>
        rw [hq] at hcall
        have hq' := Hd.mk hq
        clear hq
        go_wp2_with (go_at_fn g; refine hcall.mono ?_; rintro e w' ⟨rfl, hb'⟩)
        go_roundw
        case rel =>
          refine ⟨k + 1, by omega, by go_num, ⟨hb.out.then hb'⟩, ⟨fun j hj hjk => ?_⟩⟩
          by_cases e : j = k
          · subst e; exact hq'.out
          · exact hn.out j hj (by omega)
        case measure => simp [intOf]; omega
    · have e : k = xs.length := by omega
      subst e
      go_wp2
      go_ret
      exact ⟨by rw [idx_miss p xs (fun j hj => hn.out j hj hj)]; rfl, hb.out⟩
theorem c_ConFn (v : Value) (xs : List XFunc) (g : Nat) (lb : Array Value) (p : XFunc → Bool) (w : World) (hv : Rd lm 3 (KFunc lm) w v xs)
    (eg : ∀ args w, (callFunc g args).run Tryz.prog w = .ok (.enter g args) w) (hp : PB Tryz.prog g lb (KFunc lm) argN p w) :
    Calls Tryz.prog 126 #[v, .func (.func g) #[] lb] w (Ret (.bool (xs.any p)) w) := by
  rw [← idx_any]
  have hi := c_IdxFn v xs g lb p w hv eg hp
  clear hv eg hp
  go_enter Tryz.func126, Tryz.ntmps126
  go_wp2_with (go_at_call 164; refine hi.mono ?_; rintro e w' ⟨rfl, hb'⟩)
  go_ret
  exact ⟨rfl, hb'⟩
def QCall (m : XMod) (i : XInst) : Prop := i.op = 26 → 0 ≤ i.imm ∧ i.imm < m.funcs.length
set_option maxHeartbeats 1000000 in
theorem c_checked1 (m : XMod) (f : XFunc) (i : XInst) (cs : List Value) (bm bf : Nat) (w : World) (hm : MB w bm m) (hf : FB w bf f) (hfo : Fo f) (hk : KInst lm w i cs) (hq : QCall m i) : Calls Tryz.prog 133 #[.agg cs.toArray, .pointer (some ⟨bm, 0, none⟩), .pointer (some ⟨bf, 0, none⟩)] w (Ret (.bool (i.op == 26 && !callOk m f i)) w) := by
  obtain ⟨v, rfl, hr⟩ := hk
  obtain ⟨A7, c7, rfl, -, -, -⟩ := hr.sm
  obtain ⟨A1, c1, A2, c2, q0, q1, q2, q3, q4⟩ := hf
  obtain ⟨Am, cm, p0, p1, p2⟩ := hm
  have hbl := fun o => (Below.refl w.heap.size w).al (Nat.le_refl _) o
  by_cases h26 : i.op = 26
  · have hc := fun W (hW : Below w.heap.size w W) => c_isCall m _ f _ i (.slice A7 i.args.length c7) W (KM.mv p1 hW) (KM.mv q3 hW) hfo (hr.mv hW) (hq h26)
    generalize callOk m f i = q at *
    obtain ⟨op, wd, a, b', c, imm, args⟩ := i
    simp only [instV] at *
    subst h26
    clear q3 p1 hr hq
    go_enter Tryz.func133, Tryz.ntmps133
    go_wp2_with fail
    refine (hc _ (hbl _)).mono ?_; rintro e w1 ⟨rfl, hb1⟩
    go_wp2
    go_ret
    exact ⟨by simp, (hbl _).then hb1⟩
  · have b1 := beqF h26
    rw [show (i.op == 26 && !callOk m f i) = false by rw [b1]; rfl]
    obtain ⟨op, wd, a, b', c, imm, args⟩ := i
    simp only at *
    clear q3 p1 hr hq
    go_enter Tryz.func133, Tryz.ntmps133
    go_wp2
    go_ret
    exact ⟨rfl, hbl _⟩
theorem pb_checked1 (W : World) (m : XMod) (f : XFunc) (bm bf : Nat) (hm : MB W bm m) (hf : FB W bf f) (hfo : Fo f) : PB Tryz.prog 133 #[.pointer (some ⟨bm, 0, none⟩), .pointer (some ⟨bf, 0, none⟩)] (KInstQ (QCall m)) argN (fun i => i.op == 26 && !callOk m f i) W := fun W' x cs hW hk =>
  c_checked1 m f x cs bm bf W' (hm.mv hW) (hf.mv hW) hfo hk.1 hk.2
theorem c_ShapeOk1 (f : XFunc) (cs : List Value) (n : Int) (b : Nat) (w : World) (hk : KFunc lm w f cs) (hb : NB w b n) (h0 : 0 ≤ n) (h1 : n ≤ 1048576) : Calls Tryz.prog 127 #[.agg cs.toArray, .pointer (some ⟨b, 0, none⟩)] w (Ret (.bool (!funcOk f n)) w) := by
  have hi := fun W hW => c_isFunc f cs n W (KM.mv hk hW) h0 h1
  obtain ⟨v1, v2, rfl, hr, hr2⟩ := hk
  obtain ⟨A1, c1, rfl, -, -, -⟩ := hr.sm
  obtain ⟨A2, c2, rfl, -, -, -⟩ := hr2.sm
  have hbl := fun o => (Below.refl w.heap.size w).al (Nat.le_refl _) o
  obtain ⟨hb1, hb2⟩ := hb
  clear hr hr2
  generalize funcOk f n = q at *
  go_enter Tryz.func127, Tryz.ntmps127
  go_wp2_with fail
  refine (hi _ (hbl _)).mono ?_; rintro e w1 ⟨rfl, hb1⟩
  go_wp2
  go_ret
  exact ⟨rfl, (hbl _).then hb1⟩
theorem pb_ShapeOk1 (W : World) (n : Int) (b : Nat) (hb : NB W b n) (h0 : 0 ≤ n) (h1 : n ≤ 1048576) : PB Tryz.prog 127 #[.pointer (some ⟨b, 0, none⟩)] (KFunc lm) argN (fun f => !funcOk f n) W := fun W' x cs hW hk =>
  c_ShapeOk1 x cs n b W' hk (hb.mv hW) h0 h1
set_option maxHeartbeats 1000000 in
theorem c_ShapeOk (m : XMod) (cs : List Value) (w : World) (hm : KMod lm w m cs) : Calls Tryz.prog 89 #[.agg cs.toArray] w (Ret (.bool (shapeOk m)) w) := by
  obtain ⟨v, rfl, hr⟩ := hm
  obtain ⟨A, c, rfl, hcc, hl, hr0⟩ := hr.sm
  clear hr
  have hbl := fun o o' => ((Below.refl w.heap.size w).al (Nat.le_refl _) o).al (by simp) o'
  have eg := enters_of Tryz.func127 (by kernel_rfl) rfl
  have hin := fun W => c_within (m.funcs.length : Int) 1 3 W
  obtain ⟨W0, hW0⟩ : ∃ W0 : World, W0 = (w.alloc (.cells #[.slice A m.funcs.length c] 38)).alloc (.cells #[.int .i64 m.funcs.length] 2) := ⟨_, rfl⟩
  have hB0 : Below w.heap.size w W0 := by rw [hW0]; exact hbl _ _
  have hz0 : W0.heap.size = w.heap.size + 2 := by rw [hW0]; simp
  have hnb : NB W0 (w.heap.size + 1) m.funcs.length := ⟨by rw [hW0]; exact new_cell _ _ _ (by simp) 0 _ rfl, by omega⟩
  have hcon := c_ConFn (.slice A m.funcs.length c) m.funcs _ _ (fun f => !funcOk f m.funcs.length) W0 (hr0.out.mv hB0) eg (pb_ShapeOk1 W0 _ _ hnb (by omega) (by omega))
  simp only [any_not] at hcon
  have hW0' := Hd.mk hW0
  have hB0' := Hd.mk hB0
  unfold shapeOk
  clear hW0 hB0 hnb
  generalize m.funcs.all (fun f => funcOk f m.funcs.length) = q2 at *
  generalize m.funcs.length = n at *
  have e1 : IntKind.i64.wrap (n : Int) = (n : Int) := IntWalk.i64_in _ (by omega)
  generalize inR (n : Int) 1 3 = q1 at *
  cases q1 with
  | false =>
    go_enter Tryz.func89, Tryz.ntmps89
    go_wp2_with fail
    rw [← hW0'.out]
    refine (hin _).mono ?_; rintro e w1 ⟨rfl, rfl⟩
    go_wp2
    go_ret
    exact ⟨rfl, hB0'.out⟩
  | true =>
    go_enter Tryz.func89, Tryz.ntmps89
    go_wp2_with fail
    rw [← hW0'.out]
    refine (hin _).mono ?_; rintro e w1 ⟨rfl, rfl⟩
    have x0 : W0.cell? ⟨w.heap.size, 0, none⟩ = some (.slice A n c) := by rw [hW0'.out]; simp
    go_wp2_with fail
    refine hcon.mono ?_; rintro e w1 ⟨rfl, hb1⟩
    go_wp2
    go_ret
    exact ⟨by simp, hB0'.out.then hb1⟩
theorem checkF_2 {m : XMod} {f : XFunc} (h : entryOk f = false) : checkF m f = 2 := by unfold checkF; rw [h]; rfl
theorem checkF_3 {m : XMod} {f : XFunc} (h : entryOk f = true) (h2 : phisOk f = false) : checkF m f = 3 := by unfold checkF; rw [h, h2]; rfl
theorem checkF_4 {m : XMod} {f : XFunc} (h : entryOk f = true) (h2 : phisOk f = true) (h3 : typesOk f = false) : checkF m f = 4 := by unfold checkF; rw [h, h2, h3]; rfl
theorem checkF_5 {m : XMod} {f : XFunc} (h : entryOk f = true) (h2 : phisOk f = true) (h3 : typesOk f = true) (h4 : callsOk m f = false) : checkF m f = 5 := by unfold checkF; rw [h, h2, h3, h4]; rfl
theorem checkF_6 {m : XMod} {f : XFunc} (h : entryOk f = true) (h2 : phisOk f = true) (h3 : typesOk f = true) (h4 : callsOk m f = true) (h5 : domsOk f = false) : checkF m f = 6 := by unfold checkF; rw [h, h2, h3, h4, h5]; rfl
theorem checkF_0 {m : XMod} {f : XFunc} (h : entryOk f = true) (h2 : phisOk f = true) (h3 : typesOk f = true) (h4 : callsOk m f = true) (h5 : domsOk f = true) : checkF m f = 0 := by unfold checkF; rw [h, h2, h3, h4, h5]; rfl
def callsB (m : XMod) (f : XFunc) (b : XBlock) : Bool := b.insts.all fun i => !(i.op == 26 && !callOk m f i)
theorem callsOk_all (m : XMod) (f : XFunc) : callsOk m f = f.blocks.all (callsB m f) := rfl
def domB (f : XFunc) (b : Nat) : Bool := !((reach f (-1)).getD b false && !seesB f b)
theorem domsOk_all (f : XFunc) : domsOk f = (List.range f.blocks.length).all (domB f) := rfl
set_option maxRecDepth 20000 in
set_option maxHeartbeats 8000000 in
theorem c_checked (m : XMod) (cm : List Value) (f : XFunc) (cf : List Value) (w : World) (hm : KMod lm w m cm) (hf : KFunc lm w f cf) (hfo : Fo f) (hq : ∀ b ∈ f.blocks, ∀ i ∈ b.insts, QCall m i) :
    Calls Tryz.prog 90 #[.agg cm.toArray, .agg cf.toArray] w (Ret (.int .i64 (checkF m f)) w) := by
  have hm' := Hd.mk hm
  have hf' := Hd.mk hf
  obtain ⟨vm, rfl, hrm⟩ := hm
  obtain ⟨Am, cm, rfl, -, -, -⟩ := hrm.sm
  obtain ⟨v1, v2, rfl, hp, hb⟩ := hf
  obtain ⟨A1, c1, rfl, -, -, -⟩ := hp.sm
  obtain ⟨A2, c2, rfl, hcap, hl2, hb0⟩ := hb.sm
  clear hp hb hrm
  have hbl := fun o o' => ((Below.refl w.heap.size w).al (Nat.le_refl _) o).al (by simp) o'
  have eg := enters_of Tryz.func133 (by kernel_rfl) rfl
  obtain ⟨W0, hW0⟩ : ∃ W0 : World, W0 = (w.alloc (.cells #[.slice Am m.funcs.length cm] 38)).alloc (.cells #[.slice A1 f.params.length c1, .int .i64 f.ret, .slice A2 f.blocks.length c2] 35) := ⟨_, rfl⟩
  have hB0 : Below w.heap.size w W0 := by rw [hW0]; exact hbl _ _
  have hz0 : W0.heap.size = w.heap.size + 2 := by rw [hW0]; simp
  have hmb : Hd (MB W0 w.heap.size m) := ⟨Am, cm, by rw [hW0]; simp, KM.mv hm'.out hB0, by omega⟩
  have hzf : Hd (∀ o u, [Value.slice A1 f.params.length c1, .int .i64 f.ret, .slice A2 f.blocks.length c2][o]? = some u → W0.cell? ⟨w.heap.size + 1, o, none⟩ = some u) := ⟨fun o u hu => by rw [hW0]; exact new_cell _ _ _ (by simp) o u (by simpa using hu)⟩
  have hfb : Hd (FB W0 (w.heap.size + 1) f) := ⟨A1, c1, A2, c2, hzf.out 0 _ rfl, hzf.out 1 _ rfl, hzf.out 2 _ rfl, KM.mv hf'.out hB0, by omega⟩
  have hW0' := Hd.mk hW0
  have hB0' := Hd.mk hB0
  have hen := fun W (hW : Below w.heap.size w W) => c_isEntry f _ W (KM.mv hf'.out hW) hfo.1.2.1
  have hph := fun W (hW : Below w.heap.size w W) => c_arePhis f _ W (KM.mv hf'.out hW) hfo.1.2.2
  have hty := fun W (hW : Below w.heap.size w W) => c_areTypes f _ W (KM.mv hf'.out hW) hfo
  have hre := fun W (hW : Below w.heap.size w W) => c_reach f _ (-1) W (KM.mv hf'.out hW) hfo.1.1 ⟨hfo.1.2.1, hfo.1.2.2⟩
  have hn10 := hfo.1.2.2
  have hfo' := Hd.mk hfo
  have hq' := Hd.mk hq
  clear hW0 hB0 hfo hq
  generalize hR : checkF m f = R
  have hR' := Hd.mk hR
  clear hR
  go_enter Tryz.func90, Tryz.ntmps90
  go_wp2_with fail
  rw [← hW0'.out]
  have x0 := hzf.out 0 _ rfl
  have x1 := hzf.out 1 _ rfl
  have x2 := hzf.out 2 _ rfl
  go_wp2_with fail
  refine (hen _ hB0'.out).mono ?_; rintro e w1 ⟨rfl, hb1⟩
  replace x0 := (bat hb1 (w.heap.size + 1) (by omega) 0).trans x0
  replace x1 := (bat hb1 (w.heap.size + 1) (by omega) 1).trans x1
  replace x2 := (bat hb1 (w.heap.size + 1) (by omega) 2).trans x2
  have hc1 := Hd.mk hb1
  have hz1 := hb1.size
  clear hb1
  cases h1 : entryOk f with
  | false =>
    rw [checkF_2 h1] at hR'
    have hv := hR'.out
    subst hv
    clear h1
    go_wp2
    go_ret
    exact ⟨rfl, hB0'.out.then hc1.out⟩
  | true =>
    go_wp2_with fail
    refine (hph _ (hB0'.out.then hc1.out)).mono ?_; rintro e w2 ⟨rfl, hb2⟩
    replace x0 := (bat hb2 (w.heap.size + 1) (by omega) 0).trans x0
    replace x1 := (bat hb2 (w.heap.size + 1) (by omega) 1).trans x1
    replace x2 := (bat hb2 (w.heap.size + 1) (by omega) 2).trans x2
    have hc2 := Hd.mk (hc1.out.then hb2)
    have hz2 := hb2.size
    clear hb2
    cases h2 : phisOk f with
    | false =>
      rw [checkF_3 h1 h2] at hR'
      have hv := hR'.out
      subst hv
      clear h1 h2
      go_wp2
      go_ret
      exact ⟨rfl, hB0'.out.then hc2.out⟩
    | true =>
      go_wp2_with fail
      refine (hty _ (hB0'.out.then hc2.out)).mono ?_; rintro e w3 ⟨rfl, hb3⟩
      replace x0 := (bat hb3 (w.heap.size + 1) (by omega) 0).trans x0
      replace x1 := (bat hb3 (w.heap.size + 1) (by omega) 1).trans x1
      replace x2 := (bat hb3 (w.heap.size + 1) (by omega) 2).trans x2
      have hc3 := Hd.mk (hc2.out.then hb3)
      have hz3 := hb3.size
      clear hb3
      cases h3 : typesOk f with
      | false =>
        rw [checkF_4 h1 h2 h3] at hR'
        have hv := hR'.out
        subst hv
        clear h1 h2 h3
        go_wp2
        go_ret
        exact ⟨rfl, hB0'.out.then hc3.out⟩
      | true =>
        have hE := Hd.mk h1
        have hP := Hd.mk h2
        have hT := Hd.mk h3
        clear h1 h2 h3 hen hph hty
        go_wp2
        go_loopw [25] (fun s25 wr => ∃ k : Nat, k ≤ f.blocks.length ∧ s25 = .int .i64 k ∧ Hd ((f.blocks.take k).all (callsB m f) = true) ∧ Hd (Below W0.heap.size W0 wr)) (fun s25 _ => f.blocks.length - (intOf s25).toNat)
        case atStart => exact ⟨0, Nat.zero_le _, rfl, ⟨rfl⟩, hc3⟩
        case round =>
          obtain ⟨k, hk, rfl, hall, hbr⟩ := hrel
          obtain ⟨wo, rfl⟩ : ∃ wo : World, wo = wr := ⟨_, rfl⟩
          have hBw := Hd.mk (hB0'.out.then hbr.out)
          have hzo := hbr.out.size
          by_cases hlt : k < f.blocks.length
          · obtain ⟨eb, eo, ecs, hA_, heb, ⟨bv1, bv2, rfl, hr_, hr2_⟩, hat_⟩ := (hb0.out).in0 (hBw.out) (k) (hlt)
            cases hA_
            have hew := Nat.lt_of_lt_of_le heb (hBw.out).size
            have g0 := hat_ 0 _ rfl
            have g1 := hat_ 1 _ rfl
            have g2 := hat_ 2 _ rfl
            have g3 := hat_ 3 _ rfl
            have g4 := hat_ 4 _ rfl
            have g5 := hat_ 5 _ rfl
            clear hat_
            simp at g0 g1 g2 g3 g4 g5
            obtain ⟨Ap, cp, rfl, hcp, hlp, hrp⟩ := hr_.sm
            obtain ⟨Ai, ci, rfl, hci, hli, hri⟩ := hr2_.sm
            clear hr_ hr2_
            have hsn := Hd.mk (all_take_snoc (callsB m f) f.blocks k hlt)
            have hfl := fun h => Hd.mk (all_false_of (callsB m f) f.blocks k hlt h)
            have hmem := hq'.out f.blocks[k] (List.getElem_mem hlt)
            generalize f.blocks[k] = x at *
            have hal : Hd (∀ o, Below wo.heap.size wo (wo.alloc o)) := ⟨fun o => (Below.refl wo.heap.size wo).al (Nat.le_refl _) o⟩
            have hcon := fun W (hW : Below wo.heap.size wo W) => c_ConInstQ (QCall m) (.slice Ai x.insts.length ci) x.insts _ _ (fun i => i.op == 26 && !callOk m f i) W (Rd.withQ (hri.out.mv (hBw.out.then hW)) hmem) eg (pb_checked1 W m f _ _ (hmb.out.mv (hbr.out.then hW)) (hfb.out.mv (hbr.out.then hW)) hfo'.out)
            have hany : x.insts.any (fun i => i.op == 26 && !callOk m f i) = !callsB m f x := by unfold callsB; rw [List.not_all_eq_any_not]; simp
            rw [hany] at hcon
            clear hany hmem
            go_wp2_with fail
            refine (hcon _ (hal.out _)).mono ?_; rintro e w4 ⟨rfl, hb4⟩
            have hb4' := Hd.mk ((hal.out _).then hb4)
            clear hcon hb4
            cases h4 : callsB m f x with
            | false =>
              rw [checkF_5 hE.out hP.out hT.out (hfl h4).out] at hR'
              have hv := hR'.out
              subst hv
              clear hfl hsn h4
              go_wp2
              go_ret
              exact ⟨rfl, hBw.out.then hb4'.out⟩
            | true =>
              have hall2 := Hd.mk (show (f.blocks.take (k + 1)).all (callsB m f) = true by rw [hsn.out, hall.out, h4]; rfl)
              clear hfl hsn h4
              go_wp2
              go_roundw
              case rel => exact ⟨k + 1, by omega, by go_num, hall2, ⟨hbr.out.then hb4'.out⟩⟩
              case measure => simp [intOf]; omega
          · have e : k = f.blocks.length := by omega
            subst e
            rw [List.take_length] at hall
            replace x0 := (bat hbr.out (w.heap.size + 1) (by omega) 0).trans (hzf.out 0 _ rfl)
            replace x1 := (bat hbr.out (w.heap.size + 1) (by omega) 1).trans (hzf.out 1 _ rfl)
            replace x2 := (bat hbr.out (w.heap.size + 1) (by omega) 2).trans (hzf.out 2 _ rfl)
            have hrl := Hd.mk (reach_len f (-1))
            go_wp2_with fail
            refine (hre _ hBw.out).mono ?_; rintro e w4 ⟨u4, rfl, ho4, hb4⟩
            obtain ⟨Av, cv, rfl, -, -, -, -⟩ := own_shape ho4
            have hv4 := Hd.mk ho4
            have hc4 := Hd.mk (hbr.out.then hb4)
            have hz4 := hb4.size
            have hlow := Nat.le_trans hBw.out.size hb4.size
            clear hre ho4 hb4
            go_wp2
            go_loopw [38] (fun s38 wr => ∃ k : Nat, k ≤ (reach f (-1)).length ∧ s38 = .int .i64 k ∧ Hd ((List.range k).all (domB f) = true) ∧ Hd (Below w4.heap.size w4 wr)) (fun s38 _ => (reach f (-1)).length - (intOf s38).toNat)
            case atStart => exact ⟨0, Nat.zero_le _, rfl, ⟨rfl⟩, ⟨Below.refl _ _⟩⟩
            case round =>
              obtain ⟨k, hk, rfl, hallk, hbk⟩ := hrel
              have hB4 := Hd.mk (hc4.out.then hbk.out)
              have hBk := Hd.mk (hB0'.out.then hB4.out)
              by_cases hlt : k < (reach f (-1)).length
              · have hltb : k < f.blocks.length := by have := hrl.out; omega
                have hsnk := Hd.mk (range_all_snoc (domB f) k)
                have hflk := fun h => Hd.mk (range_all_fail (domB f) f.blocks.length k hltb h)
                obtain ⟨gv, cv', hvv, hgv, hvc⟩ := OwB.at_ (show OwB wo.heap.size wr _ _ from own_mv (show w4.ownsRow _ 4 1 _ _ _ from hv4.out) hbk.out) k hlt
                cases hvv
                have hsee := fun W (hW : Below wr.heap.size wr W) => c_areSeen wo.heap.size f _ k _ W (KM.mv hf'.out (hBk.out.then hW)) hfo'.out hltb (own_mv (show wr.ownsRow wo.heap.size 4 1 _ _ _ from own_mv (show w4.ownsRow _ 4 1 _ _ _ from hv4.out) hbk.out) hW) hP.out
                have hdk : domB f k = !((reach f (-1)).getD k false && !seesB f k) := rfl
                rw [hdk] at hsnk hflk
                have y0 := (bat hB4.out (w.heap.size + 1) (by omega) 0).trans (hzf.out 0 _ rfl)
                have y1 := (bat hB4.out (w.heap.size + 1) (by omega) 1).trans (hzf.out 1 _ rfl)
                have y2 := (bat hB4.out (w.heap.size + 1) (by omega) 2).trans (hzf.out 2 _ rfl)
                generalize (reach f (-1)).getD k false = rq at *
                generalize seesB f k = sq at *
                clear hdk
                have hBr : Below wr.heap.size wr wr := Below.refl _ _
                have hBs := Hd.mk hBr
                clear hBr
                have hdc : Hd (callsOk m f = true) := ⟨hall.out⟩
                cases rq with
                | false =>
                  have hps := Hd.mk (show (List.range (k + 1)).all (domB f) = true by rw [hsnk.out, hallk.out]; rfl)
                  clear hsnk hflk hsee
                  go_wp2
                  go_roundw
                  case rel => exact ⟨k + 1, by omega, by go_num, hps, hbk⟩
                  case measure => simp [intOf]; omega
                | true =>
                  cases sq with
                  | true =>
                    have hps := Hd.mk (show (List.range (k + 1)).all (domB f) = true by rw [hsnk.out, hallk.out]; rfl)
                    clear hsnk hflk
                    go_wp2_with fail
                    refine (hsee _ hBs.out).mono ?_; rintro e w5 ⟨rfl, hS⟩
                    go_wp2
                    go_roundw
                    case rel => exact ⟨k + 1, by omega, by go_num, hps, ⟨hbk.out.then hS⟩⟩
                    case measure => simp [intOf]; omega
                  | false =>
                    rw [checkF_6 hE.out hP.out hT.out hdc.out (hflk rfl).out] at hR'
                    have hv := hR'.out
                    subst hv
                    clear hsnk hflk
                    go_wp2_with fail
                    refine (hsee _ hBs.out).mono ?_; rintro e w5 ⟨rfl, hS⟩
                    go_wp2
                    go_ret
                    exact ⟨rfl, hBk.out.then hS⟩
              · have e : k = (reach f (-1)).length := by omega
                subst e
                have hak : domsOk f = true := by rw [domsOk_all, ← hrl.out]; exact hallk.out
                rw [checkF_0 hE.out hP.out hT.out hall.out hak] at hR'
                have hv := hR'.out
                subst hv
                go_wp2
                go_ret
                exact ⟨rfl, hBk.out⟩
theorem shape_parts {m : XMod} (h : shapeOk m = true) : (1 ≤ m.funcs.length ∧ m.funcs.length ≤ 3) ∧ ∀ f ∈ m.funcs, funcOk f m.funcs.length = true := by
  unfold shapeOk inR at h
  simp only [Bool.and_eq_true, decide_eq_true_eq, List.all_eq_true] at h
  exact ⟨by omega, h.2⟩
theorem inst_imm {ids funcs : Int} {i : XInst} (hi : instOk ids funcs i = true) (ho : i.op = 26) : 0 ≤ i.imm ∧ i.imm < funcs := by
  unfold instOk immFits at hi
  rw [ho] at hi
  simp only [Bool.and_eq_true] at hi
  have := hi.2
  simp [inR] at this
  omega
theorem shape_calls {m : XMod} (h : shapeOk m = true) : ∀ f ∈ m.funcs, ∀ b ∈ f.blocks, ∀ i ∈ b.insts, QCall m i := by
  intro f hf b hb i hi ho
  have h1 := (func_blocks ((shape_parts h).2 f hf)).2.2.2 b hb
  unfold blockOk at h1
  simp only [Bool.and_eq_true, List.all_eq_true] at h1
  exact inst_imm (h1.1.2 i hi) ho
theorem shape_fo {m : XMod} (h : shapeOk m = true) : ∀ f ∈ m.funcs, Fo f := fun f hf => func_fo ((shape_parts h).2 f hf)
theorem firstBad_cons (m : XMod) (f : XFunc) (r : List XFunc) : firstBad m (f :: r) = if checkF m f = 0 then firstBad m r else checkF m f := by
  show (if checkF m f == 0 then _ else _) = _
  simp
theorem firstBad_skip (m : XMod) (l : List XFunc) : ∀ k, (∀ j (h : j < l.length), j < k → checkF m l[j] = 0) → firstBad m l = firstBad m (l.drop k)
  | 0, _ => rfl
  | k + 1, h => by
    cases l with
    | nil => rfl
    | cons f r =>
      rw [firstBad_cons, if_pos (show checkF m f = 0 from h 0 (by simp) (by omega)), List.drop_succ_cons]
      exact firstBad_skip m r k fun j hj hk => h (j + 1) (by simpa using hj) (by omega)
theorem firstBad_hit (m : XMod) (l : List XFunc) (k : Nat) (hk : k < l.length) (h : ∀ j (h : j < l.length), j < k → checkF m l[j] = 0) (hne : checkF m l[k] ≠ 0) : firstBad m l = checkF m l[k] := by
  rw [firstBad_skip m l k h, List.drop_eq_getElem_cons hk, firstBad_cons, if_neg hne]
theorem firstBad_none (m : XMod) (l : List XFunc) (h : ∀ j (h : j < l.length), checkF m l[j] = 0) : firstBad m l = 0 := by
  rw [firstBad_skip m l l.length fun j hj _ => h j hj, List.drop_length]; rfl
set_option maxRecDepth 20000 in
set_option maxHeartbeats 4000000 in
theorem c_Checked (m : XMod) (cm : List Value) (w : World) (hm : KMod lm w m cm) : Calls Tryz.prog 71 #[.agg cm.toArray] w (Ret (.int .i64 (checkM m)) w) := by
  have hm' := Hd.mk hm
  obtain ⟨vm, rfl, hrm⟩ := hm
  obtain ⟨Am, cm, rfl, hcap, hlm, hm0⟩ := hrm.sm
  clear hrm
  have hbl := fun o => (Below.refl w.heap.size w).al (Nat.le_refl _) o
  obtain ⟨W0, hW0⟩ : ∃ W0 : World, W0 = (w.alloc (.cells #[.slice Am m.funcs.length cm] 38)) := ⟨_, rfl⟩
  have hB0 : Below w.heap.size w W0 := by rw [hW0]; exact hbl _
  have hz0 : W0.heap.size = w.heap.size + 1 := by rw [hW0]; simp
  have hmc : Hd (W0.cell? ⟨w.heap.size, 0, none⟩ = some (.slice Am m.funcs.length cm)) := ⟨by rw [hW0]; simp⟩
  have hW0' := Hd.mk hW0
  have hB0' := Hd.mk hB0
  have hsh := fun W (hW : Below w.heap.size w W) => c_ShapeOk m _ W (KM.mv hm'.out hW)
  clear hW0 hB0
  generalize hR : checkM m = R
  have hR' := Hd.mk hR
  clear hR
  unfold checkM at hR'
  go_enter Tryz.func71, Tryz.ntmps71
  go_wp2_with fail
  rw [← hW0'.out]
  have x0 := hmc.out
  go_wp2_with fail
  refine (hsh _ hB0'.out).mono ?_; rintro e w1 ⟨rfl, hb1⟩
  replace x0 := (bat hb1 w.heap.size (by omega) 0).trans x0
  have hc1 := Hd.mk hb1
  have hz1 := hb1.size
  clear hb1 hsh
  cases h1 : shapeOk m with
  | false =>
    rw [h1] at hR'
    have hv : 1 = R := hR'.out
    subst hv
    clear h1
    go_wp2
    go_ret
    exact ⟨rfl, hB0'.out.then hc1.out⟩
  | true =>
    rw [h1] at hR'
    have hR2 : Hd (firstBad m m.funcs = R) := ⟨hR'.out⟩
    have hfo := Hd.mk (shape_fo h1)
    have hqc := Hd.mk (shape_calls h1)
    clear h1 hR'
    go_wp2
    go_loopw [12] (fun s12 wr => ∃ k : Nat, k ≤ m.funcs.length ∧ s12 = .int .i64 k ∧ Hd (∀ j (h : j < m.funcs.length), j < k → checkF m m.funcs[j] = 0) ∧ Hd (Below W0.heap.size W0 wr)) (fun s12 _ => m.funcs.length - (intOf s12).toNat)
    case atStart => exact ⟨0, Nat.zero_le _, rfl, ⟨fun j _ h => absurd h (Nat.not_lt_zero _)⟩, hc1⟩
    case round =>
      obtain ⟨k, hk, rfl, hall, hbr⟩ := hrel
      obtain ⟨wo, rfl⟩ : ∃ wo : World, wo = wr := ⟨_, rfl⟩
      have hBw := Hd.mk (hB0'.out.then hbr.out)
      have hzo := hbr.out.size
      by_cases hlt : k < m.funcs.length
      · obtain ⟨eb, eo, ecs, hA_, heb, ⟨fv1, fv2, rfl, hr_, hr2_⟩, hat_⟩ := (hm0.out).in0 (hBw.out) (k) (hlt)
        cases hA_
        have hew := Nat.lt_of_lt_of_le heb (hBw.out).size
        have g0 := hat_ 0 _ rfl
        have g1 := hat_ 1 _ rfl
        have g2 := hat_ 2 _ rfl
        clear hat_
        simp at g0 g1 g2
        obtain ⟨Af, cf, rfl, hcf, hlf, hrf⟩ := hr_.sm
        obtain ⟨Ab, cb, rfl, hcb, hlb, hrb⟩ := hr2_.sm
        clear hr_ hr2_
        have hhit := fun h => Hd.mk (firstBad_hit m m.funcs k hlt hall.out h)
        have hnxt := fun (h : checkF m m.funcs[k] = 0) => Hd.mk (show ∀ j (hj : j < m.funcs.length), j < k + 1 → checkF m m.funcs[j] = 0 from fun j hj hjk => by
          by_cases e : j = k
          · subst e; exact h
          · exact hall.out j hj (by omega))
        have hfo1 := Hd.mk (hfo.out m.funcs[k] (List.getElem_mem hlt))
        have hqc1 := Hd.mk (hqc.out m.funcs[k] (List.getElem_mem hlt))
        have hal : Hd (∀ o, Below wo.heap.size wo (wo.alloc o)) := ⟨fun o => (Below.refl wo.heap.size wo).al (Nat.le_refl _) o⟩
        have y0 := (bat hbr.out w.heap.size (by omega) 0).trans hmc.out
        have y1 : w.heap.size < wo.heap.size := by omega
        generalize m.funcs[k] = f at *
        have hck := fun W (hW : Below wo.heap.size wo W) => c_checked m _ f [.slice Af f.params.length cf, .int .i64 f.ret, .slice Ab f.blocks.length cb] W (KM.mv hm'.out (hBw.out.then hW)) ⟨_, _, rfl, hrf.out.mv (hBw.out.then hW), hrb.out.mv (hBw.out.then hW)⟩ hfo1.out hqc1.out
        go_wp2_with fail
        refine (hck _ (hal.out _)).mono ?_; rintro e w4 ⟨rfl, hb4⟩
        have hb4' := Hd.mk ((hal.out _).then hb4)
        clear hck hb4
        by_cases h4 : checkF m f = 0
        · have hall2 := hnxt h4
          rw [h4]
          clear hhit hnxt h4
          go_wp2
          go_roundw
          case rel => exact ⟨k + 1, by omega, by go_num, hall2, ⟨hbr.out.then hb4'.out⟩⟩
          case measure => simp [intOf]; omega
        · have hv := (hhit h4).out.symm.trans hR2.out
          clear hhit hnxt
          have d4 := beqF h4
          have d5 : (checkF m f != 0) = true := by simpa using h4
          generalize checkF m f = q at *
          subst hv
          clear h4
          go_wp2
          go_ret
          exact ⟨rfl, hBw.out.then hb4'.out⟩
      · have e : k = m.funcs.length := by omega
        subst e
        have hv := (firstBad_none m m.funcs fun j hj => hall.out j hj hj).symm.trans hR2.out
        subst hv
        go_wp2
        go_ret
        exact ⟨rfl, hBw.out⟩
theorem c_isOk (m : XMod) (cm : List Value) (w : World) (hm : KMod lm w m cm) : Calls Tryz.prog 44 #[.agg cm.toArray] w (Ret (.bool (modOk m)) w) := by
  have hm' := Hd.mk hm
  obtain ⟨vm, rfl, hrm⟩ := hm
  obtain ⟨Am, cm, rfl, -, -, -⟩ := hrm.sm
  clear hrm
  have hbl := fun o => (Below.refl w.heap.size w).al (Nat.le_refl _) o
  have hck := fun W (hW : Below w.heap.size w W) => c_Checked m _ W (KM.mv hm'.out hW)
  unfold modOk
  generalize checkM m = q at *
  go_enter Tryz.func44, Tryz.ntmps44
  go_wp2_with fail
  refine (hck _ (hbl _)).mono ?_; rintro e w4 ⟨rfl, hb4⟩
  go_wp2
  go_ret
  exact ⟨rfl, (hbl _).then hb4⟩
theorem fn_block {f : XFunc} {n : Int} (h : funcOk f n = true) (b : XBlock) (hb : b ∈ f.blocks) : (∀ p ∈ b.phis, phiOk (countOf f) p = true) ∧ (∀ i ∈ b.insts, instOk (countOf f) n i = true) ∧ termOk (countOf f) f.blocks.length b.term = true := by
  have h1 := (func_blocks h).2.2.2 b hb
  unfold blockOk at h1
  simp only [Bool.and_eq_true, List.all_eq_true] at h1
  exact ⟨h1.1.1, h1.1.2, h1.2⟩
theorem fn_par {f : XFunc} {n : Int} (h : funcOk f n = true) : ∀ w ∈ f.params, widthOk w = true := by
  unfold funcOk at h
  simp only [Bool.and_eq_true, List.all_eq_true] at h
  exact h.1.1.2
theorem width_nn {w : Int} (h : widthOk w = true) : 1 ≤ w ∧ w ≤ 32 := by
  unfold widthOk at h
  simp at h
  omega
theorem isIdB_iff (n id : Int) : isIdB n id = true ↔ 0 ≤ id ∧ id < n := by
  unfold isIdB inR
  simp
  omega
theorem inst_parts {ids n : Int} {i : XInst} (h : instOk ids n i = true) : (1 ≤ i.op ∧ i.op ≤ 27) ∧ (∀ id ∈ opsOf i, 0 ≤ id ∧ id < ids) ∧ (∀ x ∈ [i.a, i.b, i.c].drop (ownN i), x = 0) ∧ wFits i = true := by
  unfold instOk at h
  simp only [Bool.and_eq_true, List.all_eq_true] at h
  obtain ⟨⟨⟨⟨⟨⟨h1, -⟩, -⟩, h2⟩, h3⟩, h4⟩, -⟩ := h
  refine ⟨by simpa [inR] using h1, fun id hid => (isIdB_iff _ _).1 (h2 id hid), fun x hx => by simpa using h3 x hx, h4⟩
theorem inst_abc {ids n : Int} {i : XInst} (h : instOk ids n i = true) (h0 : 0 ≤ ids) : (0 ≤ i.a ∧ i.a ≤ ids) ∧ (0 ≤ i.b ∧ i.b ≤ ids) ∧ (0 ≤ i.c ∧ i.c ≤ ids) := by
  obtain ⟨-, h1, h2, -⟩ := inst_parts h
  have key : ∀ x, x ∈ opsOf i ∨ x = 0 → 0 ≤ x ∧ x ≤ ids := by
    rintro x (hx | rfl)
    · have := h1 x hx; omega
    · omega
  have hh : (i.a ∈ opsOf i ∨ i.a = 0) ∧ (i.b ∈ opsOf i ∨ i.b = 0) ∧ (i.c ∈ opsOf i ∨ i.c = 0) := by
    unfold ownN at h2
    by_cases h26 : i.op = 26
    · rw [if_pos (by simpa using h26)] at h2
      exact ⟨.inr (h2 _ (by simp)), .inr (h2 _ (by simp)), .inr (h2 _ (by simp))⟩
    rw [if_neg (by simpa using h26)] at h2
    unfold opsOf at h2 ⊢
    rw [show (i.op == 26) = false by simpa using h26] at h2 ⊢
    split at h2
    · rename_i hc; simp only [hc, if_true]
      exact ⟨.inl (by simp), .inl (by simp), .inr (h2 _ (by simp))⟩
    · rename_i hc; simp only [hc, if_false]
      split at h2
      · rename_i hc; simp only [hc, if_true]
        exact ⟨.inl (by simp), .inr (h2 _ (by simp)), .inr (h2 _ (by simp))⟩
      · rename_i hc; simp only [hc, if_false]
        split at h2
        · rename_i hc; simp only [hc, if_true]
          exact ⟨.inl (by simp), .inl (by simp), .inl (by simp)⟩
        · rename_i hc; simp only [hc, if_false]
          exact ⟨.inr (h2 _ (by simp)), .inr (h2 _ (by simp)), .inr (h2 _ (by simp))⟩
  exact ⟨key _ hh.1, key _ hh.2.1, key _ hh.2.2⟩
theorem fn_z {f : XFunc} {n : Int} (h : funcOk f n = true) : ∀ b ∈ f.blocks, ∀ i ∈ b.insts, (i.op = 24 ∨ i.op = 25) → i.w = 0 := by
  intro b hb i hi ho
  have h1 := (inst_parts ((fn_block h b hb).2.1 i hi)).2.2.2
  unfold wFits at h1
  rw [if_pos (by rcases ho with e | e <;> simp [e])] at h1
  simpa using h1
theorem widthOf_nn {ids n : Int} {i : XInst} (h : instOk ids n i = true) : 0 ≤ widthOf i := by
  obtain ⟨-, -, -, h4⟩ := inst_parts h
  have hw : 0 ≤ i.w := by
    unfold wFits at h4
    split at h4
    · simp at h4; omega
    · split at h4
      · simp at h4; omega
      · exact Int.le_trans (by omega) (width_nn h4).1
  unfold widthOf resW
  repeat' split
  all_goals omega
theorem type_nn {f : XFunc} {n : Int} (h : funcOk f n = true) {id : Int} (h0 : 0 ≤ id) (h1 : id < countOf f) : 0 ≤ typeOf f id := by
  rcases typeOf_cases f id with ⟨h2, -⟩ | ⟨k, hk, -, h3, h2⟩ | ⟨k, hk, j, hj, h3, h2⟩ | ⟨k, hk, j, hj, h3, -, h2⟩
  · rcases placeOf_cases f id with ⟨-, h3⟩ | ⟨h3, -, -⟩ | ⟨k, hk, h3, -, -⟩
    · have := (isIdB_iff (countOf f) id).2 ⟨h0, h1⟩
      rw [h3] at this; cases this
    · rw [h3] at h2; simp at h2
    · rw [h3] at h2; simp at h2
  · rw [h2]
    exact Int.le_trans (by omega) (width_nn (fn_par h _ (List.getElem_mem _))).1
  · rw [h2]
    have := (fn_block h _ (List.getElem_mem hk)).1 _ (List.getElem_mem hj)
    unfold phiOk at this
    simp only [Bool.and_eq_true] at this
    exact Int.le_trans (by omega) (width_nn this.1.1).1
  · rw [h2]
    exact widthOf_nn ((fn_block h _ (List.getElem_mem hk)).2.1 _ (List.getElem_mem hj))
theorem s_TypeOfK (f : XFunc) (cs : List Value) (id n : Int) (w : World) (hf : KFunc lm w f cs) (hok : funcOk f n = true) (hid : id ≤ 9223372036854775807) : Calls Tryz.prog 149 #[.agg cs.toArray, .int .i64 id] w (Ret (.int .i64 (typeOf f id)) w) := s_TypeOf f cs id w hf hid (fn_z hok)
end Go.Proofs.YtkcgejbnhpccdaaGreat
