import Derived.Test.YtkcgejbnhpccdaaGreatJ19
set_option linter.unusedSimpArgs false
set_option linter.unusedVariables false
namespace Go.Proofs.YtkcgejbnhpccdaaGreat
open Go.RowKit
def KInstQ (Q : XInst → Prop) (w : World) (x : XInst) (cs : List Value) : Prop := KInst lm w x cs ∧ Q x
instance {Q : XInst → Prop} : KM (KInstQ Q) := ⟨fun h hb => ⟨KM.mv h.1 hb, h.2⟩⟩
theorem Rd.withQ {w : World} {v : Value} {xs : List XInst} {Q : XInst → Prop} (h : Rd lm 7 (KInst lm) w v xs) (hq : ∀ x ∈ xs, Q x) : Rd lm 7 (KInstQ Q) w v xs := by
  obtain ⟨A, c, h0, h1, h2, h3, h4⟩ := h
  refine ⟨A, c, h0, h1, h2, h3, fun hp => ?_⟩
  obtain ⟨b, off, h5, h6, h7⟩ := h4 hp
  refine ⟨b, off, h5, h6, fun i hi => ?_⟩
  obtain ⟨cs, h8, h9⟩ := h7 i hi
  exact ⟨cs, ⟨h8, hq _ (List.getElem_mem hi)⟩, h9⟩
set_option maxHeartbeats 400000 in
theorem c_IdxInstQ (Q : XInst → Prop) (v : Value) (xs : List XInst) (g : Nat) (lb : Array Value) (p : XInst → Bool) (w : World) (hv : Rd lm 7 (KInstQ Q) w v xs)
    (eg : ∀ args w, (callFunc g args).run Tryz.prog w = .ok (.enter g args) w) (hp : PB Tryz.prog g lb (KInstQ Q) argN p w) :
    Calls Tryz.prog 177 #[v, .func (.func g) #[] lb] w (Ret (.int .i64 (idx p xs)) w) := by
  obtain ⟨A, c, rfl, h1, h2, hv0⟩ := hv.sm
  have hp' := Hd.mk hp
  clear hv hp
  go_enter Tryz.func177, Tryz.ntmps177
  go_wp2
  go_loopw [5, 8] (fun _ s8 wr => ∃ k : Nat, k ≤ xs.length ∧ s8 = .int .i64 k ∧ Hd (Below w.heap.size w wr) ∧ Hd (∀ j (h : j < xs.length), j < k → p xs[j] = false)) (fun _ s8 _ => xs.length - (intOf s8).toNat)
  case atStart => exact ⟨0, Nat.zero_le _, rfl, ⟨Below.refl _ w⟩, ⟨fun j _ h => absurd h (Nat.not_lt_zero _)⟩⟩
  case round =>
    obtain ⟨k, hk, rfl, hb, hn⟩ := hrel
    by_cases hlt : k < xs.length
    · obtain ⟨b, off, cs, hA, hbl, hkk, hat⟩ := hv0.out.in_ hb.out k hlt
      cases hA
      obtain ⟨⟨v1, rfl, hr⟩, hQ⟩ := hkk
      have g0 := hat 0 _ rfl
      have g1 := hat 1 _ rfl
      have g2 := hat 2 _ rfl
      have g3 := hat 3 _ rfl
      have g4 := hat 4 _ rfl
      have g5 := hat 5 _ rfl
      have g6 := hat 6 _ rfl
      simp at g0 g1 g2 g3 g4 g5 g6
      have hcall := hp'.out wr xs[k] _ hb.out ⟨⟨v1, rfl, hr⟩, hQ⟩
      clear hat
      cases hq : p xs[k] with
      | true =>
        rw [hq] at hcall
        have hq' := Hd.mk hq
        clear hq
        go_wp2_with (go_at_fn g; refine hcall.mono ?_; rintro e w' ⟨rfl, hb'⟩)
        go_ret
        exact ⟨by rw [idx_hit p xs k hlt hq'.out hn.out]; rfl, hb.out.then hb'⟩
      | false =>
        rw [hq] at hcall
        have hq' := Hd.mk hq
        clear hq
        go_wp2_with (go_at_fn g; refine hcall.mono ?_; rintro e w' ⟨rfl, hb'⟩)
        go_roundw
        case rel =>
          refine ⟨k + 1, by omega, by go_num, ⟨hb.out.then hb'⟩, ⟨fun j hj hjk => ?_⟩⟩
          by_cases e : j = k
          · subst e; exact hq'.out
          · exact hn.out j hj (by omega)
        case measure => simp [intOf]; omega
    · have e : k = xs.length := by omega
      subst e
      go_wp2
      go_ret
      exact ⟨by rw [idx_miss p xs (fun j hj => hn.out j hj hj)]; rfl, hb.out⟩
theorem c_ConInstQ (Q : XInst → Prop) (v : Value) (xs : List XInst) (g : Nat) (lb : Array Value) (p : XInst → Bool) (w : World) (hv : Rd lm 7 (KInstQ Q) w v xs)
    (eg : ∀ args w, (callFunc g args).run Tryz.prog w = .ok (.enter g args) w) (hp : PB Tryz.prog g lb (KInstQ Q) argN p w) :
    Calls Tryz.prog 132 #[v, .func (.func g) #[] lb] w (Ret (.bool (xs.any p)) w) := by
  rw [← idx_any]
  have hi := c_IdxInstQ Q v xs g lb p w hv eg hp
  clear hv eg hp
  go_enter Tryz.func132, Tryz.ntmps132
  go_wp2_with (go_at_call 177; refine hi.mono ?_; rintro e w' ⟨rfl, hb'⟩)
  go_ret
  exact ⟨rfl, hb'⟩
set_option maxHeartbeats 400000 in
theorem c_IdxFn (v : Value) (xs : List XFunc) (g : Nat) (lb : Array Value) (p : XFunc → Bool) (w : World) (hv : Rd lm 3 (KFunc lm) w v xs)
    (eg : ∀ args w, (callFunc g args).run Tryz.prog w = .ok (.enter g args) w) (hp : PB Tryz.prog g lb (KFunc lm) argN p w) :
    Calls Tryz.prog 164 #[v, .func (.func g) #[] lb] w (Ret (.int .i64 (idx p xs)) w) := by
  obtain ⟨A, c, rfl, h1, h2, hv0⟩ := hv.sm
  have hp' := Hd.mk hp
  clear hv hp
  go_enter Tryz.func164, Tryz.ntmps164
  go_wp2
  go_loopw [5, 8] (fun _ s8 wr => ∃ k : Nat, k ≤ xs.length ∧ s8 = .int .i64 k ∧ Hd (Below w.heap.size w wr) ∧ Hd (∀ j (h : j < xs.length), j < k → p xs[j] = false)) (fun _ s8 _ => xs.length - (intOf s8).toNat)
  case atStart => exact ⟨0, Nat.zero_le _, rfl, ⟨Below.refl _ w⟩, ⟨fun j _ h => absurd h (Nat.not_lt_zero _)⟩⟩
  case round =>
    obtain ⟨k, hk, rfl, hb, hn⟩ := hrel
    by_cases hlt : k < xs.length
    · obtain ⟨b, off, cs, hA, hbl, hkk, hat⟩ := hv0.out.in_ hb.out k hlt
      cases hA
      obtain ⟨v1, v2, rfl, hr, hr2⟩ := hkk
      obtain ⟨A5, c5, rfl, -, -, -⟩ := hr.sm
      obtain ⟨A6, c6, rfl, -, -, -⟩ := hr2.sm
      have g0 := hat 0 _ rfl
      have g1 := hat 1 _ rfl
      have g2 := hat 2 _ rfl
      simp at g0 g1 g2
      have hcall := hp'.out wr xs[k] _ hb.out ⟨_, _, rfl, hr, hr2⟩
      clear hat
      cases hq : p xs[k] with
      | true =>
        rw [hq] at hcall
        have hq' := Hd.mk hq
        clear hq
        go_wp2_with (go_at_fn g; refine hcall.mono ?_; rintro e w' ⟨rfl, hb'⟩)
        go_ret
        exact ⟨by rw [idx_hit p xs k hlt hq'.out hn.out]; rfl, hb.out.then hb'⟩
      | false =>
        rw [hq] at hcall
        have hq' := Hd.mk hq
        clear hq
        go_wp2_with (go_at_fn g; refine hcall.mono ?_; rintro e w' ⟨rfl, hb'⟩)
        go_roundw
        case rel =>
          refine ⟨k + 1, by omega, by go_num, ⟨hb.out.then hb'⟩, ⟨fun j hj hjk => ?_⟩⟩
          by_cases e : j = k
          · subst e; exact hq'.out
          · exact hn.out j hj (by omega)
        case measure => simp [intOf]; omega
    · have e : k = xs.length := by omega
      subst e
      go_wp2
      go_ret
      exact ⟨by rw [idx_miss p xs (fun j hj => hn.out j hj hj)]; rfl, hb.out⟩
theorem c_ConFn (v : Value) (xs : List XFunc) (g : Nat) (lb : Array Value) (p : XFunc → Bool) (w : World) (hv : Rd lm 3 (KFunc lm) w v xs)
    (eg : ∀ args w, (callFunc g args).run Tryz.prog w = .ok (.enter g args) w) (hp : PB Tryz.prog g lb (KFunc lm) argN p w) :
    Calls Tryz.prog 126 #[v, .func (.func g) #[] lb] w (Ret (.bool (xs.any p)) w) := by
  rw [← idx_any]
  have hi := c_IdxFn v xs g lb p w hv eg hp
  clear hv eg hp
  go_enter Tryz.func126, Tryz.ntmps126
  go_wp2_with (go_at_call 164; refine hi.mono ?_; rintro e w' ⟨rfl, hb'⟩)
  go_ret
  exact ⟨rfl, hb'⟩
/-- What is asked of a call: it names a function that is there. -/
def QCall (m : XMod) (i : XInst) : Prop := i.op = 26 → 0 ≤ i.imm ∧ i.imm < m.funcs.length
set_option maxHeartbeats 1000000 in
theorem c_checked1 (m : XMod) (f : XFunc) (i : XInst) (cs : List Value) (bm bf : Nat) (w : World) (hm : MB w bm m) (hf : FB w bf f) (hfo : Fo f) (hk : KInst lm w i cs) (hq : QCall m i) : Calls Tryz.prog 133 #[.agg cs.toArray, .pointer (some ⟨bm, 0, none⟩), .pointer (some ⟨bf, 0, none⟩)] w (Ret (.bool (i.op == 26 && !callOk m f i)) w) := by
  obtain ⟨v, rfl, hr⟩ := hk
  obtain ⟨A7, c7, rfl, -, -, -⟩ := hr.sm
  obtain ⟨A1, c1, A2, c2, q0, q1, q2, q3, q4⟩ := hf
  obtain ⟨Am, cm, p0, p1, p2⟩ := hm
  have hbl := fun o => (Below.refl w.heap.size w).al (Nat.le_refl _) o
  by_cases h26 : i.op = 26
  · have hc := fun W (hW : Below w.heap.size w W) => c_isCall m _ f _ i (.slice A7 i.args.length c7) W (KM.mv p1 hW) (KM.mv q3 hW) hfo (hr.mv hW) (hq h26)
    generalize callOk m f i = q at *
    obtain ⟨op, wd, a, b', c, imm, args⟩ := i
    simp only [instV] at *
    subst h26
    clear q3 p1 hr hq
    go_enter Tryz.func133, Tryz.ntmps133
    go_wp2_with fail
    refine (hc _ (hbl _)).mono ?_; rintro e w1 ⟨rfl, hb1⟩
    go_wp2
    go_ret
    exact ⟨by simp, (hbl _).then hb1⟩
  · have b1 := beqF h26
    rw [show (i.op == 26 && !callOk m f i) = false by rw [b1]; rfl]
    obtain ⟨op, wd, a, b', c, imm, args⟩ := i
    simp only at *
    clear q3 p1 hr hq
    go_enter Tryz.func133, Tryz.ntmps133
    go_wp2
    go_ret
    exact ⟨rfl, hbl _⟩
theorem pb_checked1 (W : World) (m : XMod) (f : XFunc) (bm bf : Nat) (hm : MB W bm m) (hf : FB W bf f) (hfo : Fo f) : PB Tryz.prog 133 #[.pointer (some ⟨bm, 0, none⟩), .pointer (some ⟨bf, 0, none⟩)] (KInstQ (QCall m)) argN (fun i => i.op == 26 && !callOk m f i) W := fun W' x cs hW hk =>
  c_checked1 m f x cs bm bf W' (hm.mv hW) (hf.mv hW) hfo hk.1 hk.2
theorem c_ShapeOk1 (f : XFunc) (cs : List Value) (n : Int) (b : Nat) (w : World) (hk : KFunc lm w f cs) (hb : NB w b n) (h0 : 0 ≤ n) (h1 : n ≤ 1048576) : Calls Tryz.prog 127 #[.agg cs.toArray, .pointer (some ⟨b, 0, none⟩)] w (Ret (.bool (!funcOk f n)) w) := by
  have hi := fun W hW => c_isFunc f cs n W (KM.mv hk hW) h0 h1
  obtain ⟨v1, v2, rfl, hr, hr2⟩ := hk
  obtain ⟨A1, c1, rfl, -, -, -⟩ := hr.sm
  obtain ⟨A2, c2, rfl, -, -, -⟩ := hr2.sm
  have hbl := fun o => (Below.refl w.heap.size w).al (Nat.le_refl _) o
  obtain ⟨hb1, hb2⟩ := hb
  clear hr hr2
  generalize funcOk f n = q at *
  go_enter Tryz.func127, Tryz.ntmps127
  go_wp2_with fail
  refine (hi _ (hbl _)).mono ?_; rintro e w1 ⟨rfl, hb1⟩
  go_wp2
  go_ret
  exact ⟨rfl, (hbl _).then hb1⟩
theorem pb_ShapeOk1 (W : World) (n : Int) (b : Nat) (hb : NB W b n) (h0 : 0 ≤ n) (h1 : n ≤ 1048576) : PB Tryz.prog 127 #[.pointer (some ⟨b, 0, none⟩)] (KFunc lm) argN (fun f => !funcOk f n) W := fun W' x cs hW hk =>
  c_ShapeOk1 x cs n b W' hk (hb.mv hW) h0 h1
set_option maxHeartbeats 1000000 in
theorem c_ShapeOk (m : XMod) (cs : List Value) (w : World) (hm : KMod lm w m cs) : Calls Tryz.prog 89 #[.agg cs.toArray] w (Ret (.bool (shapeOk m)) w) := by
  obtain ⟨v, rfl, hr⟩ := hm
  obtain ⟨A, c, rfl, hcc, hl, hr0⟩ := hr.sm
  clear hr
  have hbl := fun o o' => ((Below.refl w.heap.size w).al (Nat.le_refl _) o).al (by simp) o'
  have eg := enters_of Tryz.func127 (by kernel_rfl) rfl
  have hin := fun W => c_within (m.funcs.length : Int) 1 3 W
  obtain ⟨W0, hW0⟩ : ∃ W0 : World, W0 = (w.alloc (.cells #[.slice A m.funcs.length c] 38)).alloc (.cells #[.int .i64 m.funcs.length] 2) := ⟨_, rfl⟩
  have hB0 : Below w.heap.size w W0 := by rw [hW0]; exact hbl _ _
  have hz0 : W0.heap.size = w.heap.size + 2 := by rw [hW0]; simp
  have hnb : NB W0 (w.heap.size + 1) m.funcs.length := ⟨by rw [hW0]; exact new_cell _ _ _ (by simp) 0 _ rfl, by omega⟩
  have hcon := c_ConFn (.slice A m.funcs.length c) m.funcs _ _ (fun f => !funcOk f m.funcs.length) W0 (hr0.out.mv hB0) eg (pb_ShapeOk1 W0 _ _ hnb (by omega) (by omega))
  simp only [any_not] at hcon
  have hW0' := Hd.mk hW0
  have hB0' := Hd.mk hB0
  unfold shapeOk
  clear hW0 hB0 hnb
  generalize m.funcs.all (fun f => funcOk f m.funcs.length) = q2 at *
  generalize m.funcs.length = n at *
  have e1 : IntKind.i64.wrap (n : Int) = (n : Int) := IntWalk.i64_in _ (by omega)
  generalize inR (n : Int) 1 3 = q1 at *
  cases q1 with
  | false =>
    go_enter Tryz.func89, Tryz.ntmps89
    go_wp2_with fail
    rw [← hW0'.out]
    refine (hin _).mono ?_; rintro e w1 ⟨rfl, rfl⟩
    go_wp2
    go_ret
    exact ⟨rfl, hB0'.out⟩
  | true =>
    go_enter Tryz.func89, Tryz.ntmps89
    go_wp2_with fail
    rw [← hW0'.out]
    refine (hin _).mono ?_; rintro e w1 ⟨rfl, rfl⟩
    have x0 : W0.cell? ⟨w.heap.size, 0, none⟩ = some (.slice A n c) := by rw [hW0'.out]; simp
    go_wp2_with fail
    refine hcon.mono ?_; rintro e w1 ⟨rfl, hb1⟩
    go_wp2
    go_ret
    exact ⟨by simp, hB0'.out.then hb1⟩
end Go.Proofs.YtkcgejbnhpccdaaGreat
