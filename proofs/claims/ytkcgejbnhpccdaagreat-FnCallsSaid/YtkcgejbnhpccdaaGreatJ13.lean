/- Contracts of the laws' functions that measure. No conditions. -/
import Derived.Test.YtkcgejbnhpccdaaGreatJ06
set_option linter.unusedSimpArgs false
set_option linter.unusedVariables false
namespace Go.Proofs.YtkcgejbnhpccdaaGreat
open Go.RowKit

theorem z_I (v : Value) (x : List Int) (left : Int) (w : World) (hv : RI lw w v x) (h0 : 0 ≤ left) (h1 : left ≤ 1048576) : Calls Tryz.prog 68 #[v, .int .i64 left] w (Ret (.int .i64 (sub left x.length)) w) := by
  obtain ⟨A, c, rfl, -, hl, -⟩ := hv.sw
  rcases sub_cases left x.length h0 with ⟨e, h⟩ | ⟨e, h, h'⟩
  all_goals
    rw [e]
    clear hv e
    go_enter Tryz.func68, Tryz.ntmps68
    go_wp2
    go_ret
    exact ⟨rfl, Below.refl _ _⟩

set_option maxHeartbeats 1000000 in
theorem z_Phi (x : XPhi) (cs : List Value) (left : Int) (w : World) (hk : KPhi lw w x cs) (h0 : 0 ≤ left) (h1 : left ≤ 1048576) : Calls Tryz.prog 220 #[.agg cs.toArray, .int .i64 left] w (Ret (.int .i64 (sub left (wPhi x))) w) := by
  obtain ⟨v1, rfl, r1⟩ := hk
  have hbl := fun o => (Below.refl w.heap.size w).al (Nat.le_refl _) o
  have z1 := fun W hW => z_I v1 x.ins left W (r1.mv hW) h0 h1
  unfold wPhi
  generalize x.ins.length = n1 at *
  rcases sub_cases left n1 h0 with ⟨e1, q1⟩ | ⟨e1, q1, q1'⟩
  · rw [e1] at z1
    rw [sub_lt left (n1) (by omega)]
    clear e1
    go_enter Tryz.func220, Tryz.ntmps220
    go_wp2_with fail
    refine (z1 _ (hbl _)).mono ?_; rintro e w1 ⟨rfl, hb1⟩
    go_wp2
    go_ret
    exact ⟨rfl, (hbl _).then hb1⟩
  · rw [e1] at z1 ⊢
    clear e1
    go_enter Tryz.func220, Tryz.ntmps220
    go_wp2_with fail
    refine (z1 _ (hbl _)).mono ?_; rintro e w1 ⟨rfl, hb1⟩
    go_wp2
    go_ret
    exact ⟨rfl, (hbl _).then hb1⟩
set_option maxHeartbeats 1000000 in
theorem z_PhiS (v : Value) (xs : List XPhi) (left : Int) (w : World) (hv : Rd lw 2 (KPhi lw) w v xs) (h0 : 0 ≤ left) (h1 : left ≤ 1048576) : Calls Tryz.prog 196 #[v, .int .i64 left] w (Ret (.int .i64 (sub left (wL wPhi xs))) w) := by
  obtain ⟨A, c, rfl, -, hl, hv0⟩ := hv.sw
  clear hv
  have hsum := Hd.mk (show wL wPhi xs = xs.length + (xs.map wPhi).sum from rfl)
  generalize hR : sub left (wL wPhi xs) = R at *
  have hR' := Hd.mk hR
  clear hR
  by_cases hlen : left < xs.length
  · have e := hR'.out
    rw [sub_lt _ _ (by have := hsum.out; omega)] at e
    subst e
    go_enter Tryz.func196, Tryz.ntmps196
    go_wp2
    go_ret
    exact ⟨rfl, Below.refl _ _⟩
  go_enter Tryz.func196, Tryz.ntmps196
  go_wp2
  go_loopw [1, 5] (fun s1 s5 wr => ∃ k : Nat, k ≤ xs.length ∧ s5 = .int .i64 k ∧ s1 = .int .i64 (left - (xs.length + ((xs.take k).map wPhi).sum : Nat)) ∧ Hd (((xs.length + ((xs.take k).map wPhi).sum : Nat) : Int) ≤ left) ∧ Hd (Below w.heap.size w wr)) (fun _ s5 _ => xs.length - (intOf s5).toNat)
  case atStart => exact ⟨0, Nat.zero_le _, rfl, by simp, ⟨by simp; omega⟩, ⟨Below.refl _ _⟩⟩
  case round =>
    obtain ⟨k, hk, rfl, rfl, hle, hbr⟩ := hrel
    by_cases hlt : k < xs.length
    · obtain ⟨b, off, cs, hA, hbl, ⟨v1, rfl, r1⟩, hat⟩ := hv0.out.in0 hbr.out k hlt
      cases hA
      have g0 := hat 0 _ rfl
      have g1 := hat 1 _ rfl
      simp at g0 g1
      clear hat
      have hsn := Hd.mk (wL_snoc wPhi xs k hlt)
      have hpl := Hd.mk (wL_le wPhi xs (k + 1))
      have hle' := hle.out
      generalize ((xs.take k).map wPhi).sum = s at *
      have hz := z_Phi xs[k] _ (left - (xs.length + s : Nat)) wr ⟨v1, rfl, r1.mv hbr.out⟩ (by omega) (by omega)
      generalize wPhi xs[k] = q at *
      generalize hp : xs.length + s = p at *
      have hp' := Hd.mk hp
      clear hp
      rw [sub_add left p q hle'] at hz
      rcases sub_cases left (p + q) h0 with ⟨e, h⟩ | ⟨e, h, h'⟩
      · rw [e] at hz
        have e2 := hR'.out
        rw [sub_lt _ _ (by have := hsum.out; have := hsn.out; have := hpl.out; have := hp'.out; omega)] at e2
        subst e2
        clear e
        go_wp2_with fail
        refine hz.mono ?_; rintro e w1 ⟨rfl, hb1⟩
        go_wp2
        go_ret
        exact ⟨rfl, hbr.out.then hb1⟩
      · rw [e] at hz
        clear e
        go_wp2_with fail
        refine hz.mono ?_; rintro e w1 ⟨rfl, hb1⟩
        have hbz := Hd.mk (hbr.out.then hb1)
        clear hb1 hz
        go_wp2
        go_roundw
        case rel => exact ⟨k + 1, by omega, by go_num, by rw [hsn.out, ← Nat.add_assoc, hp'.out]; simp, ⟨by rw [hsn.out, ← Nat.add_assoc, hp'.out]; omega⟩, hbz⟩
        case measure => simp [intOf]; omega
    · have e : k = xs.length := by omega
      subst e
      rw [List.take_length] at hle
      have e2 := hR'.out
      rcases sub_cases left (wL wPhi xs) h0 with ⟨e, h⟩ | ⟨e, h, h'⟩
      · exfalso
        have := hsum.out
        have := hle.out
        omega
      · rw [e, hsum.out] at e2
        go_wp2
        go_ret
        exact ⟨by rw [List.take_length]; exact congrArg (fun z => Ending.returned (.int .i64 z)) e2, hbr.out⟩

set_option maxHeartbeats 1000000 in
theorem z_Inst (x : XInst) (cs : List Value) (left : Int) (w : World) (hk : KInst lw w x cs) (h0 : 0 ≤ left) (h1 : left ≤ 1048576) : Calls Tryz.prog 221 #[.agg cs.toArray, .int .i64 left] w (Ret (.int .i64 (sub left (wInst x))) w) := by
  obtain ⟨v1, rfl, r1⟩ := hk
  have hbl := fun o => (Below.refl w.heap.size w).al (Nat.le_refl _) o
  have z1 := fun W hW => z_I v1 x.args left W (r1.mv hW) h0 h1
  unfold wInst
  generalize x.args.length = n1 at *
  rcases sub_cases left n1 h0 with ⟨e1, q1⟩ | ⟨e1, q1, q1'⟩
  · rw [e1] at z1
    rw [sub_lt left (n1) (by omega)]
    clear e1
    go_enter Tryz.func221, Tryz.ntmps221
    go_wp2_with fail
    refine (z1 _ (hbl _)).mono ?_; rintro e w1 ⟨rfl, hb1⟩
    go_wp2
    go_ret
    exact ⟨rfl, (hbl _).then hb1⟩
  · rw [e1] at z1 ⊢
    clear e1
    go_enter Tryz.func221, Tryz.ntmps221
    go_wp2_with fail
    refine (z1 _ (hbl _)).mono ?_; rintro e w1 ⟨rfl, hb1⟩
    go_wp2
    go_ret
    exact ⟨rfl, (hbl _).then hb1⟩
set_option maxHeartbeats 1000000 in
theorem z_InstS (v : Value) (xs : List XInst) (left : Int) (w : World) (hv : Rd lw 7 (KInst lw) w v xs) (h0 : 0 ≤ left) (h1 : left ≤ 1048576) : Calls Tryz.prog 197 #[v, .int .i64 left] w (Ret (.int .i64 (sub left (wL wInst xs))) w) := by
  obtain ⟨A, c, rfl, -, hl, hv0⟩ := hv.sw
  clear hv
  have hsum := Hd.mk (show wL wInst xs = xs.length + (xs.map wInst).sum from rfl)
  generalize hR : sub left (wL wInst xs) = R at *
  have hR' := Hd.mk hR
  clear hR
  by_cases hlen : left < xs.length
  · have e := hR'.out
    rw [sub_lt _ _ (by have := hsum.out; omega)] at e
    subst e
    go_enter Tryz.func197, Tryz.ntmps197
    go_wp2
    go_ret
    exact ⟨rfl, Below.refl _ _⟩
  go_enter Tryz.func197, Tryz.ntmps197
  go_wp2
  go_loopw [1, 5] (fun s1 s5 wr => ∃ k : Nat, k ≤ xs.length ∧ s5 = .int .i64 k ∧ s1 = .int .i64 (left - (xs.length + ((xs.take k).map wInst).sum : Nat)) ∧ Hd (((xs.length + ((xs.take k).map wInst).sum : Nat) : Int) ≤ left) ∧ Hd (Below w.heap.size w wr)) (fun _ s5 _ => xs.length - (intOf s5).toNat)
  case atStart => exact ⟨0, Nat.zero_le _, rfl, by simp, ⟨by simp; omega⟩, ⟨Below.refl _ _⟩⟩
  case round =>
    obtain ⟨k, hk, rfl, rfl, hle, hbr⟩ := hrel
    by_cases hlt : k < xs.length
    · obtain ⟨b, off, cs, hA, hbl, ⟨v1, rfl, r1⟩, hat⟩ := hv0.out.in0 hbr.out k hlt
      cases hA
      have g0 := hat 0 _ rfl
      have g1 := hat 1 _ rfl
      have g2 := hat 2 _ rfl
      have g3 := hat 3 _ rfl
      have g4 := hat 4 _ rfl
      have g5 := hat 5 _ rfl
      have g6 := hat 6 _ rfl
      simp at g0 g1 g2 g3 g4 g5 g6
      clear hat
      have hsn := Hd.mk (wL_snoc wInst xs k hlt)
      have hpl := Hd.mk (wL_le wInst xs (k + 1))
      have hle' := hle.out
      generalize ((xs.take k).map wInst).sum = s at *
      have hz := z_Inst xs[k] _ (left - (xs.length + s : Nat)) wr ⟨v1, rfl, r1.mv hbr.out⟩ (by omega) (by omega)
      generalize wInst xs[k] = q at *
      generalize hp : xs.length + s = p at *
      have hp' := Hd.mk hp
      clear hp
      rw [sub_add left p q hle'] at hz
      rcases sub_cases left (p + q) h0 with ⟨e, h⟩ | ⟨e, h, h'⟩
      · rw [e] at hz
        have e2 := hR'.out
        rw [sub_lt _ _ (by have := hsum.out; have := hsn.out; have := hpl.out; have := hp'.out; omega)] at e2
        subst e2
        clear e
        go_wp2_with fail
        refine hz.mono ?_; rintro e w1 ⟨rfl, hb1⟩
        go_wp2
        go_ret
        exact ⟨rfl, hbr.out.then hb1⟩
      · rw [e] at hz
        clear e
        go_wp2_with fail
        refine hz.mono ?_; rintro e w1 ⟨rfl, hb1⟩
        have hbz := Hd.mk (hbr.out.then hb1)
        clear hb1 hz
        go_wp2
        go_roundw
        case rel => exact ⟨k + 1, by omega, by go_num, by rw [hsn.out, ← Nat.add_assoc, hp'.out]; simp, ⟨by rw [hsn.out, ← Nat.add_assoc, hp'.out]; omega⟩, hbz⟩
        case measure => simp [intOf]; omega
    · have e : k = xs.length := by omega
      subst e
      rw [List.take_length] at hle
      have e2 := hR'.out
      rcases sub_cases left (wL wInst xs) h0 with ⟨e, h⟩ | ⟨e, h, h'⟩
      · exfalso
        have := hsum.out
        have := hle.out
        omega
      · rw [e, hsum.out] at e2
        go_wp2
        go_ret
        exact ⟨by rw [List.take_length]; exact congrArg (fun z => Ending.returned (.int .i64 z)) e2, hbr.out⟩

set_option maxHeartbeats 1000000 in
theorem z_Block (x : XBlock) (cs : List Value) (left : Int) (w : World) (hk : KBlock lw w x cs) (h0 : 0 ≤ left) (h1 : left ≤ 1048576) : Calls Tryz.prog 161 #[.agg cs.toArray, .int .i64 left] w (Ret (.int .i64 (sub left (wBlock x))) w) := by
  obtain ⟨v1, v2, rfl, r1, r2⟩ := hk
  have hbl := fun o => (Below.refl w.heap.size w).al (Nat.le_refl _) o
  have z1 := fun W hW => z_PhiS v1 x.phis left W (r1.mv hW) h0 h1
  have z2 := fun W hW left h0 h1 => z_InstS v2 x.insts left W (r2.mv hW) h0 h1
  unfold wBlock
  generalize wL wPhi x.phis = n1 at *
  generalize wL wInst x.insts = n2 at *
  rcases sub_cases left n1 h0 with ⟨e1, q1⟩ | ⟨e1, q1, q1'⟩
  · rw [e1] at z1
    rw [sub_lt left (n1 + n2) (by omega)]
    clear e1
    go_enter Tryz.func161, Tryz.ntmps161
    go_wp2_with fail
    refine (z1 _ (hbl _)).mono ?_; rintro e w1 ⟨rfl, hb1⟩
    go_wp2
    go_ret
    exact ⟨rfl, (hbl _).then hb1⟩
  · rw [e1] at z1
    rw [← sub_add left n1 n2 q1']
    replace z2 := fun W hW => z2 W hW (left - n1) q1 (by omega)
    clear e1
    generalize left - (n1 : Int) = l1 at *
    rcases sub_cases l1 n2 q1 with ⟨e2, q2⟩ | ⟨e2, q2, q2'⟩
    all_goals
      rw [e2] at z2 ⊢
      clear e2
      go_enter Tryz.func161, Tryz.ntmps161
      go_wp2_with fail
      refine (z1 _ (hbl _)).mono ?_; rintro e w1 ⟨rfl, hb1⟩
      have k0 := bat hb1 w.heap.size (by simp)
      simp at k0
      have hbw := Hd.mk ((hbl _).then hb1)
      go_wp2_with fail
      refine (z2 _ hbw.out).mono ?_; rintro e w2 ⟨rfl, hb2⟩
      go_wp2
      go_ret
      exact ⟨rfl, hbw.out.then hb2⟩
set_option maxHeartbeats 1000000 in
theorem z_BlockS (v : Value) (xs : List XBlock) (left : Int) (w : World) (hv : Rd lw 6 (KBlock lw) w v xs) (h0 : 0 ≤ left) (h1 : left ≤ 1048576) : Calls Tryz.prog 121 #[v, .int .i64 left] w (Ret (.int .i64 (sub left (wL wBlock xs))) w) := by
  obtain ⟨A, c, rfl, -, hl, hv0⟩ := hv.sw
  clear hv
  have hsum := Hd.mk (show wL wBlock xs = xs.length + (xs.map wBlock).sum from rfl)
  generalize hR : sub left (wL wBlock xs) = R at *
  have hR' := Hd.mk hR
  clear hR
  by_cases hlen : left < xs.length
  · have e := hR'.out
    rw [sub_lt _ _ (by have := hsum.out; omega)] at e
    subst e
    go_enter Tryz.func121, Tryz.ntmps121
    go_wp2
    go_ret
    exact ⟨rfl, Below.refl _ _⟩
  go_enter Tryz.func121, Tryz.ntmps121
  go_wp2
  go_loopw [1, 5] (fun s1 s5 wr => ∃ k : Nat, k ≤ xs.length ∧ s5 = .int .i64 k ∧ s1 = .int .i64 (left - (xs.length + ((xs.take k).map wBlock).sum : Nat)) ∧ Hd (((xs.length + ((xs.take k).map wBlock).sum : Nat) : Int) ≤ left) ∧ Hd (Below w.heap.size w wr)) (fun _ s5 _ => xs.length - (intOf s5).toNat)
  case atStart => exact ⟨0, Nat.zero_le _, rfl, by simp, ⟨by simp; omega⟩, ⟨Below.refl _ _⟩⟩
  case round =>
    obtain ⟨k, hk, rfl, rfl, hle, hbr⟩ := hrel
    by_cases hlt : k < xs.length
    · obtain ⟨b, off, cs, hA, hbl, ⟨v1, v2, rfl, r1, r2⟩, hat⟩ := hv0.out.in0 hbr.out k hlt
      cases hA
      have g0 := hat 0 _ rfl
      have g1 := hat 1 _ rfl
      have g2 := hat 2 _ rfl
      have g3 := hat 3 _ rfl
      have g4 := hat 4 _ rfl
      have g5 := hat 5 _ rfl
      simp at g0 g1 g2 g3 g4 g5
      clear hat
      have hsn := Hd.mk (wL_snoc wBlock xs k hlt)
      have hpl := Hd.mk (wL_le wBlock xs (k + 1))
      have hle' := hle.out
      generalize ((xs.take k).map wBlock).sum = s at *
      have hz := z_Block xs[k] _ (left - (xs.length + s : Nat)) wr ⟨v1, v2, rfl, r1.mv hbr.out, r2.mv hbr.out⟩ (by omega) (by omega)
      generalize wBlock xs[k] = q at *
      generalize hp : xs.length + s = p at *
      have hp' := Hd.mk hp
      clear hp
      rw [sub_add left p q hle'] at hz
      rcases sub_cases left (p + q) h0 with ⟨e, h⟩ | ⟨e, h, h'⟩
      · rw [e] at hz
        have e2 := hR'.out
        rw [sub_lt _ _ (by have := hsum.out; have := hsn.out; have := hpl.out; have := hp'.out; omega)] at e2
        subst e2
        clear e
        go_wp2_with fail
        refine hz.mono ?_; rintro e w1 ⟨rfl, hb1⟩
        go_wp2
        go_ret
        exact ⟨rfl, hbr.out.then hb1⟩
      · rw [e] at hz
        clear e
        go_wp2_with fail
        refine hz.mono ?_; rintro e w1 ⟨rfl, hb1⟩
        have hbz := Hd.mk (hbr.out.then hb1)
        clear hb1 hz
        go_wp2
        go_roundw
        case rel => exact ⟨k + 1, by omega, by go_num, by rw [hsn.out, ← Nat.add_assoc, hp'.out]; simp, ⟨by rw [hsn.out, ← Nat.add_assoc, hp'.out]; omega⟩, hbz⟩
        case measure => simp [intOf]; omega
    · have e : k = xs.length := by omega
      subst e
      rw [List.take_length] at hle
      have e2 := hR'.out
      rcases sub_cases left (wL wBlock xs) h0 with ⟨e, h⟩ | ⟨e, h, h'⟩
      · exfalso
        have := hsum.out
        have := hle.out
        omega
      · rw [e, hsum.out] at e2
        go_wp2
        go_ret
        exact ⟨by rw [List.take_length]; exact congrArg (fun z => Ending.returned (.int .i64 z)) e2, hbr.out⟩

set_option maxHeartbeats 1000000 in
theorem z_Func (x : XFunc) (cs : List Value) (left : Int) (w : World) (hk : KFunc lw w x cs) (h0 : 0 ≤ left) (h1 : left ≤ 1048576) : Calls Tryz.prog 85 #[.agg cs.toArray, .int .i64 left] w (Ret (.int .i64 (sub left (wFunc x))) w) := by
  obtain ⟨v1, v2, rfl, r1, r2⟩ := hk
  have hbl := fun o => (Below.refl w.heap.size w).al (Nat.le_refl _) o
  have z1 := fun W hW => z_I v1 x.params left W (r1.mv hW) h0 h1
  have z2 := fun W hW left h0 h1 => z_BlockS v2 x.blocks left W (r2.mv hW) h0 h1
  unfold wFunc
  generalize x.params.length = n1 at *
  generalize wL wBlock x.blocks = n2 at *
  rcases sub_cases left n1 h0 with ⟨e1, q1⟩ | ⟨e1, q1, q1'⟩
  · rw [e1] at z1
    rw [sub_lt left (n1 + n2) (by omega)]
    clear e1
    go_enter Tryz.func85, Tryz.ntmps85
    go_wp2_with fail
    refine (z1 _ (hbl _)).mono ?_; rintro e w1 ⟨rfl, hb1⟩
    go_wp2
    go_ret
    exact ⟨rfl, (hbl _).then hb1⟩
  · rw [e1] at z1
    rw [← sub_add left n1 n2 q1']
    replace z2 := fun W hW => z2 W hW (left - n1) q1 (by omega)
    clear e1
    generalize left - (n1 : Int) = l1 at *
    rcases sub_cases l1 n2 q1 with ⟨e2, q2⟩ | ⟨e2, q2, q2'⟩
    all_goals
      rw [e2] at z2 ⊢
      clear e2
      go_enter Tryz.func85, Tryz.ntmps85
      go_wp2_with fail
      refine (z1 _ (hbl _)).mono ?_; rintro e w1 ⟨rfl, hb1⟩
      have k0 := bat hb1 w.heap.size (by simp)
      simp at k0
      have hbw := Hd.mk ((hbl _).then hb1)
      go_wp2_with fail
      refine (z2 _ hbw.out).mono ?_; rintro e w2 ⟨rfl, hb2⟩
      go_wp2
      go_ret
      exact ⟨rfl, hbw.out.then hb2⟩
end Go.Proofs.YtkcgejbnhpccdaaGreat
