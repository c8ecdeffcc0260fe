import Derived.Test.YtkcgejbnhpccdaaGreatJ24
import Derived.Test.YtkcgejbnhpccdaaGreatB01
import Derived.Test.YtkcgejbnhpccdaaGreatJ43
import Derived.Test.YtkcgejbnhpccdaaGreatJ44
set_option linter.unusedSimpArgs false
set_option linter.unusedVariables false
namespace Go.Proofs.YtkcgejbnhpccdaaGreat
open Go.RowKit
deriving instance DecidableEq for XOra
theorem ora_ext (a b c d a' b' c' d') : XOra.mk a b c d = XOra.mk a' b' c' d' ↔ a = a' ∧ b = b' ∧ c = c' ∧ d = d' := by
  constructor
  · intro h; injection h with h1 h2 h3 h4; exact ⟨h1, h2, h3, h4⟩
  · rintro ⟨rfl, rfl, rfl, rfl⟩; rfl
set_option maxHeartbeats 4000000 in
theorem e_Ora (x y : XOra) (cs ds : List Value) (w : World) (hx : KOracle lm w x cs) (hy : KOracle lm w y ds) : Calls Tryz.prog 40 #[.agg cs.toArray, .agg ds.toArray] w (Ret (.bool (decide (x = y))) w) := by
  obtain ⟨v1, v2, rfl, r1, r2⟩ := hx
  obtain ⟨u1, u2, rfl, s1, s2⟩ := hy
  have hbl := fun o o' => ((Below.refl w.heap.size w).al (Nat.le_refl _) o).al (by simp) o'
  obtain ⟨xf, xa, xm, xw⟩ := x
  obtain ⟨yf, ya, ym, yw⟩ := y
  simp only at *
  have z1 := fun W hW => e_I v1 u1 xa ya W (r1.mv hW) (s1.mv hW)
  have z2 := fun W hW => e_Res xw yw _ _ W ⟨v2, rfl, r2.mv hW⟩ ⟨u2, rfl, s2.mv hW⟩
  simp only [ora_ext]
  by_cases hf : xf = yf
  rotate_left
  · rw [decide_eq_false (fun e => hf e.1)]
    have d := bneT hf
    clear z1 z2
    go_enter Tryz.func40, Tryz.ntmps40
    go_wp2
    go_ret
    exact ⟨rfl, hbl _ _⟩
  subst hf
  by_cases ha : xa = ya
  rotate_left
  · rw [decide_eq_false (fun e => ha e.2.1)]
    simp only [decide_eq_false ha] at z1
    clear ha z2
    go_enter Tryz.func40, Tryz.ntmps40
    go_wp2_with fail
    refine (z1 _ (hbl _ _)).mono ?_; rintro e w1 ⟨rfl, hb1⟩
    have hbw1 := Hd.mk ((hbl _ _).then hb1)
    go_wp2
    go_ret
    exact ⟨rfl, hbw1.out⟩
  simp only [decide_eq_true ha] at z1
  by_cases hm : xm = ym
  rotate_left
  · rw [decide_eq_false (fun e => hm e.2.2.1)]
    have d : (xm.toList == ym.toList) = false := by rw [bytes_beq', decide_eq_false hm]
    clear ha z2
    go_enter Tryz.func40, Tryz.ntmps40
    go_wp2_with fail
    refine (z1 _ (hbl _ _)).mono ?_; rintro e w1 ⟨rfl, hb1⟩
    have k0 := bat hb1 w.heap.size (by simp; omega)
    have k1 := bat hb1 (w.heap.size + 1) (by simp)
    have hz1 := hb1.size
    simp at k0 k1 hz1
    have hbw1 := Hd.mk ((hbl _ _).then hb1)
    go_wp2
    go_ret
    exact ⟨rfl, hbw1.out⟩
  subst hm
  have hd : decide (xf = xf ∧ xa = ya ∧ xm = xm ∧ xw = yw) = decide (xw = yw) := by
    by_cases h : xw = yw
    · rw [decide_eq_true h, decide_eq_true ⟨rfl, ha, rfl, h⟩]
    · rw [decide_eq_false h, decide_eq_false fun e => h e.2.2.2]
  rw [hd]
  clear hd ha
  generalize decide (xw = yw) = T at *
  cases T
  all_goals
    go_enter Tryz.func40, Tryz.ntmps40
    go_wp2_with fail
    refine (z1 _ (hbl _ _)).mono ?_; rintro e w1 ⟨rfl, hb1⟩
    have k0 := bat hb1 w.heap.size (by simp; omega)
    have k1 := bat hb1 (w.heap.size + 1) (by simp)
    have hz1 := hb1.size
    simp at k0 k1 hz1
    have hbw1 := Hd.mk ((hbl _ _).then hb1)
    go_wp2_with fail
    refine (z2 _ hbw1.out).mono ?_; rintro e w2 ⟨rfl, hb2⟩
    go_wp2
    go_ret
    exact ⟨rfl, hbw1.out.then hb2⟩
end Go.Proofs.YtkcgejbnhpccdaaGreat
set_option linter.unusedSimpArgs false
set_option linter.unusedVariables false
namespace Go.Proofs.YtkcgejbnhpccdaaGreat
open Go.RowKit
set_option maxHeartbeats 1000000 in
theorem z_ModS (v : Value) (xs : List XMod) (left : Int) (w : World) (hv : Rd lw 1 (KMod lw) w v xs) (h0 : 0 ≤ left) (h1 : left ≤ 1048576) : Calls Tryz.prog 41 #[v, .int .i64 left] w (Ret (.int .i64 (sub left (wL wMod xs))) w) := by
  obtain ⟨A, c, rfl, -, hl, hv0⟩ := hv.sw
  clear hv
  have hsum := Hd.mk (show wL wMod xs = xs.length + (xs.map wMod).sum from rfl)
  generalize hR : sub left (wL wMod xs) = R at *
  have hR' := Hd.mk hR
  clear hR
  by_cases hlen : left < xs.length
  · have e := hR'.out
    rw [sub_lt _ _ (by have := hsum.out; omega)] at e
    subst e
    go_enter Tryz.func41, Tryz.ntmps41
    go_wp2
    go_ret
    exact ⟨rfl, Below.refl _ _⟩
  go_enter Tryz.func41, Tryz.ntmps41
  go_wp2
  go_loopw [1, 5] (fun s1 s5 wr => ∃ k : Nat, k ≤ xs.length ∧ s5 = .int .i64 k ∧ s1 = .int .i64 (left - (xs.length + ((xs.take k).map wMod).sum : Nat)) ∧ Hd (((xs.length + ((xs.take k).map wMod).sum : Nat) : Int) ≤ left) ∧ Hd (Below w.heap.size w wr)) (fun _ s5 _ => xs.length - (intOf s5).toNat)
  case atStart => exact ⟨0, Nat.zero_le _, rfl, by simp, ⟨by simp; omega⟩, ⟨Below.refl _ _⟩⟩
  case round =>
    obtain ⟨k, hk, rfl, rfl, hle, hbr⟩ := hrel
    by_cases hlt : k < xs.length
    · obtain ⟨b, off, cs, hA, hbl, ⟨v1, rfl, r1⟩, hat⟩ := hv0.out.in0 hbr.out k hlt
      cases hA
      have g0 := hat 0 _ rfl
      simp at g0
      clear hat
      have hsn := Hd.mk (wL_snoc wMod xs k hlt)
      have hpl := Hd.mk (wL_le wMod xs (k + 1))
      have hle' := hle.out
      generalize ((xs.take k).map wMod).sum = s at *
      have hz := z_Mod xs[k] _ (left - (xs.length + s : Nat)) wr ⟨v1, rfl, r1.mv hbr.out⟩ (by omega) (by omega)
      generalize wMod xs[k] = q at *
      generalize hp : xs.length + s = p at *
      have hp' := Hd.mk hp
      clear hp
      rw [sub_add left p q hle'] at hz
      rcases sub_cases left (p + q) h0 with ⟨e, h⟩ | ⟨e, h, h'⟩
      · rw [e] at hz
        have e2 := hR'.out
        rw [sub_lt _ _ (by have := hsum.out; have := hsn.out; have := hpl.out; have := hp'.out; omega)] at e2
        subst e2
        clear e
        go_wp2_with fail
        refine hz.mono ?_; rintro e w1 ⟨rfl, hb1⟩
        go_wp2
        go_ret
        exact ⟨rfl, hbr.out.then hb1⟩
      · rw [e] at hz
        clear e
        go_wp2_with fail
        refine hz.mono ?_; rintro e w1 ⟨rfl, hb1⟩
        have hbz := Hd.mk (hbr.out.then hb1)
        clear hb1 hz
        go_wp2
        go_roundw
        case rel => exact ⟨k + 1, by omega, by go_num, by rw [hsn.out, ← Nat.add_assoc, hp'.out]; simp, ⟨by rw [hsn.out, ← Nat.add_assoc, hp'.out]; omega⟩, hbz⟩
        case measure => simp [intOf]; omega
    · have e : k = xs.length := by omega
      subst e
      rw [List.take_length] at hle
      have e2 := hR'.out
      rcases sub_cases left (wL wMod xs) h0 with ⟨e, h⟩ | ⟨e, h, h'⟩
      · exfalso
        have := hsum.out
        have := hle.out
        omega
      · rw [e, hsum.out] at e2
        go_wp2
        go_ret
        exact ⟨by rw [List.take_length]; exact congrArg (fun z => Ending.returned (.int .i64 z)) e2, hbr.out⟩

end Go.Proofs.YtkcgejbnhpccdaaGreat
set_option linter.unusedSimpArgs false
set_option linter.unusedVariables false
namespace Go.Proofs.YtkcgejbnhpccdaaGreat
open Go.RowKit
section
variable {H : Type} {enc : TypeId × Value → H}
theorem cells_sModule : Tryz.prog.cellsOf 76 = 1 := by kernel_rfl
theorem op_sModule {W : World} {n : Nat} {cs : List Value} {y : DataW H × List MemPlace} (h : DataW.trod enc Tryz.prog W 0 (fun _ => true) true n 76 cs = some y) : ∃ v xs, cs = [v] ∧ Rd lw 1 (KMod lw) W v xs := op_slice Tryz.underlying76 cells_Module (by omega) op_Module h
end
end Go.Proofs.YtkcgejbnhpccdaaGreat
