import Derived.Test.YtkcgejbnhpccdaaGreatJ24
import Derived.Test.YtkcgejbnhpccdaaGreatJ44
import Derived.Test.YtkcgejbnhpccdaaGreatB02
import Derived.Test.YtkcgejbnhpccdaaGreatB03
import Derived.Test.YtkcgejbnhpccdaaGreatB04
import Derived.Deep.RegionHeld3
import Derived.Test.YtkcgejbnhpccdaaGreatRows
import Derived.WalkKit
import Derived.ProofKit
import Derived.OpenShut
import Derived.ShutString
import Derived.ChangeOld
import Derived.Below
set_option linter.unusedSimpArgs false
set_option linter.unusedVariables false
namespace Go.Proofs.YtkcgejbnhpccdaaGreat
open Go.RowKit

abbrev OwMod (lo : Nat) (w : World) (v : Value) (xs : List XMod) : Prop := Own lo 38 1 (OMod lo) w v xs
theorem infoMod : (Tryz.prog.info? 38).map (fun i => (i.zero, i.size, i.bytes)) = some (some (.agg #[.slice none 0 0]), 1, 24) := by kernel_rfl
set_option maxHeartbeats 4000000 in
theorem t_ModS (v : Value) (x : List XMod) (w : World) (hv : Rd lm 1 (KMod lm) w v x) : Calls Tryz.prog 42 #[v] w (RetL 38 1 OMod x w) := by
  obtain ⟨A, c, rfl, -, hl, hv0⟩ := hv.sm
  clear hv
  have hmk := mk_run 53 38 (.agg #[.slice none 0 0]) 1 24 x.length Tryz.underlying53 infoMod (by omega) (by omega)
  rw [Nat.mul_one] at hmk
  go_enter Tryz.func42, Tryz.ntmps42
  go_wp2
  have hst := (mk_own w w.heap.size 38 1 x.length #[.slice none 0 0] (Nat.le_refl _) (by unfold maxLen; omega))
  rw [Nat.mul_one] at hst
  clear hmk
  generalize hmc : madeCells #[.slice none 0 0] (x.length) = mc at *
  clear hmc
  go_loopw [4] (fun s4 wr => ∃ k : Nat, ∃ cells, k ≤ x.length ∧ s4 = .int .i64 k ∧ Hd (wr.ownsRow w.heap.size 38 1 (.slice (some ⟨w.heap.size, 0, none⟩) x.length x.length) x.length cells) ∧ Hd (Els 1 (OMod (w.heap.size + 1) wr) cells x k) ∧ Hd (Below w.heap.size w wr)) (fun s4 _ => x.length - (intOf s4).toNat)
  case atStart => exact ⟨0, _, Nat.zero_le _, rfl, ⟨hst⟩, ⟨Els.nil _ _ _ _⟩, ⟨(Below.refl _ _).al (Nat.le_refl _) _⟩⟩
  case round =>
    clear hst
    obtain ⟨k, cells, hk, rfl, ho, hels, hbr⟩ := hrel
    by_cases hlt : k < x.length
    · obtain ⟨b, off, cs, hA, hbl, hkk, hat⟩ := hv0.out.in0 hbr.out k hlt
      cases hA
      have hsm := Hd.mk hbr.out.size
      have htc := fun W hW => t_Mod x[k] cs W (KM.mv hkk (hbr.out.then hW))
      obtain ⟨vfuncs, rfl, hfuncs⟩ := hkk
      obtain ⟨Afuncs, cfuncs, rfl, -, hlfuncs, -⟩ := hfuncs.sm
      have g0 := hat 0 _ rfl
      simp at g0
      clear hat
      have hG := Hd.mk (own_lt ho.out)
      obtain ⟨u0, q0⟩ := own_cell ho.out k (by omega)
      have z0 := World.ownsRow.frozenAt ho.out k
      go_wp2_with fail
      refine (htc _ (Below.refl _ _)).mono ?_; rintro e w1 ⟨cs1, rfl, hcs, hb1⟩
      obtain ⟨nfuncs, rfl, rfuncs⟩ := hcs
      obtain ⟨Bfuncs, dfuncs, rfl, pfuncs⟩ := own_sw rfuncs
      clear rfuncs
      replace q0 := (bat hb1 w.heap.size hG.out.2 k).trans q0
      replace z0 := (fat hb1 w.heap.size hG.out.2 k).trans z0
      go_wp2
      go_roundw
      case rel =>
        obtain ⟨cells', h1, h2, h3⟩ := rel_step [.slice Bfuncs x[k].funcs.length dfuncs] ho.out hels.out (Nat.lt_succ_self _) (Nat.le_refl _) hbr.out hsm.out hb1 hlt rfl (KA.low (show OMod wr.heap.size w1 x[k] _ from ⟨_, rfl, pfuncs.out⟩) hG.out.2)
        rw [Nat.mul_one] at h1 h2 h3
        exact ⟨k + 1, cells', by omega, by go_num, ⟨h1⟩, ⟨h2⟩, ⟨h3⟩⟩
      case measure => simp [intOf]; omega
    · have e : k = x.length := by omega
      subst e
      go_wp2
      go_ret
      exact ⟨_, rfl, ⟨cells, ho.out, hels.out.imp fun _ _ hh => KA.low hh (Nat.le_succ _)⟩, hbr.out⟩
end Go.Proofs.YtkcgejbnhpccdaaGreat
set_option linter.unusedSimpArgs false
set_option linter.unusedVariables false
namespace Go.Proofs.YtkcgejbnhpccdaaGreat
open Go.RowKit
set_option maxHeartbeats 4000000 in
set_option maxRecDepth 100000 in
theorem e_ModS (v u : Value) (xs ys : List XMod) (w : World) (hv : Rd lm 1 (KMod lm) w v xs) (hu : Rd lm 1 (KMod lm) w u ys) : Calls Tryz.prog 43 #[v, u] w (Ret (.bool (decide (xs = ys))) w) := by
  obtain ⟨A1, c1, rfl, -, hl1, hv0⟩ := hv.sm
  obtain ⟨A2, c2, rfl, -, hl2, hu0⟩ := hu.sm
  clear hv hu
  by_cases hlen : xs.length = ys.length
  rotate_left
  · rw [decide_eq_false (len_ne hlen)]
    have d : ((xs.length : Int) != (ys.length : Int)) = true := by simp; omega
    go_enter Tryz.func43, Tryz.ntmps43
    go_wp2
    go_ret
    exact ⟨rfl, Below.refl _ _⟩
  obtain ⟨n, hn⟩ : ∃ n, n = xs.length := ⟨_, rfl⟩
  have hn2 : n = ys.length := hn.trans hlen
  rw [← hn, ← hn2]
  rw [← hn] at hv0 hl1
  rw [← hn2] at hu0
  have hn' := Hd.mk hn
  have hn2' := Hd.mk hn2
  clear hn hn2 hlen hl2
  go_enter Tryz.func43, Tryz.ntmps43
  go_wp2
  go_loopw [5] (fun s5 wr => ∃ k : Nat, k ≤ n ∧ s5 = .int .i64 k ∧ Hd (xs.take k = ys.take k) ∧ Hd (Below w.heap.size w wr)) (fun s5 _ => n - (intOf s5).toNat)
  case atStart => exact ⟨0, Nat.zero_le _, rfl, ⟨by simp⟩, ⟨Below.refl _ _⟩⟩
  case round =>
    obtain ⟨k, hk, rfl, hall, hbr⟩ := hrel
    by_cases hlt : k < n
    · obtain ⟨b, off, cs, hA, hbl, ⟨v1, rfl, r1⟩, hat⟩ := hv0.out.in0 hbr.out k (by have := hn'.out; omega)
      cases hA
      have g0 := hat 0 _ rfl
      simp at g0
      clear hat
      obtain ⟨b2, off2, cs, hA, hbl2, ⟨u1, rfl, s1⟩, hat⟩ := hu0.out.in0 hbr.out k (by have := hn2'.out; omega)
      cases hA
      have f0 := hat 0 _ rfl
      simp at f0
      clear hat
      have hz : (k : Int) < (n : Int) := by omega
      have hz0 : (0 : Int) ≤ (k : Int) := by omega
      have hex0 := fun W (hW : Below wr.heap.size wr W) => e_Mod (xs[k]'(by have := hn'.out; omega)) (ys[k]'(by have := hn2'.out; omega)) _ _ W ⟨v1, rfl, r1.mv (hbr.out.then hW)⟩ ⟨u1, rfl, s1.mv (hbr.out.then hW)⟩
      have hdr : Below wr.heap.size wr wr.drew := (Below.refl _ _).drew
      by_cases he : xs[k]'(by have := hn'.out; omega) = ys[k]'(by have := hn2'.out; omega)
      · have ht := Hd.mk (take_eq hall.out (by have := hn'.out; omega) (by have := hn2'.out; omega) he)
        simp only [decide_eq_true he] at hex0
        have hex := Hd.mk hex0
        clear he hex0
        generalize xs[k]'_ = x at *
        generalize ys[k]'_ = y at *
        go_wp2
        go_still_tail 8, (by kernel_rfl)
        change wpList _ _ _ _ _ wr.drew
        go_wp2_with fail
        refine (hex.out _ hdr).mono ?_; rintro e w1 ⟨rfl, hb1⟩
        have hbz := Hd.mk (hbr.out.then (hdr.then hb1))
        clear hb1 hex hdr
        go_wp2
        go_roundw
        case rel => exact ⟨k + 1, by omega, by go_num, ht, hbz⟩
        case measure => simp [intOf]; omega
      · have hne := Hd.mk (el_ne _ _ he)
        simp only [decide_eq_false he] at hex0
        have hex := Hd.mk hex0
        clear he hex0
        generalize xs[k]'_ = x at *
        generalize ys[k]'_ = y at *
        go_wp2
        go_still_tail 8, (by kernel_rfl)
        change wpList _ _ _ _ _ wr.drew
        go_wp2_with fail
        refine (hex.out _ hdr).mono ?_; rintro e w1 ⟨rfl, hb1⟩
        have hbz := Hd.mk (hbr.out.then (hdr.then hb1))
        clear hb1 hex hdr
        go_wp2
        go_ret
        exact ⟨by rw [decide_eq_false hne.out]; rfl, hbz.out⟩
    · have e : k = n := by omega
      subst e
      go_wp2
      go_ret
      exact ⟨by rw [decide_eq_true (take_all hall.out hn'.out hn2'.out)]; rfl, hbr.out⟩

end Go.Proofs.YtkcgejbnhpccdaaGreat
set_option linter.unusedSimpArgs false
set_option linter.unusedVariables false
namespace Go.Proofs.YtkcgejbnhpccdaaGreat
open Go.RowKit
def RetT7 (w : World) (e : Ending) (w' : World) : Prop := e = .returned (.bool true) ∧ Below w.heap.size w w'
theorem undrew7 {w w' : World} (h : Below w.drew.heap.size w.drew w') : Below w.heap.size w w' := ⟨h.os, h.tape, h.output, h.size, h.block⟩
theorem redrew7 {B : Nat} {w w' : World} (h : Below B w w') : Below B w w'.drew := ⟨h.os, h.tape, h.output, h.size, h.block⟩
theorem o_mods {lo : Nat} {w : World} {v : Value} {l : List XMod} (h : Own lo 38 1 (OMod lo) w v l) (hw : wL wMod l ≤ lm) : Rd lm 1 (KMod lm) w v l := h.rdm (fun x hx _ hk => o_mod hk (Nat.le_trans (wL_mem _ _ _ hx) hw)) (by unfold wL at hw; omega)
theorem nar_mods {w : World} {v : Value} {l : List XMod} (h : Rd lw 1 (KMod lw) w v l) (hw : wL wMod l ≤ lm) : Rd lm 1 (KMod lm) w v l := h.nar (by unfold wL at hw; omega) fun x hx _ hk => nar_mod hk (Nat.le_trans (wL_mem _ _ _ hx) hw)
set_option maxRecDepth 20000 in
set_option maxHeartbeats 8000000 in
theorem f_ExactFirstBad (v : Value) (l : List XMod) (o : XOra) (co : List Value) (w : World) (hx : Rd lw 1 (KMod lw) w v l) (ho : KOraW w o co) : Calls Tryz.prog 12 #[v, .agg co.toArray] w (RetT7 w) := by
  have hbl := fun o => (Below.refl w.heap.size w).al (Nat.le_refl _) o
  have hz := fun W hW => z_ModS v l 1048576 W (Rd.mv hx hW) (by omega) (by omega)
  rcases sub_cases 1048576 (wL wMod l) (by omega) with ⟨e, h⟩ | ⟨e, h, h'⟩
  · rw [e] at hz
    obtain ⟨u1, A1, rfl, -⟩ := hx.sh
    obtain ⟨⟨u1, u2, rfl, -, -⟩, -, -⟩ := ho
    clear e
    go_enter Tryz.func12, Tryz.ntmps12
    go_wp2_with fail
    refine (hz _ (hbl _)).mono ?_; rintro e w1 ⟨rfl, hb1⟩
    go_wp2
    go_ret
    exact ⟨rfl, (hbl _).then hb1⟩
  have hw : wL wMod l ≤ lm := by show _ ≤ 1048576; omega
  rw [e] at hz
  clear e
  have hx' := nar_mods hx hw
  have hneg : decide ((1048576 : Int) - wL wMod l < 0) = false := by simp; omega
  have hle : (1048576 : Int) - wL wMod l ≤ 1048576 := by omega
  generalize (1048576 : Int) - wL wMod l = left at *
  have hz2 := fun W hW => z_Ora o co left W ⟨KM.mv ho.1 hW, ho.2⟩ h hle
  rcases sub_cases left (wOra o) h with ⟨e, h2⟩ | ⟨e, h2, h2'⟩
  · rw [e] at hz2
    obtain ⟨u1, A1, rfl, -⟩ := hx.sh
    obtain ⟨⟨u1, u2, rfl, -, -⟩, -, -⟩ := ho
    clear e hx'
    go_enter Tryz.func12, Tryz.ntmps12
    go_wp2_with fail
    refine (hz _ (hbl _)).mono ?_; rintro e w1 ⟨rfl, hb1⟩
    have hbw := Hd.mk ((hbl _).then hb1)
    have k1 := bat hb1 w.heap.size (by simp)
    simp at k1
    go_wp2_with fail
    refine (hz2 _ hbw.out).mono ?_; rintro e w2 ⟨rfl, hb2⟩
    go_wp2
    go_ret
    exact ⟨rfl, hbw.out.then hb2⟩
  have hneg2 : decide (left - wOra o < 0) = false := by simp; omega
  have hwo : wOra o ≤ lm := by show _ ≤ 1048576; omega
  rw [e] at hz2
  clear e
  have ho' := nar_ora ho.1 hwo
  have hms : o.mem.size ≤ 1048576 := by have h9 := hwo; unfold wOra at h9; have : lm = 1048576 := rfl; omega
  have ht := fun W (hW : Below w.heap.size w W) => t_ModS v l W (Rd.mv hx' hW)
  have hto := fun W (hW : Below w.heap.size w W) => t_Ora o co W (KM.mv ho' hW)
  have hsM := fun W v co hp ha => s_FirstBad v l o co W hp ha hms
  have hcM := fun W v co hp ha => c_FirstBad v l o co W hp ha hms
  generalize fbR l o = T at *
  obtain ⟨T1, T2⟩ := T
  unfold Ret2 at hsM hcM
  simp only at hsM hcM
  obtain ⟨A1, c1, rfl, -, -, -⟩ := hx.sh
  obtain ⟨⟨u1, u2, rfl, s1, s2⟩, -, -⟩ := ho
  obtain ⟨A2, c2, rfl, -, -, -⟩ := s1.sh
  obtain ⟨A3, c3, rfl, -, -, -⟩ := s2.sh
  clear hx hx' ho' s1 s2 hms h h' h2 h2' hle
  generalize left - (wOra o : Int) = left2 at *
  go_enter Tryz.func12, Tryz.ntmps12
  go_wp2_with fail
  refine (hz _ (hbl _)).mono ?_; rintro e w0 ⟨rfl, hb0⟩
  have hB0 := (hbl _).then hb0
  have z0 := hb0.size
  have o0_0 := bat hb0 w.heap.size (by first | (simp; done) | (simp; omega)) 0
  have o1_0 := bat hb0 w.heap.size (by first | (simp; done) | (simp; omega)) 1
  have o2_0 := bat hb0 w.heap.size (by first | (simp; done) | (simp; omega)) 2
  have o3_0 := bat hb0 w.heap.size (by first | (simp; done) | (simp; omega)) 3
  have o4_0 := bat hb0 w.heap.size (by first | (simp; done) | (simp; omega)) 4
  have o5_0 := bat hb0 w.heap.size (by first | (simp; done) | (simp; omega)) 5
  have o6_0 := bat hb0 w.heap.size (by first | (simp; done) | (simp; omega)) 6
  have o7_0 := bat hb0 w.heap.size (by first | (simp; done) | (simp; omega)) 7
  simp at o0_0 o1_0 o2_0 o3_0 o4_0 o5_0 o6_0 o7_0 z0
  go_wp2_with fail
  refine (hz2 _ hB0).mono ?_; rintro e w1 ⟨rfl, hb1⟩
  have hB1 := hB0.then hb1
  have z1 := hb1.size
  have o0_1 := (bat hb1 w.heap.size (by omega) 0).trans o0_0
  have o1_1 := (bat hb1 w.heap.size (by omega) 1).trans o1_0
  have o2_1 := (bat hb1 w.heap.size (by omega) 2).trans o2_0
  have o3_1 := (bat hb1 w.heap.size (by omega) 3).trans o3_0
  have o4_1 := (bat hb1 w.heap.size (by omega) 4).trans o4_0
  have o5_1 := (bat hb1 w.heap.size (by omega) 5).trans o5_0
  have o6_1 := (bat hb1 w.heap.size (by omega) 6).trans o6_0
  have o7_1 := (bat hb1 w.heap.size (by omega) 7).trans o7_0
  have hC1 := redrew7 hB1
  go_wp2_with fail
  go_region_held3 (fun W => W.cell? ⟨w.heap.size, 0, none⟩ = some (.int .i64 o.func) ∧ W.cell? ⟨w.heap.size, 1, none⟩ = some (.slice A2 o.args.length c2) ∧ W.cell? ⟨w.heap.size, 2, none⟩ = some (.string o.mem) ∧ W.cell? ⟨w.heap.size, 3, none⟩ = some (.int .i64 o.want.code) ∧ W.cell? ⟨w.heap.size, 4, none⟩ = some (.int .i64 o.want.value) ∧ W.cell? ⟨w.heap.size, 5, none⟩ = some (.slice A3 o.want.out.length c3) ∧ W.cell? ⟨w.heap.size, 6, none⟩ = some (.string o.want.mem) ∧ W.cell? ⟨w.heap.size, 7, none⟩ = some (.int .i64 o.want.steps))
    (first | exact ⟨o0_1, o1_1, o2_1, o3_1, o4_1, o5_1, o6_1, o7_1⟩ | exact ⟨o0_2, o1_2, o2_2, o3_2, o4_2, o5_2, o6_2, o7_2⟩ | exact ⟨o0_3, o1_3, o2_3, o3_3, o4_3, o5_3, o6_3, o7_3⟩ | exact ⟨o0_4, o1_4, o2_4, o3_4, o4_4, o5_4, o6_4, o7_4⟩)
    (first
      | (go_at_call 42
         refine (ht _ hC1).mono ?_; rintro e w2 ⟨v2, rfl, ho2, hb2⟩
         replace hb2 := undrew7 hb2
         have hk2 := o_mods ho2 hw
         obtain ⟨D2, d2, rfl, -⟩ := own_sw ho2
         clear ho2
         have hB2 := hB1.then hb2
         have z2 := hb2.size
         have o0_2 := (bat hb2 w.heap.size (by omega) 0).trans o0_1
         have o1_2 := (bat hb2 w.heap.size (by omega) 1).trans o1_1
         have o2_2 := (bat hb2 w.heap.size (by omega) 2).trans o2_1
         have o3_2 := (bat hb2 w.heap.size (by omega) 3).trans o3_1
         have o4_2 := (bat hb2 w.heap.size (by omega) 4).trans o4_1
         have o5_2 := (bat hb2 w.heap.size (by omega) 5).trans o5_1
         have o6_2 := (bat hb2 w.heap.size (by omega) 6).trans o6_1
         have o7_2 := (bat hb2 w.heap.size (by omega) 7).trans o7_1)
      | (go_at_call 39
         refine (hto _ hB2).mono ?_; rintro e w3 ⟨cs3, rfl, ho3, hb3⟩
         have hk3 := o_ora ho3 hwo
         obtain ⟨u3, u3', rfl, p3, p3'⟩ := ho3
         clear p3 p3'
         have hB3 := hB2.then hb3
         have z3 := hb3.size
         have hs4 := hsM _ _ _ (Rd.mv hk2 hb3) hk3
         have o0_3 := (bat hb3 w.heap.size (by omega) 0).trans o0_2
         have o1_3 := (bat hb3 w.heap.size (by omega) 1).trans o1_2
         have o2_3 := (bat hb3 w.heap.size (by omega) 2).trans o2_2
         have o3_3 := (bat hb3 w.heap.size (by omega) 3).trans o3_2
         have o4_3 := (bat hb3 w.heap.size (by omega) 4).trans o4_2
         have o5_3 := (bat hb3 w.heap.size (by omega) 5).trans o5_2
         have o6_3 := (bat hb3 w.heap.size (by omega) 6).trans o6_2
         have o7_3 := (bat hb3 w.heap.size (by omega) 7).trans o7_2)
      | (go_at_call 27
         refine hs4.mono ?_; rintro e w4 ⟨rfl, hb4⟩
         have hB4 := hB3.then hb4
         have z4 := hb4.size
         have o0_4 := (bat hb4 w.heap.size (by omega) 0).trans o0_3
         have o1_4 := (bat hb4 w.heap.size (by omega) 1).trans o1_3
         have o2_4 := (bat hb4 w.heap.size (by omega) 2).trans o2_3
         have o3_4 := (bat hb4 w.heap.size (by omega) 3).trans o3_3
         have o4_4 := (bat hb4 w.heap.size (by omega) 4).trans o4_3
         have o5_4 := (bat hb4 w.heap.size (by omega) 5).trans o5_3
         have o6_4 := (bat hb4 w.heap.size (by omega) 6).trans o6_3
         have o7_4 := (bat hb4 w.heap.size (by omega) 7).trans o7_3))
  clear hs4 hk2 hk3
  go_wp2_with fail
  refine (ht _ hB4).mono ?_; rintro e w5 ⟨v5, rfl, ho5, hb5⟩
  have hk5 := o_mods ho5 hw
  obtain ⟨D5, d5, rfl, -⟩ := own_sw ho5
  clear ho5
  have hB5 := hB4.then hb5
  have z5 := hb5.size
  have zz5 : w.heap.size < w5.heap.size := by omega
  have o0_5 := (bat hb5 w.heap.size (by omega) 0).trans o0_4
  have o1_5 := (bat hb5 w.heap.size (by omega) 1).trans o1_4
  have o2_5 := (bat hb5 w.heap.size (by omega) 2).trans o2_4
  have o3_5 := (bat hb5 w.heap.size (by omega) 3).trans o3_4
  have o4_5 := (bat hb5 w.heap.size (by omega) 4).trans o4_4
  have o5_5 := (bat hb5 w.heap.size (by omega) 5).trans o5_4
  have o6_5 := (bat hb5 w.heap.size (by omega) 6).trans o6_4
  have o7_5 := (bat hb5 w.heap.size (by omega) 7).trans o7_4
  go_wp2_with fail
  refine (hto _ hB5).mono ?_; rintro e w6 ⟨cs6, rfl, ho6, hb6⟩
  have hk6 := o_ora ho6 hwo
  obtain ⟨u6, u6', rfl, p6, p6'⟩ := ho6
  obtain ⟨D6, d6, rfl, -⟩ := own_sw p6
  obtain ⟨F6, f6, rfl, -⟩ := own_sw p6'
  clear p6 p6'
  have hB6 := hB5.then hb6
  have z6 := hb6.size
  have zz6 : w.heap.size < w6.heap.size := by omega
  have hbx6 := fun o => (Below.refl w6.heap.size w6).al (Nat.le_refl _) o
  have o0_6 := (bat hb6 w.heap.size (by omega) 0).trans o0_5
  have o1_6 := (bat hb6 w.heap.size (by omega) 1).trans o1_5
  have o2_6 := (bat hb6 w.heap.size (by omega) 2).trans o2_5
  have o3_6 := (bat hb6 w.heap.size (by omega) 3).trans o3_5
  have o4_6 := (bat hb6 w.heap.size (by omega) 4).trans o4_5
  have o5_6 := (bat hb6 w.heap.size (by omega) 5).trans o5_5
  have o6_6 := (bat hb6 w.heap.size (by omega) 6).trans o6_5
  have o7_6 := (bat hb6 w.heap.size (by omega) 7).trans o7_5
  go_wp2_with fail
  refine (hcM _ _ _ (Rd.mv hk5 (hb6.then (hbx6 _))) (KM.mv hk6 (hbx6 _))).mono ?_; rintro e w7 ⟨rfl, hb7⟩
  have h67 := (hbx6 _).then hb7
  have h57 := hb6.then h67
  have hB7 := hB6.then h67
  have z7 := hb7.size
  have y0_7 := bat hb7 w6.heap.size (by first | (simp; done) | (simp; omega)) 0
  have y1_7 := bat hb7 w6.heap.size (by first | (simp; done) | (simp; omega)) 1
  have y2_7 := bat hb7 w6.heap.size (by first | (simp; done) | (simp; omega)) 2
  have y3_7 := bat hb7 w6.heap.size (by first | (simp; done) | (simp; omega)) 3
  have y4_7 := bat hb7 w6.heap.size (by first | (simp; done) | (simp; omega)) 4
  have y5_7 := bat hb7 w6.heap.size (by first | (simp; done) | (simp; omega)) 5
  have y6_7 := bat hb7 w6.heap.size (by first | (simp; done) | (simp; omega)) 6
  have y7_7 := bat hb7 w6.heap.size (by first | (simp; done) | (simp; omega)) 7
  simp at y0_7 y1_7 y2_7 y3_7 y4_7 y5_7 y6_7 y7_7 z7
  have o0_7 := (bat h67 w.heap.size (by omega) 0).trans o0_6
  have o1_7 := (bat h67 w.heap.size (by omega) 1).trans o1_6
  have o2_7 := (bat h67 w.heap.size (by omega) 2).trans o2_6
  have o3_7 := (bat h67 w.heap.size (by omega) 3).trans o3_6
  have o4_7 := (bat h67 w.heap.size (by omega) 4).trans o4_6
  have o5_7 := (bat h67 w.heap.size (by omega) 5).trans o5_6
  have o6_7 := (bat h67 w.heap.size (by omega) 6).trans o6_6
  have o7_7 := (bat h67 w.heap.size (by omega) 7).trans o7_6
  have hd1 : (T1 != T1) = false := by simp
  have hd2 : (T2 != T2) = false := by simp
  have zz7 : w.heap.size < w7.heap.size := by omega
  have zz7' : w6.heap.size < w7.heap.size := by omega
  go_wp2_with fail
  refine (ht _ hB7).mono ?_; rintro e w8 ⟨v8, rfl, ho8, hb8⟩
  have hk8 := o_mods ho8 hw
  clear ho8
  have he8 := e_ModS _ _ l l w8 (Rd.mv hk5 (h57.then hb8)) hk8
  rw [decide_eq_true rfl] at he8
  go_wp2_with fail
  refine (he8 ).mono ?_; rintro e w9 ⟨rfl, hb9⟩
  have h79 := hb8.then hb9
  clear he8 hk8 hk5
  have z9 := h79.size
  have hB9 := hB7.then h79
  have o0_9 := (bat h79 w.heap.size (by omega) 0).trans o0_7
  have o1_9 := (bat h79 w.heap.size (by omega) 1).trans o1_7
  have o2_9 := (bat h79 w.heap.size (by omega) 2).trans o2_7
  have o3_9 := (bat h79 w.heap.size (by omega) 3).trans o3_7
  have o4_9 := (bat h79 w.heap.size (by omega) 4).trans o4_7
  have o5_9 := (bat h79 w.heap.size (by omega) 5).trans o5_7
  have o6_9 := (bat h79 w.heap.size (by omega) 6).trans o6_7
  have o7_9 := (bat h79 w.heap.size (by omega) 7).trans o7_7
  have y0_9 := (bat h79 w6.heap.size (by omega) 0).trans y0_7
  have y1_9 := (bat h79 w6.heap.size (by omega) 1).trans y1_7
  have y2_9 := (bat h79 w6.heap.size (by omega) 2).trans y2_7
  have y3_9 := (bat h79 w6.heap.size (by omega) 3).trans y3_7
  have y4_9 := (bat h79 w6.heap.size (by omega) 4).trans y4_7
  have y5_9 := (bat h79 w6.heap.size (by omega) 5).trans y5_7
  have y6_9 := (bat h79 w6.heap.size (by omega) 6).trans y6_7
  have y7_9 := (bat h79 w6.heap.size (by omega) 7).trans y7_7
  have hC9 := redrew7 hB9
  have hk6'' := fun W hW => KM.mv hk6 ((h67.then h79).then (w2 := W) hW)
  go_wp2_with fail
  go_region_held3 (fun W => W.cell? ⟨w.heap.size, 0, none⟩ = some (.int .i64 o.func) ∧ W.cell? ⟨w.heap.size, 1, none⟩ = some (.slice A2 o.args.length c2) ∧ W.cell? ⟨w.heap.size, 2, none⟩ = some (.string o.mem) ∧ W.cell? ⟨w.heap.size, 3, none⟩ = some (.int .i64 o.want.code) ∧ W.cell? ⟨w.heap.size, 4, none⟩ = some (.int .i64 o.want.value) ∧ W.cell? ⟨w.heap.size, 5, none⟩ = some (.slice A3 o.want.out.length c3) ∧ W.cell? ⟨w.heap.size, 6, none⟩ = some (.string o.want.mem) ∧ W.cell? ⟨w.heap.size, 7, none⟩ = some (.int .i64 o.want.steps) ∧ W.cell? ⟨w6.heap.size, 0, none⟩ = some (.int .i64 o.func) ∧ W.cell? ⟨w6.heap.size, 1, none⟩ = some (.slice D6 o.args.length d6) ∧ W.cell? ⟨w6.heap.size, 2, none⟩ = some (.string o.mem) ∧ W.cell? ⟨w6.heap.size, 3, none⟩ = some (.int .i64 o.want.code) ∧ W.cell? ⟨w6.heap.size, 4, none⟩ = some (.int .i64 o.want.value) ∧ W.cell? ⟨w6.heap.size, 5, none⟩ = some (.slice F6 o.want.out.length f6) ∧ W.cell? ⟨w6.heap.size, 6, none⟩ = some (.string o.want.mem) ∧ W.cell? ⟨w6.heap.size, 7, none⟩ = some (.int .i64 o.want.steps))
    (first | exact ⟨o0_9, o1_9, o2_9, o3_9, o4_9, o5_9, o6_9, o7_9, y0_9, y1_9, y2_9, y3_9, y4_9, y5_9, y6_9, y7_9⟩ | exact ⟨o0_10, o1_10, o2_10, o3_10, o4_10, o5_10, o6_10, o7_10, y0_10, y1_10, y2_10, y3_10, y4_10, y5_10, y6_10, y7_10⟩ | exact ⟨o0_11, o1_11, o2_11, o3_11, o4_11, o5_11, o6_11, o7_11, y0_11, y1_11, y2_11, y3_11, y4_11, y5_11, y6_11, y7_11⟩)
    (first
      | (go_at_call 39
         refine (hto _ hC9).mono ?_; rintro e w10 ⟨cs10, rfl, ho10, hb10⟩
         replace hb10 := undrew7 hb10
         have hk10 := o_ora ho10 hwo
         obtain ⟨t10, t10', rfl, p10, p10'⟩ := ho10
         obtain ⟨E10, e10, rfl, -⟩ := own_sw p10
         obtain ⟨G10, g10, rfl, -⟩ := own_sw p10'
         clear p10 p10'
         have z10 := hb10.size
         have o0_10 := (bat hb10 w.heap.size (by omega) 0).trans o0_9
         have o1_10 := (bat hb10 w.heap.size (by omega) 1).trans o1_9
         have o2_10 := (bat hb10 w.heap.size (by omega) 2).trans o2_9
         have o3_10 := (bat hb10 w.heap.size (by omega) 3).trans o3_9
         have o4_10 := (bat hb10 w.heap.size (by omega) 4).trans o4_9
         have o5_10 := (bat hb10 w.heap.size (by omega) 5).trans o5_9
         have o6_10 := (bat hb10 w.heap.size (by omega) 6).trans o6_9
         have o7_10 := (bat hb10 w.heap.size (by omega) 7).trans o7_9
         have y0_10 := (bat hb10 w6.heap.size (by omega) 0).trans y0_9
         have y1_10 := (bat hb10 w6.heap.size (by omega) 1).trans y1_9
         have y2_10 := (bat hb10 w6.heap.size (by omega) 2).trans y2_9
         have y3_10 := (bat hb10 w6.heap.size (by omega) 3).trans y3_9
         have y4_10 := (bat hb10 w6.heap.size (by omega) 4).trans y4_9
         have y5_10 := (bat hb10 w6.heap.size (by omega) 5).trans y5_9
         have y6_10 := (bat hb10 w6.heap.size (by omega) 6).trans y6_9
         have y7_10 := (bat hb10 w6.heap.size (by omega) 7).trans y7_9
         have he := e_Ora o o _ _ w10 (hk6'' _ hb10) hk10
         rw [decide_eq_true rfl] at he)
      | (go_at_call 40
         refine he.mono ?_; rintro e w11 ⟨rfl, hb11⟩
         have o0_11 := (bat hb11 w.heap.size (by omega) 0).trans o0_10
         have o1_11 := (bat hb11 w.heap.size (by omega) 1).trans o1_10
         have o2_11 := (bat hb11 w.heap.size (by omega) 2).trans o2_10
         have o3_11 := (bat hb11 w.heap.size (by omega) 3).trans o3_10
         have o4_11 := (bat hb11 w.heap.size (by omega) 4).trans o4_10
         have o5_11 := (bat hb11 w.heap.size (by omega) 5).trans o5_10
         have o6_11 := (bat hb11 w.heap.size (by omega) 6).trans o6_10
         have o7_11 := (bat hb11 w.heap.size (by omega) 7).trans o7_10
         have y0_11 := (bat hb11 w6.heap.size (by omega) 0).trans y0_10
         have y1_11 := (bat hb11 w6.heap.size (by omega) 1).trans y1_10
         have y2_11 := (bat hb11 w6.heap.size (by omega) 2).trans y2_10
         have y3_11 := (bat hb11 w6.heap.size (by omega) 3).trans y3_10
         have y4_11 := (bat hb11 w6.heap.size (by omega) 4).trans y4_10
         have y5_11 := (bat hb11 w6.heap.size (by omega) 5).trans y5_10
         have y6_11 := (bat hb11 w6.heap.size (by omega) 6).trans y6_10
         have y7_11 := (bat hb11 w6.heap.size (by omega) 7).trans y7_10))
  go_wp2
  go_ret
  exact ⟨rfl, hB9.then (hb10.then hb11)⟩
end Go.Proofs.YtkcgejbnhpccdaaGreat
set_option linter.unusedSimpArgs false
set_option linter.unusedVariables false
namespace Go.Proofs.YtkcgejbnhpccdaaGreat
open Go.ChangeShapes Go.WideShapes Go.ChangeAt Go.RowKit
open Go.ChangeMaps (open_string shut_string)
theorem ownR10 : ownKnob Tryz.prog.godebug = none := by kernel_rfl
theorem laidOutR10 : laidOutB Tryz.prog = true := by kernel_rfl
set_option maxRecDepth 100000 in
theorem lifted_FnExactFirstBad (os : Os) (started : os.Started) (H : Type) (enc : TypeId × Value → H) :
    ReturnsInHanded {} Tryz.checked os 12 .any (Rows.fnExactFirstBadSpec.pre6 enc Tryz.prog Tryz.f12 Rows.fnExactFirstBadRow.domain false) (Rows.fnExactFirstBadSpec.post enc Tryz.prog Tryz.f12 false true false false) := by
  refine returnsInHanded_of_change (C := Tryz.checked) ownR10 started (by kernel_rfl) Tryz.func12
    (ChangeSpec.witness6 (enc := enc) (C := Tryz.checked) false ⟨#[], #[.slice none 0 0, .agg #[.int .i64 0, .slice none 0 0, .string ByteArray.empty, .int .i64 0, .int .i64 0, .slice none 0 0, .string ByteArray.empty, .int .i64 0]], []⟩ 8 (by kernel_rfl) (by kernel_rfl) (by kernel_rfl) (by kernel_rfl)) ?_
  intro W base args ds gs before hval0 hW hcnd _
  have hval : ∀ (j : Nat) t v, Tryz.f12.params[j]? = some t → args[j]? = some v → Value.okWide Tryz.prog W .any base t v := hval0
  have hW' := hW
  obtain ⟨p, q, hA0, hV, rfl, hfz, hnd⟩ := hW
  have hA : DataW.TrodAll enc Tryz.prog W 0 (fun _ => true) true Tryz.f12.params.toList args.toList ds p := hA0
  rw [Tryz.params12] at hA hval
  obtain ⟨v0, vs0, d0, ds0, p0, q0, hargs0, rfl, rfl, h0, r0⟩ := trodAll_cons hA
  obtain ⟨v1, vs1, d1, ds1, p1, q1, hargs1, rfl, rfl, h1, r1⟩ := trodAll_cons r0
  obtain ⟨rfl, rfl, rfl⟩ := trodAll_nil r1
  subst hargs1
  obtain rfl : args = #[v0, v1] := by cases args; simp_all
  obtain ⟨rfl, rfl⟩ := trodVars_none hV
  obtain ⟨A0, n0, c0, rfl⟩ := okWide_slice Tryz.underlying76 (hval 0 76 v0 rfl rfl)
  have k0 := h0
  have lt0 : ∀ x ∈ p0, x.block < W.heap.size := by obtain ⟨m, hm⟩ := k0; exact DataW.trod_lt m _ _ _ hm
  obtain ⟨x0, w0⟩ : ∃ x, Rd lw _ (KMod lw) W (.slice A0 n0 c0) x := by
    obtain ⟨fuel, hf⟩ := h0
    obtain ⟨v, x, hv, hx⟩ := op_sModule hf
    obtain rfl : Value.slice A0 n0 c0 = v := by simpa [Value.cells] using hv
    exact ⟨x, hx⟩
  obtain ⟨cs1, rfl, _⟩ := okWide_struct Tryz.underlying71 (hval 1 71 v1 rfl rfl)
  have k1 := h1
  have lt1 : ∀ x ∈ p1, x.block < W.heap.size := by obtain ⟨m, hm⟩ := k1; exact DataW.trod_lt m _ _ _ hm
  obtain ⟨x1, w1⟩ : ∃ x, KOraW W x cs1.toList := by
    obtain ⟨fuel, hf⟩ := h1
    obtain ⟨x, hx, _⟩ := op_Oracle _ _ _ hf
    exact ⟨x, hx⟩
  clear hA0 hval0
  have hwalk := f_ExactFirstBad _ x0 x1 cs1.toList W w0 w1
  simp only [Array.toArray_toList] at hwalk
  refine hwalk.mono fun e W' ⟨he, bel⟩ => ?_
  subst he
  exact ⟨_, rfl, _, _, _, [], _, [], hW', trodAll_mk1 (shut_bool Tryz.underlying4 _), (trodAll_cons_mk (Below.trod laidOutR10 (by kernel_rfl) (of_decide_eq_true (by kernel_rfl)) k0 bel lt0) (trodAll_cons_mk (Below.trod laidOutR10 (by kernel_rfl) (of_decide_eq_true (by kernel_rfl)) k1 bel lt1) trodAll_mk0)), rfl, bel.frame _, fun h => by cases h⟩
theorem exact_FirstBad : Rows.FnExactFirstBadSaid :=
  OpenClaim.holds_of_wide 12 Tryz.f12 rfl rfl rfl rfl rfl rfl rfl ⟨rfl, rfl, rfl, rfl, rfl⟩ rfl rfl rfl rfl rfl (by kernel_rfl) Tryz.func12 (by kernel_rfl)
    (of_decide_eq_true (by kernel_rfl)) (by unfold Func.isWrapper; first | (rw [if_pos (by decide +kernel)]; kernel_rfl) | (rw [if_neg (by decide +kernel)]; exact ⟨rfl, rfl⟩))
    (fun os started H enc _ => lifted_FnExactFirstBad os started H enc)
end Go.Proofs.YtkcgejbnhpccdaaGreat
