import Derived.Test.YtkcgejbnhpccdaaGreatP17
import Derived.Test.YtkcgejbnhpccdaaGreatP39
import Derived.Test.YtkcgejbnhpccdaaGreatP31
import Derived.Test.YtkcgejbnhpccdaaGreatP38
set_option linter.unusedSimpArgs false
set_option linter.unusedVariables false
namespace Go.Proofs.YtkcgejbnhpccdaaGreat
open Go.RowKit
structure XOra where
  func : Int
  args : List Int
  mem : ByteArray
  want : XRes
def KOracle (L : Nat) (w : World) (x : XOra) (cs : List Value) : Prop := ∃ va vo, cs = [.int .i64 x.func, va, .string x.mem, .int .i64 x.want.code, .int .i64 x.want.value, vo, .string x.want.mem, .int .i64 x.want.steps] ∧ RI L w va x.args ∧ RI L w vo x.want.out
instance {L : Nat} : KM (KOracle L) := ⟨fun ⟨v, v', h, r, s⟩ hb => ⟨v, v', h, r.mv hb, s.mv hb⟩⟩
def holdsB (m : XMod) (o : XOra) : Bool := (resR m o.func o.args o.mem 2000).code != 6 && sameR (resR m o.func o.args o.mem 2000) o.want
set_option maxRecDepth 20000 in
set_option maxHeartbeats 4000000 in
theorem c_Holds (m : XMod) (cm : List Value) (o : XOra) (co : List Value) (w : World) (hm : KMod lm w m cm) (ho : KOracle lm w o co) (hms : o.mem.size ≤ 1048576) : Calls Tryz.prog 22 #[.agg cm.toArray, .agg co.toArray] w (Ret (.bool (holdsB m o)) w) := by
  have hm' := Hd.mk hm
  obtain ⟨vm, rfl, hrm⟩ := hm
  obtain ⟨Am, cmm, rfl, -, -, -⟩ := hrm.sm
  obtain ⟨va, vo, rfl, ra, ro⟩ := ho
  have hra := Hd.mk ra
  have hro := Hd.mk ro
  obtain ⟨Aa, ca, rfl, -, -, -⟩ := ra.sm
  obtain ⟨Ao, coo, rfl, -, -, -⟩ := ro.sm
  obtain ⟨of, oa, om, ⟨oc, ov, oo, omm, os⟩⟩ := o
  simp only at *
  clear hrm ra ro
  have hin := fun W (hW : Below w.heap.size w W) => c_Invoked m _ of (.slice Aa oa.length ca) oa om 2000 W (KM.mv hm'.out hW) (hra.out.mv hW) hms
  have hrl := resR_out m of oa om 2000
  unfold holdsB
  simp only
  generalize resR m of oa om 2000 = R at *
  obtain ⟨W0, hW0⟩ : ∃ W0 : World, W0 = (w.alloc (.cells #[.slice Am m.funcs.length cmm] 38)).alloc (.cells #[.int .i64 of, .slice Aa oa.length ca, .string om, .int .i64 oc, .int .i64 ov, .slice Ao oo.length coo, .string omm, .int .i64 os] 48) := ⟨_, rfl⟩
  have hB0 : Hd (Below w.heap.size w W0) := ⟨by rw [hW0]; exact ((Below.refl w.heap.size w).al (Nat.le_refl _) _).al (by simp) _⟩
  have hz0 : w.heap.size + 1 < W0.heap.size := by rw [hW0]; simp
  have x0 : W0.cell? ⟨w.heap.size, 0, none⟩ = some (.slice Am m.funcs.length cmm) := by rw [hW0]; simp
  have hzo : Hd (∀ j u, [Value.int .i64 of, .slice Aa oa.length ca, .string om, .int .i64 oc, .int .i64 ov, .slice Ao oo.length coo, .string omm, .int .i64 os][j]? = some u → W0.cell? ⟨w.heap.size + 1, j, none⟩ = some u) := ⟨fun j u hu => by rw [hW0]; exact new_cell _ _ _ (by simp) j u (by simpa using hu)⟩
  have y0 := hzo.out 0 _ rfl
  have y1 := hzo.out 1 _ rfl
  have y2 := hzo.out 2 _ rfl
  have hW0' := Hd.mk hW0
  clear hW0
  go_enter Tryz.func22, Tryz.ntmps22
  go_wp2_with fail
  rw [← hW0'.out]
  go_wp2_with fail
  refine (hin _ hB0.out).mono ?_; rintro e w1 ⟨v1, rfl, hown, hb1⟩
  have hB1 := Hd.mk (hB0.out.then hb1)
  have hb1' := Hd.mk hb1
  have hz1 := hb1.size
  have hri := Hd.mk ((OwI.of hown).rd hrl)
  obtain ⟨A1, c1, rfl, -, -⟩ := own_shape hown
  have q3 := (bat hb1 (w.heap.size + 1) hz0 3).trans (hzo.out 3 _ rfl)
  have q4 := (bat hb1 (w.heap.size + 1) hz0 4).trans (hzo.out 4 _ rfl)
  have q5 := (bat hb1 (w.heap.size + 1) hz0 5).trans (hzo.out 5 _ rfl)
  have q6 := (bat hb1 (w.heap.size + 1) hz0 6).trans (hzo.out 6 _ rfl)
  have q7 := (bat hb1 (w.heap.size + 1) hz0 7).trans (hzo.out 7 _ rfl)
  have ql : w.heap.size + 1 < w1.heap.size := by omega
  have hal := Hd.mk fun (o : Obj) => (Below.refl w1.heap.size w1).al (Nat.le_refl _) o
  have hsm := fun W (hW : Below w1.heap.size w1 W) => c_isSeenAs R ⟨oc, ov, oo, omm, os⟩ _ _ W ⟨_, rfl, hri.out.mv hW⟩ ⟨_, rfl, hro.out.mv (hB1.out.then hW)⟩
  clear hb1 hown hin x0 y0 y1 y2
  unfold resV
  cases h6 : R.code != 6 with
  | false =>
    go_wp2
    go_ret
    exact ⟨by rw [h6]; rfl, hB1.out.then (hal.out _)⟩
  | true =>
    go_wp2_with fail
    refine (hsm _ (hal.out _)).mono ?_; rintro e w2 ⟨rfl, hb2⟩
    go_wp2
    go_ret
    exact ⟨by rw [h6]; rfl, (hB1.out.then (hal.out _)).then hb2⟩
set_option maxRecDepth 20000 in
set_option maxHeartbeats 4000000 in
theorem s_Holds (m : XMod) (cm : List Value) (o : XOra) (co : List Value) (w : World) (hm : KMod lm w m cm) (ho : KOracle lm w o co) (hms : o.mem.size ≤ 1048576) : Calls Tryz.prog 23 #[.agg cm.toArray, .agg co.toArray] w (Ret (.bool (holdsB m o)) w) := by
  have hm' := Hd.mk hm
  obtain ⟨vm, rfl, hrm⟩ := hm
  obtain ⟨Am, cmm, rfl, -, -, -⟩ := hrm.sm
  obtain ⟨va, vo, rfl, ra, ro⟩ := ho
  have hra := Hd.mk ra
  have hro := Hd.mk ro
  obtain ⟨Aa, ca, rfl, -, -, -⟩ := ra.sm
  obtain ⟨Ao, coo, rfl, -, -, -⟩ := ro.sm
  obtain ⟨of, oa, om, ⟨oc, ov, oo, omm, os⟩⟩ := o
  simp only at *
  clear hrm ra ro
  have hin := fun W (hW : Below w.heap.size w W) => s_Invoked m _ of (.slice Aa oa.length ca) oa om 2000 W (KM.mv hm'.out hW) (hra.out.mv hW) hms
  have hrl := resR_out m of oa om 2000
  unfold holdsB
  simp only
  generalize resR m of oa om 2000 = R at *
  obtain ⟨W0, hW0⟩ : ∃ W0 : World, W0 = (w.alloc (.cells #[.slice Am m.funcs.length cmm] 38)).alloc (.cells #[.int .i64 of, .slice Aa oa.length ca, .string om, .int .i64 oc, .int .i64 ov, .slice Ao oo.length coo, .string omm, .int .i64 os] 48) := ⟨_, rfl⟩
  have hB0 : Hd (Below w.heap.size w W0) := ⟨by rw [hW0]; exact ((Below.refl w.heap.size w).al (Nat.le_refl _) _).al (by simp) _⟩
  have hz0 : w.heap.size + 1 < W0.heap.size := by rw [hW0]; simp
  have x0 : W0.cell? ⟨w.heap.size, 0, none⟩ = some (.slice Am m.funcs.length cmm) := by rw [hW0]; simp
  have hzo : Hd (∀ j u, [Value.int .i64 of, .slice Aa oa.length ca, .string om, .int .i64 oc, .int .i64 ov, .slice Ao oo.length coo, .string omm, .int .i64 os][j]? = some u → W0.cell? ⟨w.heap.size + 1, j, none⟩ = some u) := ⟨fun j u hu => by rw [hW0]; exact new_cell _ _ _ (by simp) j u (by simpa using hu)⟩
  have y0 := hzo.out 0 _ rfl
  have y1 := hzo.out 1 _ rfl
  have y2 := hzo.out 2 _ rfl
  have hW0' := Hd.mk hW0
  clear hW0
  go_enter Tryz.func23, Tryz.ntmps23
  go_wp2_with fail
  rw [← hW0'.out]
  go_wp2_with fail
  refine (hin _ hB0.out).mono ?_; rintro e w1 ⟨v1, rfl, hown, hb1⟩
  have hB1 := Hd.mk (hB0.out.then hb1)
  have hb1' := Hd.mk hb1
  have hz1 := hb1.size
  have hri := Hd.mk ((OwI.of hown).rd hrl)
  obtain ⟨A1, c1, rfl, -, -⟩ := own_shape hown
  have q3 := (bat hb1 (w.heap.size + 1) hz0 3).trans (hzo.out 3 _ rfl)
  have q4 := (bat hb1 (w.heap.size + 1) hz0 4).trans (hzo.out 4 _ rfl)
  have q5 := (bat hb1 (w.heap.size + 1) hz0 5).trans (hzo.out 5 _ rfl)
  have q6 := (bat hb1 (w.heap.size + 1) hz0 6).trans (hzo.out 6 _ rfl)
  have q7 := (bat hb1 (w.heap.size + 1) hz0 7).trans (hzo.out 7 _ rfl)
  have ql : w.heap.size + 1 < w1.heap.size := by omega
  have hal := Hd.mk fun (o : Obj) => (Below.refl w1.heap.size w1).al (Nat.le_refl _) o
  have hsm := fun W (hW : Below w1.heap.size w1 W) => s_l19Same R ⟨oc, ov, oo, omm, os⟩ _ _ W ⟨_, rfl, hri.out.mv hW⟩ ⟨_, rfl, hro.out.mv (hB1.out.then hW)⟩
  clear hb1 hown hin x0 y0 y1 y2
  unfold resV
  cases h6 : R.code != 6 with
  | false =>
    go_wp2
    go_ret
    exact ⟨by rw [h6]; rfl, hB1.out.then (hal.out _)⟩
  | true =>
    go_wp2_with fail
    refine (hsm _ (hal.out _)).mono ?_; rintro e w2 ⟨rfl, hb2⟩
    go_wp2
    go_ret
    exact ⟨by rw [h6]; rfl, (hB1.out.then (hal.out _)).then hb2⟩
end Go.Proofs.YtkcgejbnhpccdaaGreat
