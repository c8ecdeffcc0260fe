/- What a run tells out is never longer than the bound. Plain Lean. The law FnExactMachineRun returns true and turns nothing that was there. Condition: its arguments can be read. What is read as data of a type of the laws is read as lists of my plain types. No conditions. The given statement Rows.FnExactMachineRunSaid: for every input that the law's guards let in the program's MachineRun answers as the reference's. No conditions. -/
import Derived.Test.YtdnbiohohbnhgaaJ15
import Derived.Test.YtdnbiohohbnhgaaJ09
import Derived.Test.YtdnbiohohbnhgaaJ10
import Derived.Test.YtdnbiohohbnhgaaJ16
import Derived.Deep.RegionHeld3
import Derived.Test.YtdnbiohohbnhgaaJ01
import Derived.Deep.Slices
import Derived.ProofKit
import Derived.Test.YtdnbiohohbnhgaaRows
import Derived.WalkKit
import Derived.OpenShut
import Derived.ShutString
import Derived.ChangeOld
import Derived.Below
set_option linter.unusedSimpArgs false
set_option linter.unusedVariables false
namespace Go.Proofs.Ytdnbiohohbnhgaa
open Go.RowKit
theorem run_ok (p : XProg) (hp : progOk p = true) (n : Int) : ∀ (k : Nat) (pc : Int) (s : MS), MOk p.regs s → 0 ≤ pc → pc < p.code.length → MOk p.regs (runM p n k pc s).st
  | 0, _, s, h, _, _ => h
  | k + 1, pc, s, h, h0, h1 => by
    have hs := step_ok h (pc_ins hp pc h0 h1) pc
    rw [run_step]
    split
    · exact hs
    · rename_i hd
      obtain ⟨-, -, h2, h3⟩ := step_on (s := s) pc hp h0 h1 (by simpa using hd)
      exact run_ok p hp n k _ _ hs h2 h3
theorem res_out (p : XProg) (args : List Int) (mem : ByteArray) (fuel : Int) : (resOf p args mem fuel).out.length ≤ lm := by
  unfold resOf
  split
  · rename_i h
    unfold runPre at h
    simp only [Bool.and_eq_true, beq_iff_eq] at h
    obtain ⟨⟨⟨h1, h2⟩, h3⟩, h4⟩ := h
    obtain ⟨-, -, -, h5, -⟩ := progOk_pre h1
    have := (run_ok p h1 fuel fuel.toNat 0 _ (init_ok p args mem h2 h3) (by omega) (by omega)).out
    exact Nat.le_trans this (by decide)
  · exact Nat.zero_le _
end Go.Proofs.Ytdnbiohohbnhgaa
set_option linter.unusedSimpArgs false
set_option linter.unusedVariables false
namespace Go.Proofs.Ytdnbiohohbnhgaa
open Go.RowKit
def RetT5 (w : World) (e : Ending) (w' : World) : Prop := e = .returned (.bool true) ∧ Below w.heap.size w w'
theorem OwI.cells5 {lo : Nat} {w : World} {v : Value} {xs : List Int} (h : w.ownsRow lo 2 1 v xs.length (xs.map (Value.int .i64))) : ∃ A c, v = .slice A xs.length c ∧ Wr w A xs.length ∧ (0 < xs.length → ∃ G, A = some ⟨G, 0, none⟩ ∧ lo ≤ G ∧ G < w.heap.size) := by
  obtain ⟨h1, h2⟩ := h
  rcases h2 with ⟨rfl, h3⟩ | ⟨g, cap, cur, rfl, h5, h6, h7, h8, h9, h10⟩
  · exact ⟨none, 0, by rw [h3], fun h => absurd h (by omega), fun h => absurd h (by omega)⟩
  · refine ⟨_, _, rfl, fun _ => ⟨g, cur, _, rfl, h6, fun i hi => ⟨xs[i], ?_⟩⟩, fun _ => ⟨g, rfl, h5, (Array.getElem?_eq_some_iff.1 h6).1⟩⟩
    have : (cur.toList.take (xs.length * 1))[i]? = (xs.map (Value.int .i64))[i]? := by rw [h10]
    rw [List.getElem?_take_of_lt (by omega)] at this
    simpa [hi] using this
theorem row_ri5 {lo : Nat} {w : World} {v : Value} {xs : List Int} (h : w.ownsRow lo 2 1 v xs.length (xs.map (Value.int .i64))) (hl : xs.length ≤ 1048576) : RI lm w v xs := OwI.rd (OwI.of h) hl
theorem e_same5 {v u : Value} {xs : List Int} {w : World} (hv : RI lm w v xs) (hu : RI lm w u xs) : Calls Try.prog 9 #[v, u] w (Ret (.bool true) w) := by
  have h := e_I v u xs xs w hv hu
  rwa [decide_eq_true rfl] at h
theorem undrew5 {w w' : World} (h : Below w.drew.heap.size w.drew w') : Below w.heap.size w w' := ⟨h.os, h.tape, h.output, h.size, h.block⟩
theorem redrew5 {B : Nat} {w w' : World} (h : Below B w w') : Below B w w'.drew := ⟨h.os, h.tape, h.output, h.size, h.block⟩
theorem below_marks {B : Nat} {a W0 : World} (A : Option Addr) (n : Nat) (k : Int) {h : Nat} (hb : Below B a W0) (hG : n = 0 ∨ ∃ G, A = some ⟨G, 0, none⟩ ∧ B ≤ G ∧ G < h) : Below B a (setAll W0 (blk A) 0 (marks k n)) := by
  rcases hG with rfl | ⟨G, rfl, h1, -⟩
  · exact hb
  · exact below_setAll _ h1 _ hb
theorem far_marks {B b : Nat} (A : Option Addr) (n : Nat) (k : Int) (W0 : World) (o : Nat) (hG : n = 0 ∨ ∃ G, A = some ⟨G, 0, none⟩ ∧ B ≤ G ∧ G < b) : (setAll W0 (blk A) 0 (marks k n)).cell? ⟨b, o, none⟩ = W0.cell? ⟨b, o, none⟩ := by
  rcases hG with rfl | ⟨G, rfl, -, h1⟩
  · rfl
  · simp only [World.cell?]
    have hh := setAll_other (G := G) (b := b) (marks k n) (by omega) W0 0
    rw [show blk (some ⟨G, 0, none⟩) = G from rfl, hh]
theorem SProg.mv {lo hi l' h' : Nat} {w w' : World} {x : XProg} {cs : List Value} (h : SProg lo hi w x cs) (hc : Chg l' h' w w') : SProg lo hi w' x cs := by
  obtain ⟨i, v, v', v'', rfl, r, s, t⟩ := h; exact ⟨i, v, v', v'', rfl, r.mv hc, s.mv hc, t.mv hc⟩
theorem mProg_le (x : XProg) : mProg x ≤ 7 * wProg x := by
  have : ∀ l : List XMIns, mL mMIns l = 7 * l.length := fun l => by
    unfold mL
    induction l with
    | nil => rfl
    | cons a r ih => simp only [List.map_cons, List.sum_cons, List.length_cons, mMIns] at *; omega
  unfold mProg wProg
  have := this x.code
  omega
theorem KRes.mv' {w w' : World} {x : XRes} {cs : List Value} (h : KRes w x cs) (hb : Below w.heap.size w w') : KRes w' x cs := by
  obtain ⟨v, rfl, r⟩ := h; exact ⟨v, rfl, r.mv hb⟩
set_option maxRecDepth 20000 in
set_option maxHeartbeats 4000000 in
theorem f_ExactMachineRun (x : XProg) (cs : List Value) (va : Value) (args : List Int) (mem : ByteArray) (fuel : Int) (w : World) (hx : KProg lw w x cs) (ha : RI lw w va args) : Calls Try.prog 4 #[.agg cs.toArray, va, .string mem, .int .i64 fuel] w (RetT5 w) := by
  have hbl := fun o => (Below.refl w.heap.size w).al (Nat.le_refl _) o
  have hz := fun W hW => z_Prog x cs 1048576 W (KM.mv hx hW) (by omega) (by omega)
  obtain ⟨Aa, ca, rfl, -, la, -⟩ := ha.sw
  by_cases g1 : (args.length : Int) > 1048576
  · have d1 : decide ((args.length : Int) > 1048576) = true := by simpa using g1
    obtain ⟨v1, v2, v3, rfl, -, -, -⟩ := hx
    clear hz
    go_enter Try.func4, Try.ntmps4
    go_wp2
    go_ret
    exact ⟨rfl, hbl _⟩
  have la' : args.length ≤ lm := by show _ ≤ 1048576; omega
  have d1 : decide ((args.length : Int) > 1048576) = false := by simpa using g1
  by_cases g2 : (mem.size : Int) > 1048576
  · have d2 : decide ((mem.size : Int) > 1048576) = true := by simpa using g2
    obtain ⟨v1, v2, v3, rfl, -, -, -⟩ := hx
    clear hz
    go_enter Try.func4, Try.ntmps4
    go_wp2
    go_ret
    exact ⟨rfl, hbl _⟩
  have d2 : decide ((mem.size : Int) > 1048576) = false := by simpa using g2
  rcases sub_cases 1048576 (wProg x) (by omega) with ⟨e, h⟩ | ⟨e, h, h'⟩
  · rw [e] at hz
    obtain ⟨v1, v2, v3, rfl, -, -, -⟩ := hx
    clear e
    go_enter Try.func4, Try.ntmps4
    go_wp2_with fail
    refine (hz _ (hbl _)).mono ?_; rintro e w1 ⟨rfl, hb1⟩
    go_wp2
    go_ret
    exact ⟨rfl, (hbl _).then hb1⟩
  have hw : wProg x ≤ lm := by show _ ≤ 1048576; omega
  rw [e] at hz
  clear e
  have hx' := nar_prog hx hw
  have ht := fun W (hW : Below w.heap.size w W) => t_Prog x cs W (KM.mv hx' hW)
  have ha' : RI lm w (.slice Aa args.length ca) args := ha.nar la' fun _ _ _ hk => hk
  have hta := fun W (hW : Below w.heap.size w W) => t_I (.slice Aa args.length ca) args W (ha'.mv hW)
  have hms : mem.size ≤ 1048576 := by omega
  have hro := res_out x args mem fuel
  have hsM := fun W cs va hp ha => s_MachineRun x cs va args mem fuel W hp ha hms
  have hcM := fun W cs va hp ha => c_MachineRun x cs va args mem fuel W hp ha hms
  generalize resOf x args mem fuel = R at *
  obtain ⟨v1, v2, v3, rfl, r1, r2, r3⟩ := hx
  obtain ⟨A1, c1, rfl, -, -, -⟩ := r1.sh
  obtain ⟨A2, c2, rfl, -, -, -⟩ := r2.sh
  obtain ⟨A3, c3, rfl, -, -, -⟩ := r3.sh
  clear hx' r1 r2 r3 ha ha'
  go_enter Try.func4, Try.ntmps4
  go_wp2_with fail
  refine (hz _ (hbl _)).mono ?_; rintro e w0 ⟨rfl, hb0⟩
  have hB0 := (hbl _).then hb0
  have g0 := bat hb0 w.heap.size (by first | (simp; done) | (simp; omega))
  have hz0 := hb0.size
  simp at g0 hz0
  clear hb0 hz
  have hneg : decide ((1048576 : Int) - wProg x < 0) = false := by simp; omega
  go_wp2_with fail
  refine (ht _ hB0).mono ?_; rintro e w1 ⟨cs1, rfl, ho1, hb1⟩
  have hk1 := o_prog ho1 hw
  obtain ⟨u1, u2, u3, rfl, p1, p2, p3⟩ := ho1
  clear p1 p2 p3
  have hB1 := hB0.then hb1
  go_wp2_with fail
  refine (hta _ hB1).mono ?_; rintro e w2 ⟨va2, rfl, ho2, hb2⟩
  have hk2 : RI lm w2 va2 args := OwI.rd ho2 la'
  clear ho2
  go_wp2_with fail
  refine (hsM _ _ _ (KM.mv hk1 hb2) hk2).mono ?_; rintro e w3 ⟨V0, rfl, hV0, hb3⟩
  have hB3 := (hB1.then hb2).then hb3
  unfold resV
  have hv3 : KRes w3 R [.int .i64 R.code, .int .i64 R.value, V0, .string R.mem, .int .i64 R.steps] := res_K hV0 hro
  obtain ⟨Aw, cw, rfl, -⟩ := own_shape hV0
  clear hk1 hk2 hV0
  have g0_3 := fun o => (bat ((hb1.then hb2).then hb3) w.heap.size (by omega) o).trans (g0 o)
  have a0_3 := g0_3 0
  have a1_3 := g0_3 1
  have a2_3 := g0_3 2
  have a3_3 := g0_3 3
  simp at a0_3 a1_3 a2_3 a3_3
  clear g0_3
  have hz3 : w.heap.size < w3.heap.size := Nat.le_trans hz0 ((hb1.then hb2).then hb3).size
  obtain ⟨hw1, hw2, hw3⟩ := wProg_le hw
  have hbx3 := fun o => (Below.refl w3.heap.size w3).al (Nat.le_refl _) o
  go_wp2_with fail
  refine (ht _ (hB3.then (hbx3 _))).mono ?_; rintro e w4 ⟨cs4, rfl, ho4, hb4⟩
  have hk4 := o_prog ho4 hw
  have hs4 := so_prog ho4 hw1 hw2 hw3
  obtain ⟨v41, v42, v43, rfl, p1, p2, p3⟩ := ho4
  obtain ⟨D1, d1, rfl, -⟩ := own_sw p1
  obtain ⟨D2, d2, rfl, -⟩ := own_sw p2
  obtain ⟨D3, d3, rfl, -⟩ := own_sw p3
  clear p1 p2 p3
  have z4 := hb4.size
  have h34 := (hbx3 _).then hb4
  have r0_4 := bat hb4 w3.heap.size (by first | (simp; done) | (simp; omega)) 0
  have r1_4 := bat hb4 w3.heap.size (by first | (simp; done) | (simp; omega)) 1
  have r2_4 := bat hb4 w3.heap.size (by first | (simp; done) | (simp; omega)) 2
  have r3_4 := bat hb4 w3.heap.size (by first | (simp; done) | (simp; omega)) 3
  have r4_4 := bat hb4 w3.heap.size (by first | (simp; done) | (simp; omega)) 4
  simp at r0_4 r1_4 r2_4 r3_4 r4_4 z4 hs4
  have a0_4 := (bat h34 w.heap.size (by omega) 0).trans a0_3
  have a1_4 := (bat h34 w.heap.size (by omega) 1).trans a1_3
  have a2_4 := (bat h34 w.heap.size (by omega) 2).trans a2_3
  have a3_4 := (bat h34 w.heap.size (by omega) 3).trans a3_3
  clear hb4
  have hbx4 := fun o => (Below.refl w4.heap.size w4).al (Nat.le_refl _) o
  go_wp2_with fail
  refine (hta _ ((hB3.then h34).then (hbx4 _))).mono ?_; rintro e w5 ⟨va5, rfl, ho5, hb5⟩
  have hk5 : RI lm w5 va5 args := OwI.rd ho5 la'
  have hs5 := OwI.sl ho5 la'
  obtain ⟨D5, d5, rfl, -⟩ := own_sw ho5
  clear ho5
  have z5 := hb5.size
  have h45 := (hbx4 _).then hb5
  have x0_5 := bat hb5 w4.heap.size (by first | (simp; done) | (simp; omega)) 0
  have x1_5 := bat hb5 w4.heap.size (by first | (simp; done) | (simp; omega)) 1
  have x2_5 := bat hb5 w4.heap.size (by first | (simp; done) | (simp; omega)) 2
  have x3_5 := bat hb5 w4.heap.size (by first | (simp; done) | (simp; omega)) 3
  simp at x0_5 x1_5 x2_5 x3_5 z5 hs5
  clear hb5
  go_wp2_with fail
  refine (hcM _ _ _ (KM.mv hk4 h45) hk5).mono ?_; rintro e w6 ⟨V6, rfl, hV6, hb6⟩
  unfold resV
  have hv6 : KRes w6 R [.int .i64 R.code, .int .i64 R.value, V6, .string R.mem, .int .i64 R.steps] := res_K hV6 hro
  obtain ⟨Ag, cg, rfl, -, -⟩ := OwI.cells5 hV6
  have z6 := hb6.size
  have h46 := h45.then hb6
  have h36 := h34.then h46
  have hbx6 := fun o => (Below.refl w6.heap.size w6).al (Nat.le_refl _) o
  have r0_6 := (bat h46 w3.heap.size (by omega) 0).trans r0_4
  have r1_6 := (bat h46 w3.heap.size (by omega) 1).trans r1_4
  have r2_6 := (bat h46 w3.heap.size (by omega) 2).trans r2_4
  have r3_6 := (bat h46 w3.heap.size (by omega) 3).trans r3_4
  have r4_6 := (bat h46 w3.heap.size (by omega) 4).trans r4_4
  have z36 : w3.heap.size < w6.heap.size := by omega
  have z46 : w4.heap.size < w6.heap.size := by omega
  have zw6 : w.heap.size < w6.heap.size := by omega
  go_wp2_with fail
  refine (e_Res R R _ _ _ (hv6.mv' (hbx6 _)) (hv3.mv' (h36.then (hbx6 _)))).mono ?_; rintro e w7 ⟨rfl, hb7⟩
  rw [decide_eq_true rfl]
  have h67 := (hbx6 _).then hb7
  have y0_7 := bat hb7 w6.heap.size (by first | (simp; done) | (simp; omega)) 0
  have y1_7 := bat hb7 w6.heap.size (by first | (simp; done) | (simp; omega)) 1
  have y2_7 := bat hb7 w6.heap.size (by first | (simp; done) | (simp; omega)) 2
  have y3_7 := bat hb7 w6.heap.size (by first | (simp; done) | (simp; omega)) 3
  have y4_7 := bat hb7 w6.heap.size (by first | (simp; done) | (simp; omega)) 4
  have z7 := hb7.size
  simp at y0_7 y1_7 y2_7 y3_7 y4_7 z7
  have h47 := h46.then h67
  have h37 := h34.then h47
  have a0_7 := (bat h37 w.heap.size (by omega) 0).trans a0_3
  have a1_7 := (bat h37 w.heap.size (by omega) 1).trans a1_3
  have a2_7 := (bat h37 w.heap.size (by omega) 2).trans a2_3
  have a3_7 := (bat h37 w.heap.size (by omega) 3).trans a3_3
  have h57 := hb6.then h67
  have x0_7 := (bat h57 w4.heap.size (by omega) 0).trans x0_5
  have x1_7 := (bat h57 w4.heap.size (by omega) 1).trans x1_5
  have x2_7 := (bat h57 w4.heap.size (by omega) 2).trans x2_5
  have x3_7 := (bat h57 w4.heap.size (by omega) 3).trans x3_5
  clear hb7 hb6
  have hC7 := redrew5 (hB3.then h37)
  have hk4' := fun W hW => KM.mv hk4 (h47.then (w2 := W) hW)
  go_wp2_with fail
  go_region_held3 (fun W => W.cell? ⟨w.heap.size, 0, none⟩ = some (.int .i64 x.regs) ∧ W.cell? ⟨w.heap.size, 1, none⟩ = some (.slice A1 x.params.length c1) ∧ W.cell? ⟨w.heap.size, 2, none⟩ = some (.slice A2 x.widths.length c2) ∧ W.cell? ⟨w.heap.size, 3, none⟩ = some (.slice A3 x.code.length c3) ∧ W.cell? ⟨w4.heap.size, 0, none⟩ = some (.int .i64 x.regs) ∧ W.cell? ⟨w4.heap.size, 1, none⟩ = some (.slice D1 x.params.length d1) ∧ W.cell? ⟨w4.heap.size, 2, none⟩ = some (.slice D2 x.widths.length d2) ∧ W.cell? ⟨w4.heap.size, 3, none⟩ = some (.slice D3 x.code.length d3))
    (first | exact ⟨a0_7, a1_7, a2_7, a3_7, x0_7, x1_7, x2_7, x3_7⟩ | exact ⟨a0_8, a1_8, a2_8, a3_8, x0_8, x1_8, x2_8, x3_8⟩ | exact ⟨a0_9, a1_9, a2_9, a3_9, x0_9, x1_9, x2_9, x3_9⟩)
    (first
      | (go_at_call 16
         refine (ht _ hC7).mono ?_; rintro e w8 ⟨cs8, rfl, ho8, hb8⟩
         replace hb8 := undrew5 hb8
         have hk8 := o_prog ho8 hw
         obtain ⟨t1, t2, t3, rfl, p1, p2, p3⟩ := ho8
         obtain ⟨E1, e1, rfl, -⟩ := own_sw p1
         obtain ⟨E2, e2, rfl, -⟩ := own_sw p2
         obtain ⟨E3, e3, rfl, -⟩ := own_sw p3
         clear p1 p2 p3
         have z8 := hb8.size
         have a0_8 := (bat hb8 w.heap.size (by omega) 0).trans a0_7
         have a1_8 := (bat hb8 w.heap.size (by omega) 1).trans a1_7
         have a2_8 := (bat hb8 w.heap.size (by omega) 2).trans a2_7
         have a3_8 := (bat hb8 w.heap.size (by omega) 3).trans a3_7
         have x0_8 := (bat hb8 w4.heap.size (by omega) 0).trans x0_7
         have x1_8 := (bat hb8 w4.heap.size (by omega) 1).trans x1_7
         have x2_8 := (bat hb8 w4.heap.size (by omega) 2).trans x2_7
         have x3_8 := (bat hb8 w4.heap.size (by omega) 3).trans x3_7
         have he := e_Prog x x _ _ w8 (hk4' _ hb8) hk8
         rw [decide_eq_true rfl] at he)
      | (go_at_call 20
         refine he.mono ?_; rintro e w9 ⟨rfl, hb9⟩
         have a0_9 := (bat hb9 w.heap.size (by omega) 0).trans a0_8
         have a1_9 := (bat hb9 w.heap.size (by omega) 1).trans a1_8
         have a2_9 := (bat hb9 w.heap.size (by omega) 2).trans a2_8
         have a3_9 := (bat hb9 w.heap.size (by omega) 3).trans a3_8
         have x0_9 := (bat hb9 w4.heap.size (by omega) 0).trans x0_8
         have x1_9 := (bat hb9 w4.heap.size (by omega) 1).trans x1_8
         have x2_9 := (bat hb9 w4.heap.size (by omega) 2).trans x2_8
         have x3_9 := (bat hb9 w4.heap.size (by omega) 3).trans x3_8))
  have h79 := hb8.then hb9
  clear he hk8 hk4 hk4'
  have h49 := h47.then h79
  have h39 := h34.then h49
  have h69 := h67.then h79
  have h59 := h57.then h79
  have z9 := h79.size
  have hB9 := hB3.then h39
  go_wp2_with fail
  refine (hta _ hB9).mono ?_; rintro e w10 ⟨va10, rfl, ho10, hb10⟩
  have hk10 : RI lm w10 va10 args := OwI.rd ho10 la'
  clear ho10
  go_wp2_with fail
  refine (e_same5 (hk5.mv (h59.then hb10)) hk10).mono ?_; rintro e w11 ⟨rfl, hb11⟩
  have h911 := hb10.then hb11
  clear hk10 hk5 hb10 hb11
  have h411 := h49.then h911
  have h311 := h39.then h911
  have h611 := h69.then h911
  have h711 := h79.then h911
  have h511 := h59.then h911
  have z11 := h911.size
  have x0_11 := (bat h911 w4.heap.size (by omega) 0).trans x0_9
  have x1_11 := (bat h911 w4.heap.size (by omega) 1).trans x1_9
  have x2_11 := (bat h911 w4.heap.size (by omega) 2).trans x2_9
  have x3_11 := (bat h911 w4.heap.size (by omega) 3).trans x3_9
  have hmp := mProg_le x
  have hq1 : mProg x ≤ 7340032 := by omega
  clear hmp
  go_wp2_with fail
  refine (m_Prog (w3.heap.size + 1) w4.heap.size x [_, _, _, _] 1 w11 (by omega) (by omega) (hs4.mv (Chg.of_below (hi := 0) z4 h411)) (by omega) (by omega)).mono ?_; rintro e w12 ⟨rfl, hc12⟩
  generalize hM1 : (mProg x : Int) = M1 at *
  have hM1a : 0 ≤ M1 := by omega
  have hM1b : M1 ≤ 7340032 := by omega
  clear hM1 hq1
  go_wp2_with fail
  refine (m_S (w4.heap.size + 1) w5.heap.size (.slice D5 args.length d5) args (1 + M1) w12 ((hs5.mv (Chg.of_below (hi := 0) z5 h511)).mv hc12) (by omega) (by omega)).mono ?_; rintro e w13 ⟨rfl, hc13⟩
  have z12 := hc12.size
  have z13 := hc13.size
  have h313 : Below w3.heap.size w3 w13 := (h311.trans (hc12.below.mono (by omega))).trans (hc13.below.mono (by omega))
  have hG13 := own_abv (own_abv (own_mv hV6 h611) (by omega) hc12.abv) (Nat.le_refl _) hc13.abv
  have hv13 : KRes w13 R [.int .i64 R.code, .int .i64 R.value, .slice Ag R.out.length cg, .string R.mem, .int .i64 R.steps] := res_K hG13 hro
  have gy := fun o => ((hc13.cellAt w6.heap.size (by omega) (.inr (by omega)) o).trans (hc12.cellAt w6.heap.size (by omega) (.inr (by omega)) o)).trans (bat h711 w6.heap.size (by omega) o)
  have y0_13 := (gy 0).trans y0_7
  have y1_13 := (gy 1).trans y1_7
  have y2_13 := (gy 2).trans y2_7
  have y3_13 := (gy 3).trans y3_7
  have y4_13 := (gy 4).trans y4_7
  have gr := fun o => ((hc13.cellAt w3.heap.size (by omega) (.inl (by omega)) o).trans (hc12.cellAt w3.heap.size (by omega) (.inl (by omega)) o)).trans (bat h411 w3.heap.size (by omega) o)
  have r0_13 := (gr 0).trans r0_4
  have r1_13 := (gr 1).trans r1_4
  have r2_13 := (gr 2).trans r2_4
  have r3_13 := (gr 3).trans r3_4
  have r4_13 := (gr 4).trans r4_4
  have hneg13 : decide ((1 : Int) + M1 + (args.length : Int) < 0) = false := by simp; omega
  clear gy gr hc12 hc13
  go_wp2_with fail
  refine (e_Res R R _ _ _ hv13 (hv3.mv' h313)).mono ?_; rintro e w14 ⟨rfl, hb14⟩
  rw [decide_eq_true rfl]
  have h314 := h313.then hb14
  have hG14 := own_mv hG13 hb14
  have z14 := hb14.size
  have y0_14 := (bat hb14 w6.heap.size (by omega) 0).trans y0_13
  have y1_14 := (bat hb14 w6.heap.size (by omega) 1).trans y1_13
  have y2_14 := (bat hb14 w6.heap.size (by omega) 2).trans y2_13
  have y3_14 := (bat hb14 w6.heap.size (by omega) 3).trans y3_13
  have y4_14 := (bat hb14 w6.heap.size (by omega) 4).trans y4_13
  have r0_14 := (bat hb14 w3.heap.size (by omega) 0).trans r0_13
  have r1_14 := (bat hb14 w3.heap.size (by omega) 1).trans r1_13
  have r2_14 := (bat hb14 w3.heap.size (by omega) 2).trans r2_13
  have r3_14 := (bat hb14 w3.heap.size (by omega) 3).trans r3_13
  have r4_14 := (bat hb14 w3.heap.size (by omega) 4).trans r4_13
  have hwr : ∀ W, Below w14.heap.size w14 W → Wr W Ag R.out.length := fun W hW => by
    obtain ⟨A', c', hv, hh, -⟩ := OwI.cells5 (own_mv hG14 hW)
    cases hv
    exact hh
  have hGb : R.out.length = 0 ∨ ∃ G, Ag = some ⟨G, 0, none⟩ ∧ w5.heap.size ≤ G ∧ G < w6.heap.size := by
    obtain ⟨A', c', hv, -, hh⟩ := OwI.cells5 hV6
    cases hv
    by_cases h0 : R.out.length = 0
    · exact .inl h0
    · exact .inr (hh (by omega))
  clear hV6 hG13 hG14 hv13
  go_wp2_with fail
  refine (m_Res R Ag R.out.length cg 1 w14 hro hwr (by omega) (by omega)).mono ?_; rintro e w15 ⟨rfl, W0, hW0, hw15⟩
  have hld := (hwr W0 hW0).held 1
  rw [← hw15] at hld
  have h515 : Below w5.heap.size w14 w15 := by rw [hw15]; exact below_marks Ag _ _ (hW0.mono (by omega)) hGb
  have gy : ∀ o, w15.cell? ⟨w6.heap.size, o, none⟩ = w14.cell? ⟨w6.heap.size, o, none⟩ := fun o => by
    rw [hw15]; exact (far_marks Ag _ _ W0 o hGb).trans (bat hW0 w6.heap.size (by omega) o)
  have y0_15 := (gy 0).trans y0_14
  have y1_15 := (gy 1).trans y1_14
  have y2_15 := (gy 2).trans y2_14
  have y3_15 := (gy 3).trans y3_14
  have y4_15 := (gy 4).trans y4_14
  have r0_15 := (bat h515 w3.heap.size (by omega) 0).trans r0_14
  have r1_15 := (bat h515 w3.heap.size (by omega) 1).trans r1_14
  have r2_15 := (bat h515 w3.heap.size (by omega) 2).trans r2_14
  have r3_15 := (bat h515 w3.heap.size (by omega) 3).trans r3_14
  have r4_15 := (bat h515 w3.heap.size (by omega) 4).trans r4_14
  have h315 : Below w3.heap.size w3 w15 := h314.trans (h515.mono (by omega))
  have z15 := h515.size
  clear gy hwr hw15 hW0
  go_wp2_with fail
  refine (h_Res R Ag R.out.length cg 1 w15 hro hld (by omega) (by omega)).mono ?_; rintro e w16 ⟨rfl, hb16⟩
  have z16 := hb16.size
  have h316 := h315.then hb16
  have hld16 := hld.mv hb16
  have y0_16 := (bat hb16 w6.heap.size (by omega) 0).trans y0_15
  have y1_16 := (bat hb16 w6.heap.size (by omega) 1).trans y1_15
  have y2_16 := (bat hb16 w6.heap.size (by omega) 2).trans y2_15
  have y3_16 := (bat hb16 w6.heap.size (by omega) 3).trans y3_15
  have y4_16 := (bat hb16 w6.heap.size (by omega) 4).trans y4_15
  have r0_16 := (bat hb16 w3.heap.size (by omega) 0).trans r0_15
  have r1_16 := (bat hb16 w3.heap.size (by omega) 1).trans r1_15
  have r2_16 := (bat hb16 w3.heap.size (by omega) 2).trans r2_15
  have r3_16 := (bat hb16 w3.heap.size (by omega) 3).trans r3_15
  have r4_16 := (bat hb16 w3.heap.size (by omega) 4).trans r4_15
  have a0_16 := (bat h316 w.heap.size (by omega) 0).trans a0_3
  have a1_16 := (bat h316 w.heap.size (by omega) 1).trans a1_3
  have a2_16 := (bat h316 w.heap.size (by omega) 2).trans a2_3
  have a3_16 := (bat h316 w.heap.size (by omega) 3).trans a3_3
  have q0 : decide ((1 : Int) + (R.out.length : Int) < 0) = false := by simp; omega
  have q1 : ((1 + (R.out.length : Int)) != (1 + (R.out.length : Int))) = false := by simp
  have hB16 := hB3.then h316
  clear hld
  go_wp2_with fail
  refine (ht _ hB16).mono ?_; rintro e w17 ⟨cs17, rfl, ho17, hb17⟩
  have hk17 := o_prog ho17 hw
  obtain ⟨t1, t2, t3, rfl, p1, p2, p3⟩ := ho17
  clear p1 p2 p3
  go_wp2_with fail
  refine (hta _ (hB16.then hb17)).mono ?_; rintro e w18 ⟨va18, rfl, ho18, hb18⟩
  have hk18 : RI lm w18 va18 args := OwI.rd ho18 la'
  clear ho18
  go_wp2_with fail
  refine (hcM _ _ _ (KM.mv hk17 hb18) hk18).mono ?_; rintro e w19 ⟨V19, rfl, hV19, hb19⟩
  unfold resV
  have hv19 : KRes w19 R [.int .i64 R.code, .int .i64 R.value, V19, .string R.mem, .int .i64 R.steps] := res_K hV19 hro
  obtain ⟨Ah, ch, rfl, -, -⟩ := OwI.cells5 hV19
  have h1619 := (hb17.then hb18).then hb19
  have z19 := h1619.size
  have hbx19 := fun o => (Below.refl w19.heap.size w19).al (Nat.le_refl _) o
  have z319 : w3.heap.size < w19.heap.size := by omega
  have z619 : w6.heap.size < w19.heap.size := by omega
  have r0_19 := (bat h1619 w3.heap.size (by omega) 0).trans r0_16
  have r1_19 := (bat h1619 w3.heap.size (by omega) 1).trans r1_16
  have r2_19 := (bat h1619 w3.heap.size (by omega) 2).trans r2_16
  have r3_19 := (bat h1619 w3.heap.size (by omega) 3).trans r3_16
  have r4_19 := (bat h1619 w3.heap.size (by omega) 4).trans r4_16
  go_wp2_with fail
  refine (e_Res R R _ _ _ (hv19.mv' (hbx19 _)) (hv3.mv' ((h316.then h1619).then (hbx19 _)))).mono ?_; rintro e w20 ⟨rfl, hb20⟩
  rw [decide_eq_true rfl]
  have h1620 := h1619.then ((hbx19 _).then hb20)
  have y0_20 := (bat h1620 w6.heap.size (by omega) 0).trans y0_16
  have y1_20 := (bat h1620 w6.heap.size (by omega) 1).trans y1_16
  have y2_20 := (bat h1620 w6.heap.size (by omega) 2).trans y2_16
  have y3_20 := (bat h1620 w6.heap.size (by omega) 3).trans y3_16
  have y4_20 := (bat h1620 w6.heap.size (by omega) 4).trans y4_16
  go_wp2_with fail
  refine (h_Res R Ag R.out.length cg 1 w20 hro (hld16.mv h1620) (by omega) (by omega)).mono ?_; rintro e w21 ⟨rfl, hb21⟩
  go_wp2
  go_ret
  exact ⟨rfl, (hB16.then h1620).then hb21⟩
end Go.Proofs.Ytdnbiohohbnhgaa
set_option linter.unusedSimpArgs false
set_option linter.unusedVariables false
namespace Go.Proofs.Ytdnbiohohbnhgaa
open Go.RowKit Go.Deep Go.ChangeShapes Go.WideShapes
theorem ln2 {cs : List Value} (h : cs.length = 2) : ∃ c0 c1, cs = [c0, c1] := by
  match cs, h with
  | [c0, c1], _ => exact ⟨_, _, rfl⟩
theorem ln3 {cs : List Value} (h : cs.length = 3) : ∃ c0 c1 c2, cs = [c0, c1, c2] := by
  match cs, h with
  | [c0, c1, c2], _ => exact ⟨_, _, _, rfl⟩
theorem ln4 {cs : List Value} (h : cs.length = 4) : ∃ c0 c1 c2 c3, cs = [c0, c1, c2, c3] := by
  match cs, h with
  | [c0, c1, c2, c3], _ => exact ⟨_, _, _, _, rfl⟩
theorem ln6 {cs : List Value} (h : cs.length = 6) : ∃ c0 c1 c2 c3 c4 c5, cs = [c0, c1, c2, c3, c4, c5] := by
  match cs, h with
  | [c0, c1, c2, c3, c4, c5], _ => exact ⟨_, _, _, _, _, _, rfl⟩
theorem ln7 {cs : List Value} (h : cs.length = 7) : ∃ c0 c1 c2 c3 c4 c5 c6, cs = [c0, c1, c2, c3, c4, c5, c6] := by
  match cs, h with
  | [c0, c1, c2, c3, c4, c5, c6], _ => exact ⟨_, _, _, _, _, _, _, rfl⟩
theorem ini_of {n : Int} (h : (Lit.int .i64 n).wf = true) : InI n := by
  unfold Lit.wf at h
  simp only [Bool.and_eq_true, decide_eq_true_eq] at h
  exact h
section
variable {H : Type} {enc : TypeId × Value → H}
/-- What is read as data of a type is of a kind. -/
def Op {α : Type} (enc : TypeId × Value → H) (W : World) (t sz : Nat) (K : World → α → List Value → Prop) : Prop := ∀ (n : Nat) (cs : List Value) (y : DataW H × List MemPlace), DataW.trod enc Try.prog W 0 (fun _ => true) true n t cs = some y → ∃ x, K W x cs ∧ cs.length = sz
theorem op_int {W : World} : Op enc W 2 1 KInt := fun n cs y h => by
  obtain ⟨q, rfl, _, _⟩ := DataW.trod_int Try.underlying2 h
  exact ⟨q, rfl, rfl⟩
theorem op_slice {α : Type} [Inhabited α] {W : World} {t e sz : Nat} {K : World → α → List Value → Prop} (ht : Try.prog.underlying t = some (.slice e)) (hc : Try.prog.cellsOf e = sz) (hz : 0 < sz) (hK : Op enc W e sz K) {n : Nat} {cs : List Value} {y : DataW H × List MemPlace} (h : DataW.trod enc Try.prog W 0 (fun _ => true) true n t cs = some y) : ∃ v xs, cs = [v] ∧ Rd lw sz K W v xs := by
  rcases open_slice ht h with ⟨rfl, _⟩ | ⟨a, len, cap, m, n', D, Pl, rfl, _, hl, hm, hmm, _, hx⟩
  · exact ⟨_, [], rfl, none, 0, rfl, Nat.le_refl _, Nat.zero_le _, fun _ => rfl, fun h => absurd h (Nat.lt_irrefl _)⟩
  have hlm : len ≤ m := by rw [hmm]; simpa using hl
  clear hmm
  have each : ∀ i, i < m → ∃ x cs', K W x cs' ∧ cs'.length = sz ∧ ∀ j, j < sz → W.cell? ((a.add (i * sz)).add j) = cs'[j]? := fun i hi => by
    obtain ⟨cs', h1, h2⟩ := hx i hi
    rw [hc] at h1
    obtain ⟨_, hlen, hcell⟩ := World.cells?_some h1
    obtain ⟨x, h3, _⟩ := hK _ _ _ h2
    exact ⟨x, cs', h3, hlen, hcell⟩
  obtain ⟨f, hf⟩ := choose_lt each
  refine ⟨_, (List.range len).map f, rfl, some a, cap, by simp, by simpa using hl, by simp; unfold maxLen at hm; show len ≤ 9223372036854775807; omega, (by simp), fun h0 => ?_⟩
  have h0' : 0 < len := by simpa using h0
  obtain ⟨cs0, _, hl0, hc0⟩ := hf 0 (by omega)
  have h00 := hc0 0 hz
  rw [List.getElem?_eq_getElem (by omega)] at h00
  have hsp : a.spot = none := by simpa [Addr.add] using World.cell?_spot h00
  obtain ⟨b, off, sp⟩ := a
  cases hsp
  have hb : b < W.heap.size := by
    unfold World.cell? at h00
    split at h00
    · rename_i hh; rw [add_plain, add_plain] at hh; exact (Array.getElem?_eq_some_iff.1 hh).1
    · cases h00
  refine ⟨b, off, rfl, hb, fun i hi => ?_⟩
  have hi' : i < len := by simpa using hi
  obtain ⟨cs', h1, h2, h3⟩ := hf i (by omega)
  refine ⟨cs', by simpa using h1, h2, fun j hj => ?_⟩
  have := h3 j (by omega)
  rw [List.getElem?_eq_getElem hj] at this
  rw [add_plain, add_plain] at this
  exact this
theorem cells_int : Try.prog.cellsOf 2 = 1 := by kernel_rfl
theorem op_ints {W : World} {n : Nat} {cs : List Value} {y : DataW H × List MemPlace} (h : DataW.trod enc Try.prog W 0 (fun _ => true) true n 22 cs = some y) : ∃ v xs, cs = [v] ∧ RI lw W v xs := op_slice Try.underlying22 cells_int (by omega) op_int h
theorem cells_ints : Try.prog.cellsOf 22 = 1 := by kernel_rfl
theorem cells_Phi : Try.prog.cellsOf 148 = 2 := by kernel_rfl
theorem op_Phi {W : World} : Op enc W 148 2 (KPhi lw) := fun n cs y h => by
  obtain ⟨xs, m, _, _, hl, hs, hf⟩ := DataW.trod_struct Try.underlying148 h
  rw [cells_Phi] at hl
  have hs : xs.length = 2 := hs
  obtain ⟨c0, c1, rfl⟩ := ln2 hl
  have u0 : DataW.trod enc Try.prog W 0 (fun _ => true) true m 2 (([c0, c1].drop 0).take (Try.prog.cellsOf 2)) = xs[0]? := hf 0 _ rfl
  rw [cells_int, List.getElem?_eq_getElem (by omega)] at u0
  have u1 : DataW.trod enc Try.prog W 0 (fun _ => true) true m 22 (([c0, c1].drop 1).take (Try.prog.cellsOf 22)) = xs[1]? := hf 1 _ rfl
  rw [cells_ints, List.getElem?_eq_getElem (by omega)] at u1
  obtain ⟨i0, e0, _, f0⟩ := DataW.trod_int Try.underlying2 u0
  obtain rfl : c0 = .int .i64 i0 := by simpa using e0
  obtain ⟨v1, x1, e1, r1⟩ := op_ints u1
  obtain rfl : c1 = v1 := by simpa using e1
  exact ⟨⟨i0, x1⟩, ⟨_, rfl, r1⟩, rfl⟩
theorem cells_sPhi : Try.prog.cellsOf 81 = 1 := by kernel_rfl
theorem op_sPhi {W : World} {n : Nat} {cs : List Value} {y : DataW H × List MemPlace} (h : DataW.trod enc Try.prog W 0 (fun _ => true) true n 81 cs = some y) : ∃ v xs, cs = [v] ∧ Rd lw 2 (KPhi lw) W v xs := op_slice Try.underlying81 cells_Phi (by omega) op_Phi h
theorem cells_Inst : Try.prog.cellsOf 150 = 7 := by kernel_rfl
theorem op_Inst {W : World} : Op enc W 150 7 (KInst lw) := fun n cs y h => by
  obtain ⟨xs, m, _, _, hl, hs, hf⟩ := DataW.trod_struct Try.underlying150 h
  rw [cells_Inst] at hl
  have hs : xs.length = 7 := hs
  obtain ⟨c0, c1, c2, c3, c4, c5, c6, rfl⟩ := ln7 hl
  have u0 : DataW.trod enc Try.prog W 0 (fun _ => true) true m 2 (([c0, c1, c2, c3, c4, c5, c6].drop 0).take (Try.prog.cellsOf 2)) = xs[0]? := hf 0 _ rfl
  rw [cells_int, List.getElem?_eq_getElem (by omega)] at u0
  have u1 : DataW.trod enc Try.prog W 0 (fun _ => true) true m 2 (([c0, c1, c2, c3, c4, c5, c6].drop 1).take (Try.prog.cellsOf 2)) = xs[1]? := hf 1 _ rfl
  rw [cells_int, List.getElem?_eq_getElem (by omega)] at u1
  have u2 : DataW.trod enc Try.prog W 0 (fun _ => true) true m 2 (([c0, c1, c2, c3, c4, c5, c6].drop 2).take (Try.prog.cellsOf 2)) = xs[2]? := hf 2 _ rfl
  rw [cells_int, List.getElem?_eq_getElem (by omega)] at u2
  have u3 : DataW.trod enc Try.prog W 0 (fun _ => true) true m 2 (([c0, c1, c2, c3, c4, c5, c6].drop 3).take (Try.prog.cellsOf 2)) = xs[3]? := hf 3 _ rfl
  rw [cells_int, List.getElem?_eq_getElem (by omega)] at u3
  have u4 : DataW.trod enc Try.prog W 0 (fun _ => true) true m 2 (([c0, c1, c2, c3, c4, c5, c6].drop 4).take (Try.prog.cellsOf 2)) = xs[4]? := hf 4 _ rfl
  rw [cells_int, List.getElem?_eq_getElem (by omega)] at u4
  have u5 : DataW.trod enc Try.prog W 0 (fun _ => true) true m 2 (([c0, c1, c2, c3, c4, c5, c6].drop 5).take (Try.prog.cellsOf 2)) = xs[5]? := hf 5 _ rfl
  rw [cells_int, List.getElem?_eq_getElem (by omega)] at u5
  have u6 : DataW.trod enc Try.prog W 0 (fun _ => true) true m 22 (([c0, c1, c2, c3, c4, c5, c6].drop 6).take (Try.prog.cellsOf 22)) = xs[6]? := hf 6 _ rfl
  rw [cells_ints, List.getElem?_eq_getElem (by omega)] at u6
  obtain ⟨i0, e0, _, f0⟩ := DataW.trod_int Try.underlying2 u0
  obtain rfl : c0 = .int .i64 i0 := by simpa using e0
  obtain ⟨i1, e1, _, f1⟩ := DataW.trod_int Try.underlying2 u1
  obtain rfl : c1 = .int .i64 i1 := by simpa using e1
  obtain ⟨i2, e2, _, f2⟩ := DataW.trod_int Try.underlying2 u2
  obtain rfl : c2 = .int .i64 i2 := by simpa using e2
  obtain ⟨i3, e3, _, f3⟩ := DataW.trod_int Try.underlying2 u3
  obtain rfl : c3 = .int .i64 i3 := by simpa using e3
  obtain ⟨i4, e4, _, f4⟩ := DataW.trod_int Try.underlying2 u4
  obtain rfl : c4 = .int .i64 i4 := by simpa using e4
  obtain ⟨i5, e5, _, f5⟩ := DataW.trod_int Try.underlying2 u5
  obtain rfl : c5 = .int .i64 i5 := by simpa using e5
  obtain ⟨v6, x6, e6, r6⟩ := op_ints u6
  obtain rfl : c6 = v6 := by simpa using e6
  exact ⟨⟨i0, i1, i2, i3, i4, i5, x6⟩, ⟨_, rfl, r6⟩, rfl⟩
theorem cells_sInst : Try.prog.cellsOf 82 = 1 := by kernel_rfl
theorem op_sInst {W : World} {n : Nat} {cs : List Value} {y : DataW H × List MemPlace} (h : DataW.trod enc Try.prog W 0 (fun _ => true) true n 82 cs = some y) : ∃ v xs, cs = [v] ∧ Rd lw 7 (KInst lw) W v xs := op_slice Try.underlying82 cells_Inst (by omega) op_Inst h
theorem cells_Term : Try.prog.cellsOf 84 = 4 := by kernel_rfl
theorem op_Term {W : World} : Op enc W 84 4 (KTerm) := fun n cs y h => by
  obtain ⟨xs, m, _, _, hl, hs, hf⟩ := DataW.trod_struct Try.underlying84 h
  rw [cells_Term] at hl
  have hs : xs.length = 4 := hs
  obtain ⟨c0, c1, c2, c3, rfl⟩ := ln4 hl
  have u0 : DataW.trod enc Try.prog W 0 (fun _ => true) true m 2 (([c0, c1, c2, c3].drop 0).take (Try.prog.cellsOf 2)) = xs[0]? := hf 0 _ rfl
  rw [cells_int, List.getElem?_eq_getElem (by omega)] at u0
  have u1 : DataW.trod enc Try.prog W 0 (fun _ => true) true m 2 (([c0, c1, c2, c3].drop 1).take (Try.prog.cellsOf 2)) = xs[1]? := hf 1 _ rfl
  rw [cells_int, List.getElem?_eq_getElem (by omega)] at u1
  have u2 : DataW.trod enc Try.prog W 0 (fun _ => true) true m 2 (([c0, c1, c2, c3].drop 2).take (Try.prog.cellsOf 2)) = xs[2]? := hf 2 _ rfl
  rw [cells_int, List.getElem?_eq_getElem (by omega)] at u2
  have u3 : DataW.trod enc Try.prog W 0 (fun _ => true) true m 2 (([c0, c1, c2, c3].drop 3).take (Try.prog.cellsOf 2)) = xs[3]? := hf 3 _ rfl
  rw [cells_int, List.getElem?_eq_getElem (by omega)] at u3
  obtain ⟨i0, e0, _, f0⟩ := DataW.trod_int Try.underlying2 u0
  obtain rfl : c0 = .int .i64 i0 := by simpa using e0
  obtain ⟨i1, e1, _, f1⟩ := DataW.trod_int Try.underlying2 u1
  obtain rfl : c1 = .int .i64 i1 := by simpa using e1
  obtain ⟨i2, e2, _, f2⟩ := DataW.trod_int Try.underlying2 u2
  obtain rfl : c2 = .int .i64 i2 := by simpa using e2
  obtain ⟨i3, e3, _, f3⟩ := DataW.trod_int Try.underlying2 u3
  obtain rfl : c3 = .int .i64 i3 := by simpa using e3
  exact ⟨⟨i0, i1, i2, i3⟩, rfl, rfl⟩
theorem cells_Block : Try.prog.cellsOf 86 = 6 := by kernel_rfl
theorem op_Block {W : World} : Op enc W 86 6 (KBlock lw) := fun n cs y h => by
  obtain ⟨xs, m, _, _, hl, hs, hf⟩ := DataW.trod_struct Try.underlying86 h
  rw [cells_Block] at hl
  have hs : xs.length = 3 := hs
  obtain ⟨c0, c1, c2, c3, c4, c5, rfl⟩ := ln6 hl
  have u0 : DataW.trod enc Try.prog W 0 (fun _ => true) true m 81 (([c0, c1, c2, c3, c4, c5].drop 0).take (Try.prog.cellsOf 81)) = xs[0]? := hf 0 _ rfl
  rw [cells_sPhi, List.getElem?_eq_getElem (by omega)] at u0
  have u1 : DataW.trod enc Try.prog W 0 (fun _ => true) true m 82 (([c0, c1, c2, c3, c4, c5].drop 1).take (Try.prog.cellsOf 82)) = xs[1]? := hf 1 _ rfl
  rw [cells_sInst, List.getElem?_eq_getElem (by omega)] at u1
  have u2 : DataW.trod enc Try.prog W 0 (fun _ => true) true m 84 (([c0, c1, c2, c3, c4, c5].drop 2).take (Try.prog.cellsOf 84)) = xs[2]? := hf 2 _ rfl
  rw [cells_Term, List.getElem?_eq_getElem (by omega)] at u2
  obtain ⟨v0, x0, e0, r0⟩ := op_sPhi u0
  obtain rfl : c0 = v0 := by simpa using e0
  obtain ⟨v1, x1, e1, r1⟩ := op_sInst u1
  obtain rfl : c1 = v1 := by simpa using e1
  obtain ⟨t2, e2, _⟩ := op_Term _ _ _ u2
  unfold KTerm at e2
  simp at e2
  obtain ⟨rfl, rfl, rfl, rfl⟩ := e2
  exact ⟨⟨x0, x1, t2⟩, ⟨_, _, rfl, r0, r1⟩, rfl⟩
theorem cells_sBlock : Try.prog.cellsOf 23 = 1 := by kernel_rfl
theorem op_sBlock {W : World} {n : Nat} {cs : List Value} {y : DataW H × List MemPlace} (h : DataW.trod enc Try.prog W 0 (fun _ => true) true n 23 cs = some y) : ∃ v xs, cs = [v] ∧ Rd lw 6 (KBlock lw) W v xs := op_slice Try.underlying23 cells_Block (by omega) op_Block h
theorem cells_Func : Try.prog.cellsOf 25 = 3 := by kernel_rfl
theorem op_Func {W : World} : Op enc W 25 3 (KFunc lw) := fun n cs y h => by
  obtain ⟨xs, m, _, _, hl, hs, hf⟩ := DataW.trod_struct Try.underlying25 h
  rw [cells_Func] at hl
  have hs : xs.length = 3 := hs
  obtain ⟨c0, c1, c2, rfl⟩ := ln3 hl
  have u0 : DataW.trod enc Try.prog W 0 (fun _ => true) true m 22 (([c0, c1, c2].drop 0).take (Try.prog.cellsOf 22)) = xs[0]? := hf 0 _ rfl
  rw [cells_ints, List.getElem?_eq_getElem (by omega)] at u0
  have u1 : DataW.trod enc Try.prog W 0 (fun _ => true) true m 2 (([c0, c1, c2].drop 1).take (Try.prog.cellsOf 2)) = xs[1]? := hf 1 _ rfl
  rw [cells_int, List.getElem?_eq_getElem (by omega)] at u1
  have u2 : DataW.trod enc Try.prog W 0 (fun _ => true) true m 23 (([c0, c1, c2].drop 2).take (Try.prog.cellsOf 23)) = xs[2]? := hf 2 _ rfl
  rw [cells_sBlock, List.getElem?_eq_getElem (by omega)] at u2
  obtain ⟨v0, x0, e0, r0⟩ := op_ints u0
  obtain rfl : c0 = v0 := by simpa using e0
  obtain ⟨i1, e1, _, f1⟩ := DataW.trod_int Try.underlying2 u1
  obtain rfl : c1 = .int .i64 i1 := by simpa using e1
  obtain ⟨v2, x2, e2, r2⟩ := op_sBlock u2
  obtain rfl : c2 = v2 := by simpa using e2
  exact ⟨⟨x0, i1, x2⟩, ⟨_, _, rfl, r0, r2⟩, rfl⟩
theorem cells_MIns : Try.prog.cellsOf 115 = 7 := by kernel_rfl
theorem op_MIns {W : World} : Op enc W 115 7 (KMIns) := fun n cs y h => by
  obtain ⟨xs, m, _, _, hl, hs, hf⟩ := DataW.trod_struct Try.underlying115 h
  rw [cells_MIns] at hl
  have hs : xs.length = 7 := hs
  obtain ⟨c0, c1, c2, c3, c4, c5, c6, rfl⟩ := ln7 hl
  have u0 : DataW.trod enc Try.prog W 0 (fun _ => true) true m 2 (([c0, c1, c2, c3, c4, c5, c6].drop 0).take (Try.prog.cellsOf 2)) = xs[0]? := hf 0 _ rfl
  rw [cells_int, List.getElem?_eq_getElem (by omega)] at u0
  have u1 : DataW.trod enc Try.prog W 0 (fun _ => true) true m 2 (([c0, c1, c2, c3, c4, c5, c6].drop 1).take (Try.prog.cellsOf 2)) = xs[1]? := hf 1 _ rfl
  rw [cells_int, List.getElem?_eq_getElem (by omega)] at u1
  have u2 : DataW.trod enc Try.prog W 0 (fun _ => true) true m 2 (([c0, c1, c2, c3, c4, c5, c6].drop 2).take (Try.prog.cellsOf 2)) = xs[2]? := hf 2 _ rfl
  rw [cells_int, List.getElem?_eq_getElem (by omega)] at u2
  have u3 : DataW.trod enc Try.prog W 0 (fun _ => true) true m 2 (([c0, c1, c2, c3, c4, c5, c6].drop 3).take (Try.prog.cellsOf 2)) = xs[3]? := hf 3 _ rfl
  rw [cells_int, List.getElem?_eq_getElem (by omega)] at u3
  have u4 : DataW.trod enc Try.prog W 0 (fun _ => true) true m 2 (([c0, c1, c2, c3, c4, c5, c6].drop 4).take (Try.prog.cellsOf 2)) = xs[4]? := hf 4 _ rfl
  rw [cells_int, List.getElem?_eq_getElem (by omega)] at u4
  have u5 : DataW.trod enc Try.prog W 0 (fun _ => true) true m 2 (([c0, c1, c2, c3, c4, c5, c6].drop 5).take (Try.prog.cellsOf 2)) = xs[5]? := hf 5 _ rfl
  rw [cells_int, List.getElem?_eq_getElem (by omega)] at u5
  have u6 : DataW.trod enc Try.prog W 0 (fun _ => true) true m 2 (([c0, c1, c2, c3, c4, c5, c6].drop 6).take (Try.prog.cellsOf 2)) = xs[6]? := hf 6 _ rfl
  rw [cells_int, List.getElem?_eq_getElem (by omega)] at u6
  obtain ⟨i0, e0, _, f0⟩ := DataW.trod_int Try.underlying2 u0
  obtain rfl : c0 = .int .i64 i0 := by simpa using e0
  obtain ⟨i1, e1, _, f1⟩ := DataW.trod_int Try.underlying2 u1
  obtain rfl : c1 = .int .i64 i1 := by simpa using e1
  obtain ⟨i2, e2, _, f2⟩ := DataW.trod_int Try.underlying2 u2
  obtain rfl : c2 = .int .i64 i2 := by simpa using e2
  obtain ⟨i3, e3, _, f3⟩ := DataW.trod_int Try.underlying2 u3
  obtain rfl : c3 = .int .i64 i3 := by simpa using e3
  obtain ⟨i4, e4, _, f4⟩ := DataW.trod_int Try.underlying2 u4
  obtain rfl : c4 = .int .i64 i4 := by simpa using e4
  obtain ⟨i5, e5, _, f5⟩ := DataW.trod_int Try.underlying2 u5
  obtain rfl : c5 = .int .i64 i5 := by simpa using e5
  obtain ⟨i6, e6, _, f6⟩ := DataW.trod_int Try.underlying2 u6
  obtain rfl : c6 = .int .i64 i6 := by simpa using e6
  exact ⟨⟨i0, i1, i2, i3, i4, i5, i6⟩, ⟨rfl, ini_of f0⟩, rfl⟩
theorem cells_sMIns : Try.prog.cellsOf 37 = 1 := by kernel_rfl
theorem op_sMIns {W : World} {n : Nat} {cs : List Value} {y : DataW H × List MemPlace} (h : DataW.trod enc Try.prog W 0 (fun _ => true) true n 37 cs = some y) : ∃ v xs, cs = [v] ∧ Rd lw 7 (KMIns) W v xs := op_slice Try.underlying37 cells_MIns (by omega) op_MIns h
theorem cells_Program : Try.prog.cellsOf 39 = 4 := by kernel_rfl
theorem op_Program {W : World} : Op enc W 39 4 (KProg lw) := fun n cs y h => by
  obtain ⟨xs, m, _, _, hl, hs, hf⟩ := DataW.trod_struct Try.underlying39 h
  rw [cells_Program] at hl
  have hs : xs.length = 4 := hs
  obtain ⟨c0, c1, c2, c3, rfl⟩ := ln4 hl
  have u0 : DataW.trod enc Try.prog W 0 (fun _ => true) true m 2 (([c0, c1, c2, c3].drop 0).take (Try.prog.cellsOf 2)) = xs[0]? := hf 0 _ rfl
  rw [cells_int, List.getElem?_eq_getElem (by omega)] at u0
  have u1 : DataW.trod enc Try.prog W 0 (fun _ => true) true m 22 (([c0, c1, c2, c3].drop 1).take (Try.prog.cellsOf 22)) = xs[1]? := hf 1 _ rfl
  rw [cells_ints, List.getElem?_eq_getElem (by omega)] at u1
  have u2 : DataW.trod enc Try.prog W 0 (fun _ => true) true m 22 (([c0, c1, c2, c3].drop 2).take (Try.prog.cellsOf 22)) = xs[2]? := hf 2 _ rfl
  rw [cells_ints, List.getElem?_eq_getElem (by omega)] at u2
  have u3 : DataW.trod enc Try.prog W 0 (fun _ => true) true m 37 (([c0, c1, c2, c3].drop 3).take (Try.prog.cellsOf 37)) = xs[3]? := hf 3 _ rfl
  rw [cells_sMIns, List.getElem?_eq_getElem (by omega)] at u3
  obtain ⟨i0, e0, _, f0⟩ := DataW.trod_int Try.underlying2 u0
  obtain rfl : c0 = .int .i64 i0 := by simpa using e0
  obtain ⟨v1, x1, e1, r1⟩ := op_ints u1
  obtain rfl : c1 = v1 := by simpa using e1
  obtain ⟨v2, x2, e2, r2⟩ := op_ints u2
  obtain rfl : c2 = v2 := by simpa using e2
  obtain ⟨v3, x3, e3, r3⟩ := op_sMIns u3
  obtain rfl : c3 = v3 := by simpa using e3
  exact ⟨⟨i0, x1, x2, x3⟩, ⟨_, _, _, rfl, r1, r2, r3⟩, rfl⟩
end
end Go.Proofs.Ytdnbiohohbnhgaa
set_option linter.unusedSimpArgs false
set_option linter.unusedVariables false
namespace Go.Proofs.Ytdnbiohohbnhgaa
open Go.ChangeShapes Go.WideShapes Go.ChangeAt Go.RowKit
open Go.ChangeMaps (open_string shut_string)
theorem ownR5 : ownKnob Try.prog.godebug = none := by kernel_rfl
theorem laidOutR5 : laidOutB Try.prog = true := by kernel_rfl
set_option maxRecDepth 100000 in
theorem lifted_FnExactMachineRun (os : Os) (started : os.Started) (H : Type) (enc : TypeId × Value → H) :
    ReturnsInHanded {} Try.checked os 4 .any (Rows.fnExactMachineRunSpec.pre6 enc Try.prog Try.f4 Rows.fnExactMachineRunRow.domain false) (Rows.fnExactMachineRunSpec.post enc Try.prog Try.f4 false true false false) := by
  refine returnsInHanded_of_change (C := Try.checked) ownR5 started (by kernel_rfl) Try.func4
    (ChangeSpec.witness6 (enc := enc) (C := Try.checked) false ⟨#[], #[.agg #[.int .i64 0, .slice none 0 0, .slice none 0 0, .slice none 0 0], .slice none 0 0, .string ByteArray.empty, .int .i64 0], []⟩ 8 (by kernel_rfl) (by kernel_rfl) (by kernel_rfl) (by kernel_rfl)) ?_
  intro W base args ds gs before hval0 hW hcnd _
  have hval : ∀ (j : Nat) t v, Try.f4.params[j]? = some t → args[j]? = some v → Value.okWide Try.prog W .any base t v := hval0
  have hW' := hW
  obtain ⟨p, q, hA0, hV, rfl, hfz, hnd⟩ := hW
  have hA : DataW.TrodAll enc Try.prog W 0 (fun _ => true) true Try.f4.params.toList args.toList ds p := hA0
  rw [Try.params4] at hA hval
  obtain ⟨v0, vs0, d0, ds0, p0, q0, hargs0, rfl, rfl, h0, r0⟩ := trodAll_cons hA
  obtain ⟨v1, vs1, d1, ds1, p1, q1, hargs1, rfl, rfl, h1, r1⟩ := trodAll_cons r0
  obtain ⟨v2, vs2, d2, ds2, p2, q2, hargs2, rfl, rfl, h2, r2⟩ := trodAll_cons r1
  obtain ⟨v3, vs3, d3, ds3, p3, q3, hargs3, rfl, rfl, h3, r3⟩ := trodAll_cons r2
  obtain ⟨rfl, rfl, rfl⟩ := trodAll_nil r3
  subst hargs3
  subst hargs2
  subst hargs1
  obtain rfl : args = #[v0, v1, v2, v3] := by cases args; simp_all
  obtain ⟨rfl, rfl⟩ := trodVars_none hV
  obtain ⟨cs0, rfl, _⟩ := okWide_struct Try.underlying39 (hval 0 39 v0 rfl rfl)
  have k0 := h0
  have lt0 : ∀ x ∈ p0, x.block < W.heap.size := by obtain ⟨m, hm⟩ := k0; exact DataW.trod_lt m _ _ _ hm
  obtain ⟨x0, w0⟩ : ∃ x, KProg lw W x cs0.toList := by
    obtain ⟨fuel, hf⟩ := h0
    obtain ⟨x, hx, _⟩ := op_Program _ _ _ hf
    exact ⟨x, hx⟩
  obtain ⟨A1, n1, c1, rfl⟩ := okWide_slice Try.underlying22 (hval 1 22 v1 rfl rfl)
  have k1 := h1
  have lt1 : ∀ x ∈ p1, x.block < W.heap.size := by obtain ⟨m, hm⟩ := k1; exact DataW.trod_lt m _ _ _ hm
  obtain ⟨x1, w1⟩ : ∃ x, RI lw W (.slice A1 n1 c1) x := by
    obtain ⟨fuel, hf⟩ := h1
    obtain ⟨v, x, hv, hx⟩ := op_ints hf
    obtain rfl : Value.slice A1 n1 c1 = v := by simpa [Value.cells] using hv
    exact ⟨x, hx⟩
  obtain ⟨s2, rfl, rfl, rfl, ws2⟩ := open_string Try.underlying9 (hval 2 9 v2 rfl rfl) h2
  obtain ⟨n3, rfl, rfl, rfl, wf3⟩ := open_int Try.underlying2 (hval 3 2 v3 rfl rfl) h3
  clear hA0 hval0
  have hwalk := f_ExactMachineRun x0 cs0.toList _ x1 s2 n3 W w0 w1
  simp only [Array.toArray_toList] at hwalk
  refine hwalk.mono fun e W' ⟨he, bel⟩ => ?_
  subst he
  exact ⟨_, rfl, _, _, _, [], _, [], hW', trodAll_mk1 (shut_bool Try.underlying4 _), (trodAll_cons_mk (Below.trod laidOutR5 (by kernel_rfl) (of_decide_eq_true (by kernel_rfl)) k0 bel lt0) (trodAll_cons_mk (Below.trod laidOutR5 (by kernel_rfl) (of_decide_eq_true (by kernel_rfl)) k1 bel lt1) (trodAll_cons_mk (shut_string Try.underlying9 ws2) (trodAll_cons_mk (shut_int Try.underlying2 wf3) trodAll_mk0)))), rfl, bel.frame _, fun h => by cases h⟩
theorem exact_MachineRun : Rows.FnExactMachineRunSaid :=
  OpenClaim.holds_of_wide 4 Try.f4 rfl rfl rfl rfl rfl rfl rfl ⟨rfl, rfl, rfl, rfl, rfl⟩ rfl rfl rfl rfl rfl (by kernel_rfl) Try.func4 (by kernel_rfl)
    (of_decide_eq_true (by kernel_rfl)) (by unfold Func.isWrapper; first | (rw [if_pos (by decide +kernel)]; kernel_rfl) | (rw [if_neg (by decide +kernel)]; exact ⟨rfl, rfl⟩))
    (fun os started H enc _ => lifted_FnExactMachineRun os started H enc)
end Go.Proofs.Ytdnbiohohbnhgaa
