/- Contract of the program's MachineRun: what it returns is the plain run's result. Condition: the arguments can be read. -/
import Derived.Test.YtdnbiohohbnhgaaJ08
import Derived.Test.YtdnbiohohbnhgaaJ01
import Derived.Laws.IdiomStrings
import Derived.Deep.RegionWith
set_option linter.unusedSimpArgs false
set_option linter.unusedVariables false
namespace Go.Proofs.Ytdnbiohohbnhgaa
open Go.RowKit
/-- The arguments laid into the registers. -/
def putArgs : List Int → List Int → List Int → List Int
  | t :: ps, x :: xs, regs => putArgs ps xs (regs.set t.toNat x)
  | _, _, regs => regs
def initM (p : XProg) (args : List Int) (mem : ByteArray) : MS := ⟨putArgs p.params args (List.replicate p.regs.toNat 0), bytesOf mem, []⟩
def runPre (p : XProg) (args : List Int) (mem : ByteArray) (fuel : Int) : Bool := progOk p && argsOk p.widths args && (mem.size == 32) && inR fuel 0 20000
structure XRes where
  code : Int
  value : Int
  out : List Int
  mem : ByteArray
  steps : Int
  deriving Inhabited
def toBytes (m : List Int) : ByteArray := ⟨(m.map fun n => UInt8.ofNat n.toNat).toArray⟩
def resOf (p : XProg) (args : List Int) (mem : ByteArray) (fuel : Int) : XRes :=
  if runPre p args mem fuel then
    let R := runM p fuel fuel.toNat 0 (initM p args mem)
    ⟨R.code, R.value, R.st.out, toBytes R.st.mem, R.steps⟩
  else ⟨6, 0, [], ⟨#[]⟩, 0⟩
def resV (x : XRes) (v : Value) : Value := .agg #[.int .i64 x.code, .int .i64 x.value, v, .string x.mem, .int .i64 x.steps]
/-- A result whose row is the call's own. -/
def RetRes (x : XRes) (w : World) (e : Ending) (w' : World) : Prop := ∃ v, e = .returned (resV x v) ∧ w'.ownsRow w.heap.size 2 1 v x.out.length (x.out.map (Value.int .i64)) ∧ Below w.heap.size w w'
theorem putArgs_len : ∀ (ps xs regs : List Int), (putArgs ps xs regs).length = regs.length
  | [], xs, regs => by simp [putArgs]
  | _ :: _, [], regs => by simp [putArgs]
  | t :: ps, x :: xs, regs => by rw [putArgs, putArgs_len ps xs]; simp
theorem putArgs_rng : ∀ (ps xs regs : List Int), (∀ x ∈ xs, 0 ≤ x ∧ x ≤ 4294967295) → (∀ x ∈ regs, 0 ≤ x ∧ x ≤ 4294967295) → ∀ x ∈ putArgs ps xs regs, 0 ≤ x ∧ x ≤ 4294967295
  | [], xs, regs, _, h => by simpa [putArgs] using h
  | _ :: _, [], regs, _, h => by simpa [putArgs] using h
  | t :: ps, x :: xs, regs, hx, h => by
    rw [putArgs]
    refine putArgs_rng ps xs _ (fun y hy => hx y (List.mem_cons_of_mem _ hy)) fun y hy => ?_
    rcases List.mem_or_eq_of_mem_set hy with h' | rfl
    · exact h y h'
    · exact hx _ (List.mem_cons_self ..)
theorem args_rng {ws xs : List Int} (h : argsOk ws xs = true) : ws.length = xs.length ∧ ∀ x ∈ xs, 0 ≤ x ∧ x ≤ 4294967295 := by
  unfold argsOk at h
  simp only [Bool.and_eq_true, beq_iff_eq, List.all_eq_true] at h
  obtain ⟨hl, h⟩ := h
  refine ⟨hl, fun x hx => ?_⟩
  obtain ⟨i, hi, rfl⟩ := List.getElem_of_mem hx
  have hm : (ws[i]'(by omega), xs[i]) ∈ ws.zip xs := by
    have : (ws.zip xs)[i]'(by simp; omega) = (ws[i]'(by omega), xs[i]) := List.getElem_zip ..
    rw [← this]; exact List.getElem_mem _
  obtain ⟨v1, v2, -⟩ := val_rng (h _ hm)
  exact ⟨v1, v2⟩
theorem bytesOf_rng (s : ByteArray) : ∀ i (h : i < (bytesOf s).length), 0 ≤ (bytesOf s)[i] ∧ (bytesOf s)[i] ≤ 255 := fun i h => by
  have hm : (bytesOf s)[i] ∈ bytesOf s := List.getElem_mem h
  obtain ⟨b, -, hb⟩ := List.mem_map.1 hm
  have := b.toNat_lt
  omega
theorem init_ok (p : XProg) (args : List Int) (mem : ByteArray) (ha : argsOk p.widths args = true) (hm : mem.size = 32) : MOk p.regs (initM p args mem) := by
  obtain ⟨-, hr⟩ := args_rng ha
  refine ⟨by unfold initM; rw [putArgs_len]; simp, fun i h => ?_, by unfold initM; rw [bytesOf_len]; exact hm, bytesOf_rng mem, by simp [initM]⟩
  exact putArgs_rng p.params args _ hr (fun x hx => by rw [List.eq_of_mem_replicate hx]; exact ⟨by decide, by decide⟩) _ (List.getElem_mem h)
theorem conv_byr (W : World) (u : ByteArray) : ∃ c W1, (convert 9 65 (.string u)).run Try.prog W = .ok (.slice (some ⟨W.heap.size, 0, none⟩) u.size c) W1 ∧ ByR W1 W.heap.size (bytesOf u) ∧ Below W.heap.size W W1 ∧ W1.heap.size = W.heap.size + 1 := by
  refine ⟨_, _, Lib.run_convert_string_bytes (P := Try.prog) W 9 65 5 u Try.underlying9 Try.underlying65 Try.underlying5, ?_, ?_, Lib.bytesWorld_size W _ u⟩
  · have hn := Lib.bytesWorld_at_new W 5 u
    have hl := bytesOf_len u
    have hs : u.size ≤ (Lib.bytesCells W 5 u).size := by
      have : u.data.size = u.size := rfl
      simp [Lib.bytesCells]
    refine ⟨_, _, hn, by omega, by omega, fun i hi => ?_⟩
    have hid : i < u.data.toList.length := by rw [hl] at hi; simpa using hi
    have hid' : i < u.data.size := by simpa using hid
    simp only [Lib.bytesCells, bytesOf, List.getElem_map]
    rw [Array.getElem?_append_left (by simpa using hid')]
    simp [Array.getElem?_eq_getElem hid']
  · exact ⟨rfl, rfl, rfl, by rw [Lib.bytesWorld_size]; omega, fun k hk => Lib.bytesWorld_at_old W _ u k hk⟩
theorem progOk_pre {p : XProg} (h : progOk p = true) : (1 ≤ p.regs ∧ p.regs ≤ 130) ∧ p.params.length ≤ 4 ∧ p.widths.length = p.params.length ∧ 1 ≤ p.code.length ∧ p.code.length ≤ 600 ∧ p.params.all (regB p.regs) = true := by
  unfold progOk progPre at h
  simp only [Bool.and_eq_true, decide_eq_true_eq, beq_iff_eq] at h
  obtain ⟨⟨⟨⟨⟨⟨⟨h1, h2⟩, h3⟩, h4⟩, h5⟩, -⟩, -⟩, -⟩ := h
  unfold inR at h1 h4
  simp at h1 h4
  exact ⟨h1, h2, h3, by omega, by omega, h5⟩
theorem wp_via {P : Program} {c : Code} {Q : Exit → Act → World → Prop} {a : Act} {w : World} (R : Act → Act → World → Prop) (h1 : c.wp P (Exit.then (R a) fun _ _ _ => False) a w) (h2 : ∀ a' W, R a a' W → Q .normal a' W) : c.wp P Q a w :=
  Code.wp_mono (fun e a' W h => by
    cases e with
    | normal => exact h2 _ _ h
    | _ => exact (h : False).elim) h1
theorem madeInts (n : Nat) : (madeCells #[.int .i64 0] n).toList = (List.replicate n (0 : Int)).map (Value.int .i64) := by
  rw [List.map_replicate]
  apply List.ext_getElem?
  intro i
  simp only [madeCells]
  by_cases h : i < n
  · simp [h, Nat.mod_one]
  · simp [h]
/-- The machine, new: its block is the newest. -/
theorem init_MI {lo gr gm : Nat} {r : Int} {v1 v2 v3 : Value} {mem regs : List Int} {W : World} {cm : Nat} (hr : W.ownsRow lo 2 1 (.slice (some ⟨gr, 0, none⟩) r.toNat r.toNat) r.toNat (regs.map (Value.int .i64))) (hm : ByR W gm mem) (hlm : lo ≤ gm) (hgr : gr < W.heap.size) (hlr : lo ≤ gr) (hne : gm ≠ gr) (hlo : lo ≤ W.heap.size) :
    MI lo W.heap.size gr gm r v1 v2 v3 ⟨regs, mem, []⟩ (W.alloc (.cells #[.int .i64 r, v1, v2, v3, .slice (some ⟨gr, 0, none⟩) r.toNat r.toNat, .slice (some ⟨gm, 0, none⟩) 32 cm, .slice none 0 0] 75)) := by
  have hb := (Below.refl W.heap.size W).al (Nat.le_refl _) (.cells #[.int .i64 r, v1, v2, v3, .slice (some ⟨gr, 0, none⟩) r.toNat r.toNat, .slice (some ⟨gm, 0, none⟩) 32 cm, .slice none 0 0] 75)
  have hgm := hm.lt
  exact ⟨none, 0, cm, heap_new _ _ _ _ rfl, own_mv hr hb, hm.mv (hb.block gm hgm), ⟨W.heap.size + 1, World.ownsRow_nil _ _ _ _, by omega, by omega, by omega, by simp⟩, hlo, hlm, by omega, by omega, hne, hlr⟩
theorem conv_back (W : World) (g cap : Nat) (m : List Int) (h : ByR W g m) (hr : ∀ i (h : i < m.length), 0 ≤ m[i] ∧ m[i] ≤ 255) (n : Nat) (hn : n = m.length) : (convert 65 9 (.slice (some ⟨g, 0, none⟩) n cap)).run Try.prog W = .ok (.string (toBytes m)) W := by
  subst hn
  have := run_convert_bytes_back (P := Try.prog) W 65 9 5 ⟨g, 0, none⟩ cap (m.map fun n => UInt8.ofNat n.toNat) Try.underlying65 Try.underlying5 Try.underlying9 (fun j hj => by
    have hj' : j < m.length := by simpa using hj
    have hx := hr j hj'
    have hc := (h.cell j hj').1
    simp only [List.getElem_map]
    have e : ((UInt8.ofNat m[j].toNat).toNat : Int) = m[j] := by
      have : m[j].toNat < 256 := by omega
      rw [UInt8.toNat_ofNat_of_lt' (by simpa using this)]
      omega
    rw [e]
    have ea : (⟨g, 0, none⟩ : Addr).add j = ⟨g, j, none⟩ := by unfold Addr.add; by_cases h0 : j = 0 <;> simp [h0]
    rw [ea]; exact hc)
  have hl : (m.map fun n => UInt8.ofNat n.toNat).length = m.length := by simp
  rw [hl] at this
  exact this
set_option maxRecDepth 20000 in
set_option maxHeartbeats 4000000 in
theorem c_MachineRun (p : XProg) (cs : List Value) (va : Value) (args : List Int) (mem : ByteArray) (fuel : Int) (w : World) (hp : KProg lm w p cs) (ha : RI lm w va args) (hms : mem.size ≤ 1048576) :
    Calls Try.prog 18 #[.agg cs.toArray, va, .string mem, .int .i64 fuel] w (RetRes (resOf p args mem fuel) w) := by
  have hpo := fun W (hW : Below w.heap.size w W) => c_ProgramOk p cs W (KM.mv hp hW)
  obtain ⟨v1, v2, v3, rfl, r1, r2, r3⟩ := hp
  have har := fun W (hW : Below w.heap.size w W) => c_areArgs v2 va p.widths args W (r2.mv hW) (ha.mv hW)
  obtain ⟨A1, c1, rfl, -, l1, r1'⟩ := r1.sm
  obtain ⟨A2, c2, rfl, -, l2, r2'⟩ := r2.sm
  obtain ⟨A3, c3, rfl, -, l3, r3'⟩ := r3.sm
  obtain ⟨A4, c4, rfl, -, l4, ha'⟩ := ha.sm
  have hwi := fun W => c_within fuel 0 20000 W
  clear r1 r2 r3 ha
  have hbl := fun o => (Below.refl w.heap.size w).al (Nat.le_refl _) o
  obtain ⟨W0, hW0⟩ : ∃ W0 : World, W0 = (w.alloc (.cells #[.int .i64 p.regs, .slice A1 p.params.length c1, .slice A2 p.widths.length c2, .slice A3 p.code.length c3] 46)).alloc (.cells #[.int .i64 0, .int .i64 0, .slice none 0 0, .string ⟨#[]⟩, .int .i64 0] 42) := ⟨_, rfl⟩
  have hz0 : W0.heap.size = w.heap.size + 2 := by rw [hW0]; simp
  have hb0 : Below w.heap.size w W0 := by rw [hW0]; exact (hbl _).al (by first | (simp; done) | (simp; omega)) _
  have hpc : Pc W0 w.heap.size p.regs (.slice A1 p.params.length c1) (.slice A2 p.widths.length c2) (.slice A3 p.code.length c3) := by
    rw [hW0]
    refine ⟨?_, ?_, ?_, ?_⟩ <;> simp
  have hrb : W0.heap[w.heap.size + 1]? = some (.cells #[.int .i64 0, .int .i64 0, .slice none 0 0, .string ⟨#[]⟩, .int .i64 0] 42 (0, 0)) := by
    rw [hW0]; exact heap_new _ _ _ _ (by simp)
  have hpc' := Hd.mk hpc
  have hrb' := Hd.mk hrb
  have hb0' := Hd.mk hb0
  have hW0' := Hd.mk hW0
  clear hpc hb0 hW0 hbl hrb
  generalize hR : resOf p args mem fuel = R
  have hR' := Hd.mk hR
  clear hR
  unfold resOf runPre at hR'
  go_enter Try.func18, Try.ntmps18
  go_wp2_with fail
  rw [← hW0'.out]
  refine (hpo _ hb0'.out).mono ?_; rintro e w1 ⟨rfl, hb1⟩
  obtain ⟨cr, fr⟩ := row_facts ((hb1.block _ (by omega)).trans hrb'.out)
  have q0 := cr 0
  have q1 := cr 1
  have q2 := cr 2
  have q3 := cr 3
  have q4 := cr 4
  simp at q0 q1 q2 q3 q4
  have hz1 := hb1.size
  obtain ⟨a0, a1, a2, a3⟩ := hpc'.out.mv hb1 (by omega)
  have hB1 := Hd.mk (hb0'.out.then hb1)
  have hb1' := Hd.mk hb1
  clear cr hb1
  cases hq : progOk p
  · replace hR' := Hd.mk (show (⟨6, 0, [], ⟨#[]⟩, 0⟩ : XRes) = R by rw [← hR'.out, hq]; rfl)
    clear hq
    go_wp2
    refine bodyPost_ret (v := resV ⟨6, 0, [], ⟨#[]⟩, 0⟩ (.slice none 0 0)) (by simp [results, Try.results18, go_sem, resV, q0, q1, q2, q3, q4]) rfl ⟨_, by rw [← hR'.out], by rw [← hR'.out]; exact ownI_nil _ _, ?_⟩
    repeat (refine Below.setCell ?_ (by first | (simp; done) | (simp; omega)) _)
    exact hB1.out
  rw [hq] at hR'
  simp only [Bool.true_and] at hR'
  have hprog := Hd.mk hq
  clear hq
  go_wp2_with fail
  refine (har _ hB1.out).mono ?_; rintro e w2 ⟨rfl, hb2⟩
  have hB2 := Hd.mk (hB1.out.then hb2)
  have hb2' := Hd.mk (hb1'.out.then hb2)
  have hz2 := hb2.size
  clear q0 q1 q2 q3 q4 a0 a1 a2 a3 fr hb2 hb1' hB1
  obtain ⟨cr, fr⟩ := row_facts ((hb2'.out.block _ (by omega)).trans hrb'.out)
  have q0 := cr 0
  have q1 := cr 1
  have q2 := cr 2
  have q3 := cr 3
  have q4 := cr 4
  simp at q0 q1 q2 q3 q4
  obtain ⟨a0, a1, a2, a3⟩ := hpc'.out.mv hb2'.out (by omega)
  clear cr
  cases hq : argsOk p.widths args
  · replace hR' := Hd.mk (show (⟨6, 0, [], ⟨#[]⟩, 0⟩ : XRes) = R by rw [← hR'.out, hq]; rfl)
    clear hq
    go_wp2
    refine bodyPost_ret (v := resV ⟨6, 0, [], ⟨#[]⟩, 0⟩ (.slice none 0 0)) (by simp [results, Try.results18, go_sem, resV, q0, q1, q2, q3, q4]) rfl ⟨_, by rw [← hR'.out], by rw [← hR'.out]; exact ownI_nil _ _, ?_⟩
    repeat (refine Below.setCell ?_ (by first | (simp; done) | (simp; omega)) _)
    exact hB2.out
  rw [hq] at hR'
  simp only [Bool.true_and] at hR'
  have hargs := Hd.mk hq
  clear hq
  by_cases h32 : mem.size = 32
  rotate_left
  · have d : ((mem.size : Int) != 32) = true := by simp; omega
    have d2 : (mem.size == 32) = false := by simpa using h32
    replace hR' := Hd.mk (show (⟨6, 0, [], ⟨#[]⟩, 0⟩ : XRes) = R by rw [← hR'.out, d2]; rfl)
    go_wp2
    refine bodyPost_ret (v := resV ⟨6, 0, [], ⟨#[]⟩, 0⟩ (.slice none 0 0)) (by simp [results, Try.results18, go_sem, resV, q0, q1, q2, q3, q4]) rfl ⟨_, by rw [← hR'.out], by rw [← hR'.out]; exact ownI_nil _ _, ?_⟩
    repeat (refine Below.setCell ?_ (by first | (simp; done) | (simp; omega)) _)
    exact hB2.out
  have d : ((mem.size : Int) != 32) = false := by simp; omega
  have d2 : (mem.size == 32) = true := by simpa using h32
  rw [d2] at hR'
  simp only [Bool.true_and] at hR'
  clear d2
  cases hq : inR fuel 0 20000
  · rw [hq] at hwi
    replace hR' := Hd.mk (show (⟨6, 0, [], ⟨#[]⟩, 0⟩ : XRes) = R by rw [← hR'.out, hq]; rfl)
    clear hq
    go_wp2_with fail
    refine (hwi _).mono ?_; rintro e w3 ⟨rfl, rfl⟩
    go_wp2
    refine bodyPost_ret (v := resV ⟨6, 0, [], ⟨#[]⟩, 0⟩ (.slice none 0 0)) (by simp [results, Try.results18, go_sem, resV, q0, q1, q2, q3, q4]) rfl ⟨_, by rw [← hR'.out], by rw [← hR'.out]; exact ownI_nil _ _, ?_⟩
    repeat (refine Below.setCell ?_ (by first | (simp; done) | (simp; omega)) _)
    exact hB2.out
  rw [hq] at hR' hwi
  rw [if_pos rfl] at hR'
  have hfu : 0 ≤ fuel ∧ fuel ≤ 20000 := by unfold inR at hq; simpa using hq
  clear hq
  go_wp2_with fail
  refine (hwi _).mono ?_; rintro e w3 ⟨rfl, rfl⟩
  have hok := init_ok p args mem hargs.out h32
  obtain ⟨hal0, -⟩ := args_rng hargs.out
  obtain ⟨hn1, hn2, hn3, hn4, hn5, hn6⟩ := progOk_pre hprog.out
  have hal := Hd.mk (show p.params.length = args.length by omega)
  have hreg := Hd.mk hn6
  clear hal0 hn6 hn3
  have hn := hn1
  obtain ⟨f, cf, hcv, hf⟩ : ∃ (f : World → World) (cf : World → Nat), (∀ W, (convert 9 65 (.string mem)).run Try.prog W = .ok (.slice (some ⟨W.heap.size, 0, none⟩) mem.size (cf W)) (f W)) ∧ ∀ W, ByR (f W) W.heap.size (bytesOf mem) ∧ Below W.heap.size W (f W) ∧ (f W).heap.size = W.heap.size + 1 := by
    refine ⟨fun W => (conv_byr W mem).choose_spec.choose, fun W => (conv_byr W mem).choose, fun W => (conv_byr W mem).choose_spec.choose_spec.1, fun W => (conv_byr W mem).choose_spec.choose_spec.2⟩
  have hf' := Hd.mk hf
  have hmk := fun W => mk_run 22 2 (.int .i64 0) 1 8 p.regs.toNat Try.underlying22 infoI (by omega) (by omega) W
  rw [Int.toNat_of_nonneg (by omega), Nat.mul_one] at hmk
  have hmo := fun (W : World) (h : W0.heap.size ≤ W.heap.size) => mk_own W W0.heap.size 2 1 p.regs.toNat #[.int .i64 0] h (by unfold maxLen; omega)
  rw [Nat.mul_one] at hmo
  simp only [Value.cells] at hmk
  rw [madeInts] at hmo
  generalize hmc : madeCells #[.int .i64 0] p.regs.toNat = mc at *
  have hmo' := Hd.mk hmo
  clear hmo hf hmc
  have hd2 : Below W0.heap.size W0 w2.drew := hb2'.out.trans ⟨rfl, rfl, rfl, Nat.le_refl _, fun _ _ => rfl⟩
  have hd3 := hd2.al (show W0.heap.size ≤ w2.drew.heap.size by show W0.heap.size ≤ w2.heap.size; omega) (.cells mc 2)
  have hf1 := hf'.out w2.drew
  have hf2 := hf'.out ((w2.alloc (.cells mc 2)).drew)
  have hs1 : (f w2.drew).heap.size = w2.heap.size + 1 := hf1.2.2
  have hs2 : (f ((w2.alloc (.cells mc 2)).drew)).heap.size = w2.heap.size + 2 := by rw [hf2.2.2]; simp
  have hd4 : Below W0.heap.size W0 (f w2.drew) := hd2.trans (hf1.2.1.mono (show W0.heap.size ≤ w2.heap.size by omega))
  have hd5 : Below W0.heap.size W0 (f ((w2.alloc (.cells mc 2)).drew)) := hd3.trans (hf2.2.1.mono (by simp; omega))
  obtain ⟨o0, o1, o2, o3⟩ := hpc'.out.mv hd4 (by omega)
  obtain ⟨p0, p1, p2, p3⟩ := hpc'.out.mv hd5 (by omega)
  have hfc : ∀ (W : World) (o : Nat), w.heap.size < W.heap.size → (f W).cell? ⟨w.heap.size, o, none⟩ = W.cell? ⟨w.heap.size, o, none⟩ := fun W o h => bat (hf'.out W).2.1 w.heap.size h o
  clear hfc
  have hd6' := Hd.mk (hd4.al (show W0.heap.size ≤ (f w2.drew).heap.size by omega) (.cells mc 2))
  have hd4' := Hd.mk hd4
  have hd5' := Hd.mk hd5
  have hd3' := Hd.mk hd3
  clear hd2 hd3 hd4 hd5 hf1 hf2
  have hwz : w.heap.size < w2.heap.size := by omega
  have hoA := own_mv (show (w2.alloc (.cells mc 2)).drew.ownsRow W0.heap.size 2 1 _ _ _ from hmo'.out w2 (by omega)) (hf'.out ((w2.alloc (.cells mc 2)).drew)).2.1
  have hoB := hmo'.out (f w2.drew) (by omega)
  have hbyA := (hf'.out ((w2.alloc (.cells mc 2)).drew)).1
  have hbyB := ((hf'.out w2.drew).1).mv (((Below.refl (f w2.drew).heap.size (f w2.drew)).al (Nat.le_refl _) (.cells mc 2)).block w2.heap.size (by omega))
  have hMA := init_MI (cm := cf ((w2.alloc (.cells mc 2)).drew)) (v1 := .slice A1 p.params.length c1) (v2 := .slice A2 p.widths.length c2) (v3 := .slice A3 p.code.length c3) hoA (gm := w2.heap.size + 1) (by simpa using hbyA) (by omega) (by omega) (by omega) (by omega) (by omega)
  rw [hs2] at hMA
  rw [hs1] at hoB
  have hMB := init_MI (cm := cf w2.drew) (v1 := .slice A1 p.params.length c1) (v2 := .slice A2 p.widths.length c2) (v3 := .slice A3 p.code.length c3) hoB (gm := w2.heap.size) hbyB (by omega) (by simp; omega) (by omega) (by omega) (by simp; omega)
  have hMA' := Hd.mk hMA
  have hMB' := Hd.mk hMB
  have hbA := Hd.mk (hd5'.out.al (by omega) (.cells #[.int .i64 p.regs, .slice A1 p.params.length c1, .slice A2 p.widths.length c2, .slice A3 p.code.length c3, .slice (some ⟨w2.heap.size, 0, none⟩) p.regs.toNat p.regs.toNat, .slice (some ⟨w2.heap.size + 1, 0, none⟩) 32 (cf ((w2.alloc (.cells mc 2)).drew)), .slice none 0 0] 75))
  have hbB := Hd.mk (hd6'.out.al (by simp; omega) (.cells #[.int .i64 p.regs, .slice A1 p.params.length c1, .slice A2 p.widths.length c2, .slice A3 p.code.length c3, .slice (some ⟨w2.heap.size + 1, 0, none⟩) p.regs.toNat p.regs.toNat, .slice (some ⟨w2.heap.size, 0, none⟩) 32 (cf w2.drew), .slice none 0 0] 75))
  clear hoA hoB hbyA hbyB hMA hMB hd3' hd4' hd5' hd6'
  go_wp2_with fail
  refine wp_via (fun a a' W => ∃ (u36 u37 u38 u39 u40 u41 u42 : Value) (g gr gm : Nat), a' = ((((((((a.put (some 36) u36).put (some 37) u37).put (some 38) u38).put (some 39) u39).put (some 40) u40).put (some 41) u41).put (some 42) u42).put (some 43) (.pointer (some ⟨g, 0, none⟩))).put (some 9) (.pointer (some ⟨g, 0, none⟩)) ∧ Hd (MI W0.heap.size g gr gm p.regs (.slice A1 p.params.length c1) (.slice A2 p.widths.length c2) (.slice A3 p.code.length c3) ⟨List.replicate p.regs.toNat 0, bytesOf mem, []⟩ W) ∧ Hd (Below W0.heap.size W0 W)) ?_ ?_
  · go_region_with (fail)
    all_goals
      unfold Exit.then
      go_simp
    all_goals first
      | exact ⟨_, _, _, _, _, _, _, _, ⟨rfl, rfl, rfl, rfl, rfl, rfl, rfl, rfl, rfl⟩, ⟨_, _, by rw [hz0] at hMA'; exact hMA'⟩, by rw [hz0] at hbA; exact hbA⟩
      | exact ⟨_, _, _, _, _, _, _, _, ⟨rfl, rfl, rfl, rfl, rfl, rfl, rfl, rfl, rfl⟩, ⟨_, _, ⟨by have h9 := hMB'.out; rw [hz0] at h9; simp only [World.size_alloc, hs1] at h9; exact h9⟩⟩, by rw [hz0] at hbB; exact hbB⟩
  rintro a' Wm ⟨u36, u37, u38, u39, u40, u41, u42, g, gr, gm, rfl, hMI, hbm⟩
  simp only [Act.put, List.setIfInBounds_toArray, List.set_cons_zero, List.set_cons_succ]
  clear hMA' hMB' hbA hbB
  obtain ⟨cr, fr⟩ := row_facts ((hbm.out.block _ (by omega)).trans hrb'.out)
  obtain ⟨b0, b1, b2, b3⟩ := hpc'.out.mv hbm.out (by omega)
  clear o0 o1 o2 o3 p0 p1 p2 p3 q0 q1 q2 q3 q4 a0 a1 a2 a3 hs1 hs2 hmk hmo' hcv hf' hwi hpo har
  have q0 := cr 0
  have q1 := cr 1
  have q2 := cr 2
  have q3 := cr 3
  have q4 := cr 4
  simp at q0 q1 q2 q3 q4
  clear cr
  obtain ⟨gq, hgq⟩ : ∃ z, z = w.heap.size := ⟨_, rfl⟩
  go_wp2
  go_loopw [47] (fun s47 wr => ∃ (k : Nat) (st : MS), k ≤ p.params.length ∧ s47 = .int .i64 k ∧ Hd (putArgs (p.params.drop k) (args.drop k) st.regs = (initM p args mem).regs ∧ st.mem = bytesOf mem ∧ st.out = []) ∧ Hd (MOk p.regs st) ∧ Hd (MI W0.heap.size g gr gm p.regs (.slice A1 p.params.length c1) (.slice A2 p.widths.length c2) (.slice A3 p.code.length c3) st wr) ∧ Hd (Below W0.heap.size W0 wr)) (fun s47 _ => p.params.length - (intOf s47).toNat)
  case atStart => exact ⟨0, _, Nat.zero_le _, rfl, ⟨rfl, rfl, rfl⟩, ⟨⟨by simp, fun i h => by simp, by rw [bytesOf_len]; exact h32, bytesOf_rng mem, by simp⟩⟩, hMI, hbm⟩
  case round =>
    clear hMI hbm fr q0 q1 q2 q3 q4 b0 b1 b2 b3
    obtain ⟨k, st, hk, rfl, hput, hO, hM, hbr⟩ := hrel
    obtain ⟨b0, b1, b2, b3⟩ := hpc'.out.mv hbr.out (by omega)
    by_cases hlt : k < p.params.length
    · have hka : k < args.length := by have := hal.out; omega
      obtain ⟨b, off, cs, hA, hbl, hk1, hat⟩ := r1'.out.in0 (hb0'.out.then hbr.out) k hlt
      cases hA
      cases hk1
      have g0 := hat 0 _ rfl
      simp at g0
      clear hat
      obtain ⟨b2', off2, cs, hA, hbl2, hk1, hat⟩ := ha'.out.in0 (hb0'.out.then hbr.out) k hka
      cases hA
      cases hk1
      have g1 := hat 0 _ rfl
      simp at g1
      clear hat
      have hto : regB p.regs p.params[k] = true := List.all_eq_true.1 hreg.out _ (List.getElem_mem hlt)
      have hto' := (regB_iff _ _).1 hto
      have har' := (args_rng hargs.out).2 args[k] (List.getElem_mem hka)
      have hput2 := hput.out.1
      rw [List.drop_eq_getElem_cons hlt, List.drop_eq_getElem_cons hka, putArgs] at hput2
      generalize p.params[k] = to at *
      generalize args[k] = av at *
      obtain ⟨Ao, co, cm, k0, k1, k2, k3, k4, k5, k6⟩ := hM.out.cells
      obtain ⟨u0, hu⟩ : ∃ u0, wr.cell? ⟨gr, to.toNat, none⟩ = some u0 := ⟨_, reg_cell hM.out hO.out to (by omega)⟩
      have hM1 := hM.out
      obtain ⟨AoX, coX, cmX, hX, hrow, -⟩ := hM1
      have hfr := World.ownsRow.frozenAt hrow to.toNat
      have hst := Hd.mk (hM.out.setReg to.toNat av)
      have hl := hM.out.lo
      have hO2 : Hd (MOk p.regs ⟨st.regs.set to.toNat av, st.mem, st.out⟩) := ⟨⟨by simpa using hO.out.regs, fun i hi => by
        simp only [List.getElem_set]
        split
        · exact har'
        · exact hO.out.rng i (by simpa using hi), hO.out.mem, hO.out.byt, hO.out.out⟩⟩
      have hput3 := Hd.mk hput2
      obtain ⟨y0, y1⟩ := hto'
      have y2 : to < (p.regs.toNat : Int) := by omega
      have y3 : to < max p.regs 0 := by omega
      have y4 : (k : Int) < (args.length : Int) := by omega
      have y5 : (0 : Int) ≤ (k : Int) := by omega
      have y6 : (k : Int) < (p.params.length : Int) := by omega
      clear hX hrow hput2 hto
      go_wp2
      go_still_tail 10, (by kernel_rfl)
      change wpList _ _ _ _ _ wr.drew
      go_wp2
      go_roundw
      case rel => exact ⟨k + 1, ⟨st.regs.set to.toNat av, st.mem, st.out⟩, by omega, by go_num, ⟨hput3.out, hput.out.2⟩, hO2, hst, ⟨by first | exact (hbr.out.setCell (p := ⟨gr, to.toNat, none⟩) hl.2.2.1 _).drew | exact (Below.drew hbr.out).setCell (p := ⟨gr, to.toNat, none⟩) hl.2.2.1 _⟩⟩
      case measure => simp [intOf]; omega
    · have e : k = p.params.length := by omega
      subst e
      have hst : st = initM p args mem := by
        obtain ⟨h1, h2, h3⟩ := hput.out
        rw [List.drop_length] at h1
        obtain ⟨a1, a2, a3⟩ := st
        try simp only at h2 h3
        subst h2 h3
        have : putArgs [] (args.drop p.params.length) a1 = a1 := by simp [putArgs]
        try simp only at h1
        rw [this] at h1
        rw [h1]
        rfl
      subst hst
      have hrun := fun (wz : World) (hz : Hd (MI W0.heap.size g gr gm p.regs (.slice A1 p.params.length c1) (.slice A2 p.widths.length c2) (.slice A3 p.code.length c3) (initM p args mem) wz)) (hb : Below W0.heap.size W0 wz) => c_run p W0 wz g gr gm (.slice A1 p.params.length c1) (.slice A2 p.widths.length c2) A3 c3 (initM p args mem) fuel hprog.out hn1 (r3'.out.mv hb0'.out) hz.out hok hb hfu ⟨hn4, hn5⟩
      go_wp2_with fail
      refine (hrun _ hM hbr.out).mono ?_; rintro e w5 ⟨rfl, hM5, hO5, hb5⟩
      generalize runM p fuel fuel.toNat 0 (initM p args mem) = RM at *
      obtain ⟨Ao, co, cm, hh1, -, hby, ⟨lo2, hown, i1, i2, i3, i4⟩, hl1, -⟩ := hM5
      have hcv0 := conv_back w5 gm cm RM.st.mem hby hO5.byt 32 hO5.mem.symm
      have hcvD := conv_back w5.drew gm cm RM.st.mem hby hO5.byt 32 hO5.mem.symm
      obtain ⟨kc, -⟩ := row_facts hh1
      have k5 := kc 5
      have k6 := kc 6
      simp at k5 k6
      obtain ⟨cr, fr⟩ := row_facts ((hb5.block _ (by omega)).trans hrb'.out)
      have q0 := cr 0
      have q1 := cr 1
      have q2 := cr 2
      have q3 := cr 3
      have q4 := cr 4
      simp at q0 q1 q2 q3 q4
      have hown' := Hd.mk hown
      have hb5' := Hd.mk (hb0'.out.trans (hb5.mono (by omega)))
      have hgg : g ≠ w.heap.size + 1 := by omega
      have hlo2 := Hd.mk (show w.heap.size + 2 ≤ lo2 by omega)
      clear kc cr hh1 hby hown hb5 hrun hM hbr b0 b1 b2 b3 hput hok hO5 hO
      go_wp2_with fail
      go_region_with (fail)
      all_goals go_wp2
      all_goals refine bodyPost_ret (v := resV ⟨RM.code, RM.value, RM.st.out, toBytes RM.st.mem, RM.steps⟩ (.slice Ao RM.st.out.length co)) (by simp [results, Try.results18, go_sem, resV, q0, q1, q2, q3, q4]) rfl ⟨_, by rw [← hR'.out], ?_, ?_⟩
      all_goals first
        | (rw [← hR'.out]
           refine own_lower (base := lo2) ?_ (by have := hlo2.out; omega)
           repeat (refine own_far ?_ (by have := hlo2.out; omega))
           exact hown'.out)
        | (apply Below.drew
           repeat (refine Below.setCell ?_ (by first | (simp; done) | (simp; omega)) _)
           exact hb5'.out)
end Go.Proofs.Ytdnbiohohbnhgaa
