import Derived.Test.YtkcgejbnhpccdaaGreatJ17
import Derived.Test.YtkcgejbnhpccdaaGreatJ05
import Derived.Test.YtkcgejbnhpccdaaGreatJ08
import Derived.Test.YtkcgejbnhpccdaaGreatJ13
import Derived.Deep.QuietTactic
import Derived.BigQuiet
set_option linter.unusedSimpArgs false
set_option linter.unusedVariables false
namespace Go.Proofs.YtkcgejbnhpccdaaGreat
open Go.RowKit
/-! ### invoked, Invoked -/
theorem firstBad_all (m : XMod) : ∀ l : List XFunc, firstBad m l = 0 → ∀ f ∈ l, checkF m f = 0
  | [], _, f, hf => by cases hf
  | x :: r, h, f, hf => by
    rw [firstBad_cons] at h
    by_cases hx : checkF m x = 0
    · rw [if_pos hx] at h
      rcases List.mem_cons.1 hf with rfl | hf
      · exact hx
      · exact firstBad_all m r h f hf
    · rw [if_neg hx] at h; exact absurd h hx
theorem modOk_parts {m : XMod} (h : modOk m = true) : shapeOk m = true ∧ ∀ f ∈ m.funcs, checkF m f = 0 := by
  unfold modOk checkM at h
  rw [beq_iff_eq] at h
  cases hs : shapeOk m with
  | false => rw [hs] at h; cases h
  | true => rw [hs, if_pos rfl] at h; exact ⟨rfl, firstBad_all m _ h⟩
theorem checkF_parts {m : XMod} {f : XFunc} (h : checkF m f = 0) : entryOk f = true ∧ phisOk f = true ∧ typesOk f = true ∧ callsOk m f = true ∧ domsOk f = true := by
  unfold checkF at h
  cases h1 : entryOk f <;> rw [h1] at h <;> simp at h
  cases h2 : phisOk f <;> rw [h2] at h <;> simp at h
  cases h3 : typesOk f <;> rw [h3] at h <;> simp at h
  cases h4 : callsOk m f <;> rw [h4] at h <;> simp at h
  cases h5 : domsOk f <;> rw [h5] at h <;> simp at h
  exact ⟨rfl, rfl, rfl, rfl, rfl⟩
theorem modOk_rn {m : XMod} (h : modOk m = true) : ∀ f ∈ m.funcs, Rn m f := fun f hf => by
  obtain ⟨hs, hc⟩ := modOk_parts h
  obtain ⟨-, h2, -, h4, -⟩ := checkF_parts (hc f hf)
  refine ⟨(shape_parts hs).2 f hf, h2, fun b hb i hi h26 => ?_⟩
  unfold callsOk at h4
  simp only [List.all_eq_true] at h4
  have := h4 b hb i hi
  rw [h26] at this
  unfold callOk at this
  simp at this
  exact this.1.2
def invOk (m : XMod) (k : Int) (args : List Int) (mem : ByteArray) (fuel : Int) : Bool := inR k 0 (m.funcs.length - 1) && argsOk (m.funcs.getD k.toNat func0).params args && mem.size == 32 && inR fuel 0 2000
def runRes (R : (Int × Int) × RS) : XRes := ⟨R.1.2, R.1.1, R.2.out, toBytes R.2.mem, R.2.steps⟩
def res6 : XRes := ⟨6, 0, [], ⟨#[]⟩, 0⟩
def resI (m : XMod) (k : Int) (args : List Int) (mem : ByteArray) (fuel : Int) : XRes :=
  if invOk m k args mem fuel then runRes (callR m fuel.toNat 6 k args (rs0 mem)) else res6
def resR (m : XMod) (k : Int) (args : List Int) (mem : ByteArray) (fuel : Int) : XRes := if modOk m then resI m k args mem fuel else res6
theorem rs0_ok (mem : ByteArray) (h : mem.size = 32) (fuel : Nat) : ROk fuel (rs0 mem) := by
  refine ⟨?_, fun i hi => ?_, by simp [rs0], by simp [rs0]⟩
  · show (bytesOf mem).length = 32; rw [bytesOf_len]; exact h
  · exact bytesOf_rng mem i hi
end Go.Proofs.YtkcgejbnhpccdaaGreat
set_option linter.unusedSimpArgs false
set_option linter.unusedVariables false
namespace Go.Proofs.YtkcgejbnhpccdaaGreat
open Go.RowKit
theorem wMod_le {p : XMod} (h : wMod p ≤ lm) : p.funcs.length ≤ lm := by unfold wMod wL at h; omega
theorem o_mod {lo : Nat} {w : World} {p : XMod} {cs : List Value} (h : OMod lo w p cs) (hw : wMod p ≤ lm) : KMod lm w p cs := by
  obtain ⟨v, rfl, hr⟩ := h
  exact ⟨v, rfl, hr.rdm (fun x hx _ hk => o_func hk (Nat.le_trans (wL_mem _ _ _ hx) hw)) (wMod_le hw)⟩
theorem nar_mod {w : World} {p : XMod} {cs : List Value} (h : KMod lw w p cs) (hw : wMod p ≤ lm) : KMod lm w p cs := by
  obtain ⟨v, rfl, hr⟩ := h
  exact ⟨v, rfl, hr.nar (wMod_le hw) fun x hx _ hk => nar_func hk (Nat.le_trans (wL_mem _ _ _ hx) hw)⟩
theorem res_K {base : Nat} {w : World} {x : XRes} {v : Value} (h : w.ownsRow base 2 1 v x.out.length (x.out.map (Value.int .i64))) (hl : x.out.length ≤ lm) : KRes w x [.int .i64 x.code, .int .i64 x.value, v, .string x.mem, .int .i64 x.steps] := ⟨v, rfl, (OwI.of h).rd hl⟩
theorem SMod.mv {lo hi l' h' : Nat} {w w' : World} {x : XMod} {cs : List Value} (h : SMod lo hi w x cs) (hc : Chg l' h' w w') : SMod lo hi w' x cs := by
  obtain ⟨v, rfl, r⟩ := h; exact ⟨v, rfl, r.mv hc⟩
theorem resR_out (m : XMod) (k : Int) (args : List Int) (mem : ByteArray) (fuel : Int) : (resR m k args mem fuel).out.length ≤ lm := by
  unfold resR resI
  split
  · rename_i hm
    split
    · rename_i h
      unfold invOk at h
      simp only [Bool.and_eq_true, beq_iff_eq] at h
      obtain ⟨⟨⟨h1, h2⟩, h3⟩, h4⟩ := h
      have := (callR_ok (modOk_parts hm).1 fuel.toNat 6 k args (rs0 mem) (rs0_ok mem h3 _) (args_rng h2).2).1.out
      exact Nat.le_trans this (by decide)
    · exact Nat.zero_le _
  · exact Nat.zero_le _
theorem mL_phi (l : List XPhi) : mL mPhi l = wL wPhi l := by
  unfold mL wL
  induction l with
  | nil => rfl
  | cons p r ih => simp only [List.map_cons, List.sum_cons, List.length_cons, mPhi, wPhi] at *; omega
theorem mL_inst (l : List XInst) : mL mInst l ≤ 6 * wL wInst l := by
  unfold mL wL
  induction l with
  | nil => simp
  | cons p r ih => simp only [List.map_cons, List.sum_cons, List.length_cons, mInst, wInst] at *; omega
theorem mL_block (l : List XBlock) : mL mBlock l ≤ 6 * wL wBlock l := by
  have h : ∀ b : XBlock, mBlock b ≤ 6 * wBlock b + 4 := fun b => by
    have h1 := mL_phi b.phis
    have h2 := mL_inst b.insts
    unfold mL at h1 h2
    unfold mBlock wBlock
    omega
  unfold mL wL
  induction l with
  | nil => simp
  | cons p r ih =>
    have := h p
    simp only [List.map_cons, List.sum_cons, List.length_cons] at *; omega
theorem mFunc_le (f : XFunc) : mFunc f ≤ 6 * wFunc f := by
  have := mL_block f.blocks
  unfold mL at this
  unfold mFunc wFunc
  omega
theorem mMod_le (x : XMod) : mMod x ≤ 7 * wMod x := by
  unfold mMod wMod wL mL
  generalize x.funcs = l
  induction l with
  | nil => simp
  | cons a r ih =>
    have h := mFunc_le a
    have e : mFuncE a = mFunc a + 1 := rfl
    simp only [List.map_cons, List.sum_cons, List.length_cons]
    omega
end Go.Proofs.YtkcgejbnhpccdaaGreat
set_option linter.unusedSimpArgs false
set_option linter.unusedVariables false
namespace Go.Proofs.YtkcgejbnhpccdaaGreat
open Go.RowKit
/-! ### the reference's run: its state (the code in its last cell) -/
/-- The state in block g: its memory in block gm. -/
def SX (mv : Value) (fuel : Nat) (g gm lo : Nat) (d : Int) (s : RS) (A : Option Addr) (c : Nat) (W : World) : Prop := ∃ cm,
  W.heap[g]? = some (.cells #[mv, .slice (some ⟨gm, 0, none⟩) 32 cm, .slice A s.out.length c, .int .i64 fuel, .int .i64 s.steps, .int .i64 d] 109 (0, 0)) ∧
  ByR W gm s.mem ∧ W.ownsRow lo 2 1 (.slice A s.out.length c) s.out.length (s.out.map (Value.int .i64)) ∧ g < lo ∧ gm < lo ∧ lo ≤ W.heap.size ∧ g ≠ gm
theorem SX.mv {mv : Value} {fuel g gm lo : Nat} {d : Int} {s : RS} {A : Option Addr} {c : Nat} {W W' : World} (h : SX mv fuel g gm lo d s A c W) (hb : Below W.heap.size W W') : SX mv fuel g gm lo d s A c W' := by
  obtain ⟨cm, h1, h2, h3, i1, i2, i3, h4⟩ := h
  exact ⟨cm, (hb.block g (Array.getElem?_eq_some_iff.1 h1).1).trans h1, h2.mv (hb.block gm h2.lt), own_mv h3 hb, i1, i2, Nat.le_trans i3 hb.size, h4⟩
theorem SX.drew {mv : Value} {fuel g gm lo : Nat} {d : Int} {s : RS} {A : Option Addr} {c : Nat} {W : World} (h : SX mv fuel g gm lo d s A c W) : SX mv fuel g gm lo d s A c W.drew := h
theorem SX.drewN {mv : Value} {fuel g gm lo : Nat} {d : Int} {s : RS} {A : Option Addr} {c : Nat} {W : World} (h : SX mv fuel g gm lo d s A c W) (n : Nat) : SX mv fuel g gm lo d s A c (W.drewN n) := h
theorem SX.blkOf {mv : Value} {fuel g gm lo : Nat} {d : Int} {s : RS} {A : Option Addr} {c : Nat} {W : World} (h : SX mv fuel g gm lo d s A c W) : ∀ b, blk A = some b → lo ≤ b ∧ b < W.heap.size := by
  obtain ⟨cm, h1, h2, h3, i1, i2, i3, h4⟩ := h
  intro b hb
  have hk := own_block_ge h3
  refine ⟨hk b (by rw [blk_eq]; exact hb), ?_⟩
  rcases h3.2 with ⟨e, _⟩ | ⟨g', cap, cur, hv, hl, hx, h''⟩
  · injection e with e1 e2 e3; subst e1; cases hb
  · injection hv with e1 e2 e3; subst e1; cases hb; exact (Array.getElem?_eq_some_iff.1 hx).1
theorem SX.cells {mv : Value} {fuel g gm lo : Nat} {d : Int} {s : RS} {A : Option Addr} {c : Nat} {W : World} (h : SX mv fuel g gm lo d s A c W) : ∃ cm, W.cell? ⟨g, 0, none⟩ = some mv ∧ W.cell? ⟨g, 1, none⟩ = some (.slice (some ⟨gm, 0, none⟩) 32 cm) ∧ W.cell? ⟨g, 2, none⟩ = some (.slice A s.out.length c) ∧
    W.cell? ⟨g, 3, none⟩ = some (.int .i64 fuel) ∧ W.cell? ⟨g, 4, none⟩ = some (.int .i64 s.steps) ∧ W.cell? ⟨g, 5, none⟩ = some (.int .i64 d) ∧ (∀ j, W.frozen? ⟨g, j, none⟩ = false) ∧ g < W.heap.size ∧ gm < W.heap.size ∧ g ≠ gm := by
  obtain ⟨cm, h1, h2, h3, i1, i2, i3, h4⟩ := h
  obtain ⟨c0, f0⟩ := row_facts h1
  exact ⟨cm, c0 0, c0 1, c0 2, c0 3, c0 4, c0 5, f0, (Array.getElem?_eq_some_iff.1 h1).1, h2.lt, h4⟩
theorem SX.setSteps {mv : Value} {fuel g gm lo : Nat} {d : Int} {s : RS} {A : Option Addr} {c : Nat} {W : World} (h : SX mv fuel g gm lo d s A c W) (k : Nat) : SX mv fuel g gm lo d ⟨s.mem, s.out, k⟩ A c (W.setCell ⟨g, 4, none⟩ (.int .i64 k)) := by
  obtain ⟨cm, h1, h2, h3, i1, i2, i3, h4⟩ := h
  exact ⟨cm, by simpa using heap_set (j := 4) (u := .int .i64 k) h1, h2.mv (Below.heap_setCell _ _ _ _ h4.symm), own_far h3 i1, i1, i2, by rw [setCell_size]; exact i3, h4⟩
theorem SX.setCode {mv : Value} {fuel g gm lo : Nat} {d : Int} {s : RS} {A : Option Addr} {c : Nat} {W : World} (h : SX mv fuel g gm lo d s A c W) (k : Int) : SX mv fuel g gm lo k s A c (W.setCell ⟨g, 5, none⟩ (.int .i64 k)) := by
  obtain ⟨cm, h1, h2, h3, i1, i2, i3, h4⟩ := h
  exact ⟨cm, by simpa using heap_set (j := 5) (u := .int .i64 k) h1, h2.mv (Below.heap_setCell _ _ _ _ h4.symm), own_far h3 i1, i1, i2, by rw [setCell_size]; exact i3, h4⟩
theorem SX.setMem {mv : Value} {fuel g gm lo : Nat} {d : Int} {s : RS} {A : Option Addr} {c : Nat} {W : World} (h : SX mv fuel g gm lo d s A c W) (k : Nat) (v : Int) : SX mv fuel g gm lo d ⟨s.mem.set k v, s.out, s.steps⟩ A c (W.setCell ⟨gm, k, none⟩ (.int .u8 v)) := by
  obtain ⟨cm, h1, h2, h3, i1, i2, i3, h4⟩ := h
  exact ⟨cm, heap_off h1 h4, h2.set k v, own_far h3 i2, i1, i2, by rw [setCell_size]; exact i3, h4⟩
/-- A store elsewhere. -/
theorem SX.setOff {mv : Value} {fuel g gm lo b j : Nat} {d : Int} {s : RS} {A : Option Addr} {c : Nat} {W : World} (h : SX mv fuel g gm lo d s A c W) (hb : Asd g gm (blk A) b W) (u : Value) : SX mv fuel g gm lo d s A c (W.setCell ⟨b, j, none⟩ u) := by
  obtain ⟨cm, h1, h2, h3, i1, i2, i3, h4⟩ := h
  refine ⟨cm, heap_off h1 hb.g.symm, h2.mv (Below.heap_setCell _ _ _ _ hb.gm.symm), ?_, i1, i2, by rw [setCell_size]; exact i3, h4⟩
  refine ⟨h3.1, ?_⟩
  rcases h3.2 with h' | ⟨g', cap, cur, hv, hl', hx, h''⟩
  · exact .inl h'
  · exact .inr ⟨g', cap, cur, hv, hl', heap_off hx (fun e => hb.o (by injection hv with e1 e2 e3; subst e1; rw [← e]; rfl)), h''⟩
/-- What is told out has grown, and is written into the state. -/
theorem SX.setOut {mv v' : Value} {fuel g gm lo n : Nat} {d : Int} {s : RS} {A : Option Addr} {c : Nat} {W W' : World} {xs : List Int} (h : SX mv fuel g gm lo d s A c W) (hg : W.grownBy W' (Value.slice A s.out.length c).ownBlock) (h' : W'.ownsRow lo 2 1 v' n (xs.map (Value.int .i64))) (hn : n = xs.length) :
    ∃ A' c', v' = .slice A' xs.length c' ∧ SX mv fuel g gm lo d ⟨s.mem, xs, s.steps⟩ A' c' (W'.setCell ⟨g, 2, none⟩ v') := by
  subst hn
  obtain ⟨cm, h1, h2, h3, i1, i2, i3, h4⟩ := h
  have hk := own_block_ge h3
  have old : ∀ b, b < lo → b < W.heap.size → W'.heap[b]? = W.heap[b]? := fun b hb hw => hg.block b hw (fun e => by
    have := hk b (by first | exact e | exact e.symm)
    omega)
  obtain ⟨A2, c2, rfl, -, -⟩ := own_shape h'
  refine ⟨A2, c2, rfl, cm, ?_, ?_, own_far h' i1, i1, i2, by rw [setCell_size]; exact Nat.le_trans i3 hg.size, h4⟩
  · have := heap_set (j := 2) (u := .slice A2 xs.length c2) ((old g i1 (by omega)).trans h1)
    simpa using this
  · exact (h2.mv (old gm i2 (by omega))).mv (Below.heap_setCell _ _ _ _ (fun e => h4 e.symm))
theorem SX.far {mv : Value} {fuel g gm lo gv : Nat} {d : Int} {s : RS} {A : Option Addr} {c : Nat} {W W' : World} (h : SX mv fuel g gm lo d s A c W) (hb : Off gv gv none W W') (hv : Asd g gm (blk A) gv W) : SX mv fuel g gm lo d s A c W' := by
  obtain ⟨cm, h1, h2, h3, i1, i2, i3, h4⟩ := h
  refine ⟨cm, (hb.block g (Array.getElem?_eq_some_iff.1 h1).1 hv.g.symm hv.g.symm (by simp)).trans h1, h2.mv (hb.block gm h2.lt hv.gm.symm hv.gm.symm (by simp)), ?_, i1, i2, Nat.le_trans i3 hb.size, h4⟩
  refine ⟨h3.1, ?_⟩
  rcases h3.2 with h' | ⟨g', cap, cur, hv', hl', hx, h''⟩
  · exact .inl h'
  · have hne : g' ≠ gv := fun e => hv.o (by injection hv' with e1 e2 e3; subst e1; rw [← e]; rfl)
    exact .inr ⟨g', cap, cur, hv', hl', (hb.block g' (Array.getElem?_eq_some_iff.1 hx).1 hne hne (by simp)).trans hx, h''⟩
/-- A new block lies beside. -/
theorem SX.fresh {mv : Value} {fuel g gm lo : Nat} {d : Int} {s : RS} {A : Option Addr} {c : Nat} {W W' : World} (h : SX mv fuel g gm lo d s A c W) {b : Nat} (hb : W.heap.size ≤ b) (hlt : b < W'.heap.size) : Asd g gm (blk A) b W' := by
  obtain ⟨cm, -, -, -, -, -, -, -, kg, kgm, -⟩ := h.cells
  exact ⟨hlt, by omega, by omega, fun e => by have := (h.blkOf b e).2; omega⟩
/-- A row of values, in block gv, beside the state. -/
def VX (g gm : Nat) (o : Option Nat) (gv : Nat) (Av : Option Addr) (n : Nat) (vals : List Int) (W : World) : Prop := vals.length = n ∧ (0 < n → Av = some ⟨gv, 0, none⟩ ∧ Asd g gm o gv W ∧ ∃ arr, W.heap[gv]? = some (.cells arr 2 (0, 0)) ∧ ∀ i (h : i < vals.length), arr[i]? = some (.int .i64 vals[i]))
theorem VX.call {g gm gv n : Nat} {o o' : Option Nat} {Av : Option Addr} {vals : List Int} {W W' : World} (h : VX g gm o gv Av n vals W) (hf : Off g gm o W W') (hn : Nxt W o o') : VX g gm o' gv Av n vals W' := by
  refine ⟨h.1, fun h0 => ?_⟩
  obtain ⟨h1, h2, arr, h3, h4⟩ := h.2 h0
  exact ⟨h1, h2.mv hf.size hn, arr, (hf.at h2).trans h3, h4⟩
theorem VX.below {g gm gv n : Nat} {o : Option Nat} {Av : Option Addr} {vals : List Int} {W W' : World} (h : VX g gm o gv Av n vals W) (hb : Below W.heap.size W W') : VX g gm o gv Av n vals W' := h.call (.of hb) (.inl rfl)
theorem VX.val {g gm gv n : Nat} {o : Option Nat} {Av : Option Addr} {vals : List Int} {W : World} (h : VX g gm o gv Av n vals W) (k : Int) (h0 : 0 ≤ k) (h1 : k < n) : W.cell? ⟨gv, k.toNat, none⟩ = some (.int .i64 (vl vals k)) ∧ W.frozen? ⟨gv, k.toNat, none⟩ = false := by
  obtain ⟨e1, e2, arr, e3, e4⟩ := h.2 (by omega)
  obtain ⟨c0, f0⟩ := row_facts e3
  have hl := h.1
  refine ⟨?_, f0 _⟩
  rw [c0, e4 k.toNat (by omega)]
  unfold vl
  rw [List.getD_eq_getElem?_getD, List.getElem?_eq_getElem (by omega)]; rfl
theorem VX.set {g gm gv n : Nat} {o : Option Nat} {Av : Option Addr} {vals : List Int} {W : World} (h : VX g gm o gv Av n vals W) (k : Nat) (v : Int) : VX g gm o gv Av n (vals.set k v) (W.setCell ⟨gv, k, none⟩ (.int .i64 v)) := by
  refine ⟨by simpa using h.1, fun h0 => ?_⟩
  obtain ⟨e1, e2, arr, e3, e4⟩ := h.2 h0
  refine ⟨e1, ⟨by rw [setCell_size]; exact e2.lt, e2.g, e2.gm, e2.o⟩, _, heap_set (j := k) (u := .int .i64 v) e3, fun i hi => ?_⟩
  have hi' : i < vals.length := by simpa using hi
  have hs : i < arr.size := (Array.getElem?_eq_some_iff.1 (e4 i hi')).1
  rw [Array.getElem?_setIfInBounds, List.getElem_set]
  by_cases e : k = i
  · subst e; rw [if_pos rfl, if_pos hs, if_pos rfl]
  · rw [if_neg e, if_neg e]; exact e4 i hi'
theorem VX.own {g gm lo n : Nat} {o : Option Nat} {v : Value} {vals : List Int} {W : World} (h : W.ownsRow lo 2 1 v n (vals.map (Value.int .i64))) (hn : vals.length = n) (hg : g < lo) (hgm : gm < lo) (ho : ∀ b, o = some b → b < lo) : ∃ Av c gv, v = .slice Av n c ∧ lo ≤ gv ∧ VX g gm o gv Av n vals W ∧ n ≤ c ∧ (Av = none → c = 0) := by
  rcases h.2 with ⟨e1, e2⟩ | ⟨gv, cap, cur, e1, e2, e3, e4, e5, e6, e7⟩
  · subst e1; subst e2; exact ⟨none, 0, lo, rfl, Nat.le_refl _, ⟨hn, fun h0 => by omega⟩, Nat.le_refl _, fun _ => rfl⟩
  · refine ⟨_, cap, gv, e1, e2, ⟨hn, fun h0 => ⟨rfl, ⟨(Array.getElem?_eq_some_iff.1 e3).1, by omega, by omega, fun e => by have := ho gv e; omega⟩, cur, e3, fun i hi => ?_⟩⟩, e4, fun h => by cases h⟩
    have h8 : (cur.toList.take (n * 1))[i]? = (vals.map (Value.int .i64))[i]? := by rw [e7]
    rw [List.getElem?_take_of_lt (by omega), Array.getElem?_toList, List.getElem?_map, List.getElem?_eq_getElem hi] at h8
    exact h8
theorem VX.rd {g gm gv n c : Nat} {o : Option Nat} {Av : Option Addr} {vals : List Int} {W : World} (h : VX g gm o gv Av n vals W) (h1 : n ≤ c) (h2 : Av = none → c = 0) (hl : n ≤ 1048576) : RI lm W (.slice Av n c) vals := by
  have e := h.1
  subst e
  refine ⟨Av, c, rfl, h1, hl, h2, fun h0 => ?_⟩
  obtain ⟨e1, e2, arr, e3, e4⟩ := h.2 h0
  refine ⟨gv, 0, e1, e2.lt, fun i hi => ⟨_, rfl, rfl, fun j hj => ?_⟩⟩
  obtain ⟨c0, -⟩ := row_facts e3
  have hj0 : j = 0 := by simp at hj; omega
  subst hj0
  rw [c0]
  simpa using e4 i hi
theorem own_off2 {W W' : World} {lo b e sz n : Nat} {v : Value} {cs : List Value} (h : W.ownsRow lo e sz v n cs) (hb : Off b b none W W') (hl : ∀ k, v.ownBlock = some k → k ≠ b) : W'.ownsRow lo e sz v n cs := by
  refine ⟨h.1, ?_⟩
  rcases h.2 with h' | ⟨g, cap, cur, hv, h1, h2, h3⟩
  · exact .inl h'
  · have hne : g ≠ b := hl g (by rw [hv]; rfl)
    exact .inr ⟨g, cap, cur, hv, h1, (hb.block g (Array.getElem?_eq_some_iff.1 h2).1 hne hne (by simp)).trans h2, h3⟩
theorem own_blk_lt {W : World} {lo e sz n : Nat} {v : Value} {cs : List Value} (h : W.ownsRow lo e sz v n cs) : ∀ k, v.ownBlock = some k → k < W.heap.size := by
  intro k hk
  rcases h.2 with ⟨rfl, -⟩ | ⟨g, cap, cur, rfl, h1, h2, h3⟩
  · cases hk
  · simp [Value.ownBlock] at hk; subst hk; exact (Array.getElem?_eq_some_iff.1 h2).1
theorem idx_at (x : Int) : ∀ l : List Int, x ∈ l → ∃ (k : Nat) (h : k < l.length), idx (fun y => x == y) l = k ∧ l[k] = x
  | [], h => by cases h
  | y :: r, h => by
    unfold idx
    by_cases e : x = y
    · exact ⟨0, by simp, by simp [e], by simp [e]⟩
    · obtain ⟨k, hk, hi, hx⟩ := idx_at x r (by rcases List.mem_cons.1 h with h | h; exact absurd h e; exact h)
      refine ⟨k + 1, by simp; omega, ?_, by simpa using hx⟩
      rw [if_neg (by simpa using e), hi, if_neg (by omega)]; rfl
theorem preds_inj (f : XFunc) (b : Int) (i j : Nat) (hi : i < (predsOf f b).length) (hj : j < (predsOf f b).length) (h : (predsOf f b)[i] = (predsOf f b)[j]) : i = j := by
  have hn : (predsOf f b).Nodup := by
    unfold predsOf upTo
    refine List.Pairwise.filter _ ?_
    exact List.Pairwise.map _ (fun a b h => by omega) List.nodup_range
  exact (List.getElem_inj hn).1 h
theorem putAt_snoc (x : Int) (xs : List Int) : ∀ (l : List Int) (k : Nat), putAt l k (xs ++ [x]) = (putAt l k xs).set (k + xs.length) x := by
  induction xs with
  | nil => intro l k; simp [putAt]
  | cons y r ih =>
    intro l k
    simp only [List.cons_append, putAt, List.length_cons]
    rw [ih, show k + 1 + r.length = k + (r.length + 1) by omega]
end Go.Proofs.YtkcgejbnhpccdaaGreat
set_option linter.unusedSimpArgs false
set_option linter.unusedVariables false
namespace Go.Proofs.YtkcgejbnhpccdaaGreat
open Go.RowKit
def AfterX (mv : Value) (fuel g gm lo : Nat) (d : Int) (s : RS) (A : Option Addr) (c : Nat) (v : Value) (w : World) (e : Ending) (w' : World) : Prop := e = .returned v ∧ SX mv fuel g gm lo d s A c w' ∧ Off g gm (blk A) w w'
set_option maxHeartbeats 1000000 in
theorem s_fail (mv : Value) (fuel g gm lo : Nat) (s : RS) (A : Option Addr) (c : Nat) (W : World) (q : Int) (h : SX mv fuel g gm lo 0 s A c W) :
    Calls Tryz.prog 107 #[.pointer (some ⟨g, 0, none⟩), .int .i64 q] W (AfterX mv fuel g gm lo q s A c (.tuple #[]) W) := by
  have h' := Hd.mk h
  obtain ⟨cm, k0, k1, k2, k3, k4, k5, kf, kg, kgm, kne⟩ := h.cells
  have f5 := kf 5
  clear h kf k0 k1 k2 k3 k4
  go_enter Tryz.func107, Tryz.ntmps107
  go_wp2
  go_end0
  exact ⟨rfl, h'.out.setCode q, (Off.refl _ _ _ _).set (.inl rfl) _⟩
set_option maxHeartbeats 1000000 in
theorem burn_dead (mv : Value) (fuel g gm lo : Nat) (d : Int) (s : RS) (A : Option Addr) (c : Nat) (W : World) (h : SX mv fuel g gm lo d s A c W) (hd : d ≠ 0) :
    Calls Tryz.prog 110 #[.pointer (some ⟨g, 0, none⟩)] W (AfterX mv fuel g gm lo d s A c (.bool false) W) := by
  have h' := Hd.mk h
  obtain ⟨cm, k0, k1, k2, k3, k4, k5, kf, kg, kgm, kne⟩ := h.cells
  have d1 := bneT hd
  clear h kf k0 k1 k2 k3 k4
  go_enter Tryz.func110, Tryz.ntmps110
  go_wp2
  go_ret
  exact ⟨rfl, h'.out, Off.refl _ _ _ _⟩
set_option maxHeartbeats 1000000 in
theorem burn_no (mv : Value) (fuel g gm lo : Nat) (s : RS) (A : Option Addr) (c : Nat) (W : World) (h : SX mv fuel g gm lo 0 s A c W) (hs : s.steps = fuel) :
    Calls Tryz.prog 110 #[.pointer (some ⟨g, 0, none⟩)] W (AfterX mv fuel g gm lo 4 s A c (.bool false) W) := by
  have h' := Hd.mk h
  obtain ⟨cm, k0, k1, k2, k3, k4, k5, kf, kg, kgm, kne⟩ := h.cells
  have hf := fun nq => s_fail mv fuel g gm lo s A c (W.drewN nq) 4 (h.drewN nq)
  have hle : fuel ≤ s.steps := by omega
  clear h kf k0 k1 k2 hs
  go_enter Tryz.func110, Tryz.ntmps110
  go_wp2
  go_quiet (fail)
  go_wp2_with fail
  refine (hf _).mono ?_; rintro e w1 ⟨rfl, hS, hO⟩
  have hS' := Hd.mk hS
  have hO' := Hd.mk hO
  clear hS hO hf
  go_wp2
  go_ret
  exact ⟨rfl, hS'.out, ((Off.refl _ _ _ _).drewN _).trans (.inl rfl) hO'.out⟩
set_option maxHeartbeats 1000000 in
theorem burn_yes (mv : Value) (fuel g gm lo : Nat) (s : RS) (A : Option Addr) (c : Nat) (W : World) (h : SX mv fuel g gm lo 0 s A c W) (hs : s.steps ≤ fuel) (hn : ¬ s.steps = fuel) (hfu : fuel ≤ 2000) :
    Calls Tryz.prog 110 #[.pointer (some ⟨g, 0, none⟩)] W (AfterX mv fuel g gm lo 0 ⟨s.mem, s.out, s.steps + 1⟩ A c (.bool true) W) := by
  have h' := Hd.mk h
  obtain ⟨cm, k0, k1, k2, k3, k4, k5, kf, kg, kgm, kne⟩ := h.cells
  have f4 := kf 4
  have hle : ¬ fuel ≤ s.steps := by omega
  have ew : IntKind.i64.wrap ((s.steps : Int) + 1) = ((s.steps + 1 : Nat) : Int) := by rw [IntWalk.i64_in _ (by omega)]; simp
  have ew' := ew
  simp only [Int.natCast_add, Int.cast_ofNat_Int] at ew'
  clear h kf k0 k1 k2 hs hn
  go_enter Tryz.func110, Tryz.ntmps110
  go_wp2
  go_quiet (fail)
  go_wp2
  have hst := Hd.mk ((h'.out.drewN nq).setSteps (s.steps + 1))
  go_ret
  exact ⟨rfl, hst.out, ((Off.refl _ _ _ _).drewN _).set (.inl rfl) _⟩
end Go.Proofs.YtkcgejbnhpccdaaGreat
set_option linter.unusedSimpArgs false
set_option linter.unusedVariables false
namespace Go.Proofs.YtkcgejbnhpccdaaGreat
open Go.RowKit
set_option maxRecDepth 20000 in
set_option maxHeartbeats 8000000 in
theorem s_phis (f : XFunc) (cf : List Value) (xv va : Value) (b : Nat) (left : Int) (n : Nat) (vals : List Int) (W : World) (hf : KFunc lm W f cf) (hv : RI lm W va vals) (hn : vals.length = n) (hc : (n : Int) = countOf f) (hfo : Fo f)
    (hb : b < f.blocks.length) (hl : f.blocks[b].phis ≠ [] → left ∈ predsOf f b) (hph : ∀ p ∈ f.blocks[b].phis, p.ins.length = (predsOf f b).length ∧ ∀ id ∈ p.ins, 0 ≤ id ∧ id < countOf f) :
    Calls Tryz.prog 108 #[xv, .agg cf.toArray, .int .i64 b, .int .i64 left, va] W (RetI (enterV f b left vals) W) := by
  subst hn
  have hcc := Hd.mk hc
  clear hc
  have hbk := blkAt_nat f b hb
  have hfl := first_le f b hb
  have hfr := first_rng f b hfo
  have hc60 := hfo.2.1
  have hpl := preds_len f b
  have hn10 := hfo.1.2.2
  have hf' := Hd.mk hf
  have hv' := Hd.mk hv
  obtain ⟨v1, v2, rfl, hp, hb'⟩ := hf
  obtain ⟨A1, c1, rfl, -, -, -⟩ := hp.sm
  obtain ⟨A2, c2, rfl, hcap, hl2, hb0⟩ := hb'.sm
  obtain ⟨Av, cv, rfl, -, hlv, -⟩ := hv.sm
  clear hp hb' hv
  obtain ⟨V, hV⟩ : ∃ V, V = enterV f b left vals := ⟨_, rfl⟩
  rw [← hV]
  unfold enterV nextP at hV
  rw [hbk] at hV
  have hV0 := Hd.mk hV
  clear hV hbk
  obtain ⟨W0, hW0⟩ : ∃ W0 : World, W0 = W.alloc (.cells #[.slice A1 f.params.length c1, .int .i64 f.ret, .slice A2 f.blocks.length c2] 35) := ⟨_, rfl⟩
  have hB0 : Hd (Below W.heap.size W W0) := ⟨by rw [hW0]; exact (Below.refl _ _).al (Nat.le_refl _) _⟩
  have hz0 : W.heap.size < W0.heap.size := by rw [hW0]; simp
  have hzf : Hd (∀ o u, [Value.slice A1 f.params.length c1, .int .i64 f.ret, .slice A2 f.blocks.length c2][o]? = some u → W0.cell? ⟨W.heap.size, o, none⟩ = some u) := ⟨fun o u hu => by rw [hW0]; exact new_cell _ _ _ rfl o u (by simpa using hu)⟩
  have hW0' := Hd.mk hW0
  have hpr := s_l3Preds f _ b W0 (KM.mv hf'.out hB0.out)
  have hcp := fun W' (hW : Below W.heap.size W W') => s_l1Copy _ vals W' (hv'.out.mv hW)
  have hfi := fun W' (hW : Below W.heap.size W W') => s_l2First f _ b W' (KM.mv hf'.out hW) (by omega)
  clear hW0 hfo
  go_enter Tryz.func108, Tryz.ntmps108
  go_wp2_with fail
  rw [← hW0'.out]
  have x0 := hzf.out 0 _ rfl
  have x1 := hzf.out 1 _ rfl
  have x2 := hzf.out 2 _ rfl
  go_wp2_with fail
  refine hpr.mono ?_; rintro e w1 ⟨u1, rfl, ho1, hb1⟩
  have ho1' := Hd.mk ho1
  obtain ⟨Aq, cq, rfl, -, -, -, -⟩ := own_shape ho1
  have hB1 := Hd.mk (hB0.out.then hb1)
  have hb1' := Hd.mk hb1
  have hz1 := hb1.size
  clear hpr ho1 hb1 x0 x1 x2
  go_wp2_with fail
  refine (hcp _ hB1.out).mono ?_; rintro e w2 ⟨u2, rfl, ho2, hb2⟩
  have hB2 := Hd.mk (hB1.out.then hb2)
  have hb12 := Hd.mk (hb1'.out.then hb2)
  have ho2' := Hd.mk ho2
  have hq2 := Hd.mk (own_mv ho1'.out hb2)
  have hqb := Hd.mk (own_blk_lt ho1'.out)
  have hz2 := hb2.size
  obtain ⟨Ao, co, go, hov, hgo, hvx, hco1, hco2⟩ := VX.own (g := W.heap.size) (gm := W.heap.size) (o := none) ho2 rfl (by omega) (by omega) (fun b h => by cases h)
  subst hov
  have hvx' := Hd.mk hvx
  have y0 := (bat hb12.out W.heap.size hz0 0).trans (hzf.out 0 _ rfl)
  have y1 := (bat hb12.out W.heap.size hz0 1).trans (hzf.out 1 _ rfl)
  have y2 := (bat hb12.out W.heap.size hz0 2).trans (hzf.out 2 _ rfl)
  clear hcp hb2 hvx hco2
  go_wp2_with fail
  refine (hfi _ hB2.out).mono ?_; rintro e w3 ⟨rfl, hb3⟩
  have hB3 := Hd.mk (hB2.out.then hb3)
  have hv3 := Hd.mk (hvx'.out.below hb3)
  have hq3 := Hd.mk (own_mv hq2.out hb3)
  have ho3 := Hd.mk (own_mv ho2'.out hb3)
  have hz3 := hb3.size
  have hb03 := Hd.mk (hb12.out.then hb3)
  clear hfi hb3 y0 y1 y2
  obtain ⟨eb, eo, ecs, hA_, heb, ⟨bv1, bv2, rfl, hr_, hr2_⟩, hat_⟩ := (hb0.out).in0 (hB3.out) (b) (hb)
  cases hA_
  have hew := Nat.lt_of_lt_of_le heb (hB3.out).size
  have g0 := hat_ 0 _ rfl
  have g1 := hat_ 1 _ rfl
  have g2 := hat_ 2 _ rfl
  have g3 := hat_ 3 _ rfl
  have g4 := hat_ 4 _ rfl
  have g5 := hat_ 5 _ rfl
  clear hat_
  simp at g0 g1 g2 g3 g4 g5
  obtain ⟨Ap, cp, rfl, hcp, hlp, hrp⟩ := hr_.sm
  obtain ⟨Ai, ci, rfl, hci, hli, hri⟩ := hr2_.sm
  clear hr_ hr2_
  generalize f.blocks[b] = x at *
  have hg0 := Hd.mk g0
  clear g1 g2 g3 g4 g5 g0
  obtain ⟨G, hG⟩ : ∃ G : XPhi → Int, G = fun p => vl vals (p.ins.getD (idx (fun y => left == y) (predsOf f b)).toNat 0) := ⟨_, rfl⟩
  have hV := hV0.out
  rw [← hG] at hV
  have hG' := Hd.mk hG
  have hV' := Hd.mk hV
  have hl' := Hd.mk hl
  generalize firstOf f (b : Int) = fi at *
  obtain ⟨fn, rfl⟩ : ∃ fn : Nat, fi = fn := ⟨fi.toNat, by omega⟩
  rw [Int.toNat_natCast] at hV'
  clear hG hV hl hvx' hq2 ho2' hV0
  have hprd := Hd.mk (preds_inj f (b : Int))
  generalize predsOf f (b : Int) = ps at *
  go_wp2
  go_loopw [14] (fun s14 wr => ∃ i : Nat, i ≤ x.phis.length ∧ s14 = .int .i64 i ∧ Hd (VX W.heap.size W.heap.size none go Ao vals.length (putAt vals fn ((x.phis.take i).map G)) wr) ∧ Hd (wr.ownsRow w1.heap.size 2 1 (.slice Ao vals.length co) vals.length ((putAt vals fn ((x.phis.take i).map G)).map (Value.int .i64))) ∧ Hd (Off go go none w3 wr)) (fun s14 _ => x.phis.length - (intOf s14).toNat)
  case atStart => exact ⟨0, Nat.zero_le _, rfl, by simpa [putAt] using hv3, by simpa [putAt] using ho3, ⟨Off.refl _ _ _ _⟩⟩
  case round =>
    obtain ⟨i, hi, rfl, hvr, hor, hof⟩ := hrel
    obtain ⟨wo, rfl⟩ : ∃ wo : World, wo = wr := ⟨_, rfl⟩
    have hzo := hof.out.size
    have hBw : Hd (Below W.heap.size W wo) := ⟨hB3.out.trans (hof.out.below (by omega) (by omega) (fun b h => by cases h) (by omega))⟩
    have yb := fun j => (World.cell?_of_block (a := ⟨W.heap.size, j, none⟩) (hof.out.block W.heap.size (by omega) (by omega) (by omega) (by simp))).trans (bat hb03.out W.heap.size hz0 j)
    have y0 := (yb 0).trans (hzf.out 0 _ rfl)
    have y1 := (yb 1).trans (hzf.out 1 _ rfl)
    have y2 := (yb 2).trans (hzf.out 2 _ rfl)
    have yl : W.heap.size < wo.heap.size := by omega
    have hego : eb ≠ go := by omega
    have g0 := (World.cell?_of_block (a := ⟨eb, _, none⟩) (hof.out.block eb hew hego hego (by simp))).trans hg0.out
    have gl : eb < wo.heap.size := by omega
    have eb0 : (0 : Int) ≤ (b : Int) := by omega
    have eb1 : (b : Int) < (f.blocks.length : Int) := by omega
    clear yb
    by_cases hlt : i < x.phis.length
    · obtain ⟨kk, hkk, hidx, hat⟩ := idx_at left ps (hl'.out (by intro h; rw [h] at hlt; simp at hlt))
      obtain ⟨hpk1, hpk2⟩ := hph x.phis[i] (List.getElem_mem hlt)
      obtain ⟨pb, po, pcs, hA_, hpb, ⟨pv1, rfl, hr_⟩, hat_⟩ := (hrp.out).in0 (hBw.out) i hlt
      cases hA_
      have hpw := Nat.lt_of_lt_of_le hpb (hBw.out).size
      obtain ⟨Ax, cx, rfl, hcx, hlx, hrx⟩ := hr_.sm
      have p1 := hat_ 1 _ rfl
      clear hat_ hr_
      try simp at p1
      have hsn : Hd (putAt vals fn ((x.phis.take (i + 1)).map G) = (putAt vals fn ((x.phis.take i).map G)).set (fn + i) (G x.phis[i])) := ⟨by
        rw [List.take_succ_eq_append_getElem hlt, List.map_append, List.map_cons, List.map_nil, putAt_snoc]
        congr 2
        simp; omega⟩
      generalize x.phis[i] = p at *
      have hkl : kk < p.ins.length := by omega
      have hid := hpk2 p.ins[kk] (List.getElem_mem hkl)
      have hGp : Hd (G p = vl vals p.ins[kk]) := ⟨by rw [hG'.out]; show vl vals (p.ins.getD (idx (fun y => left == y) ps).toNat 0) = _; rw [hidx, Int.toNat_natCast, List.getD_eq_getElem?_getD, List.getElem?_eq_getElem hkl]; rfl⟩
      have hcc' := hcc.out
      have hidn : p.ins[kk].toNat < vals.length := by omega
      have hvl : Hd (vl vals p.ins[kk] = vals[p.ins[kk].toNat]) := ⟨by unfold vl; rw [List.getD_eq_getElem?_getD, List.getElem?_eq_getElem hidn]; rfl⟩
      have hfi : fn + i < vals.length := by omega
      obtain ⟨zb, zo, zcs, hA_, hzb2, hk_, hat_⟩ := (hrx.out).in0 (hBw.out) kk hkl
      cases hA_; cases hk_
      have hzw := Nat.lt_of_lt_of_le hzb2 hBw.out.size
      have q0 := hat_ 0 _ rfl
      clear hat_
      obtain ⟨vb, vo, vcs, hA_, hvb2, hk_, hat_⟩ := (hv'.out).in0 (hBw.out) p.ins[kk].toNat hidn
      cases hA_; cases hk_
      have hvw := Nat.lt_of_lt_of_le hvb2 hBw.out.size
      have r0 := hat_ 0 _ rfl
      clear hat_
      try simp at q0
      try simp at r0
      rw [← hvl.out, ← hGp.out] at r0
      have hq0 := Hd.mk q0
      have hr0 := Hd.mk r0
      have hp1 := Hd.mk p1
      have hidn' := Hd.mk hidn
      clear hpk2 hGp hvl q0 r0 p1 hidx hcc' hidn
      have hat' := Hd.mk hat
      clear hat
      generalize putAt vals fn ((x.phis.take i).map G) = X at *
      generalize G p = gp at *
      generalize p.ins[kk] = id at *
      have el0 : (0 : Int) ≤ (i : Int) := by omega
      have el1 : (i : Int) < (x.phis.length : Int) := by omega
      have hpk1' := Hd.mk hpk1
      clear hpk1
      go_wp2
      clear y0 y1 y2 g0
      go_loopw [15] (fun s15 wr => ∃ j : Nat, j ≤ ps.length ∧ s15 = .int .i64 j ∧ Hd (VX W.heap.size W.heap.size none go Ao vals.length (if kk < j then X.set (fn + i) gp else X) wr) ∧ Hd (wr.ownsRow w1.heap.size 2 1 (.slice Ao vals.length co) vals.length ((if kk < j then X.set (fn + i) gp else X).map (Value.int .i64))) ∧ Hd (Off go go none wo wr)) (fun s15 _ => ps.length - (intOf s15).toNat)
      case atStart => exact ⟨0, Nat.zero_le _, rfl, by simpa using hvr, by simpa using hor, ⟨Off.refl _ _ _ _⟩⟩
      case round =>
        obtain ⟨j, hj, rfl, hvj, hoj, hof2⟩ := hrel
        obtain ⟨wi, rfl⟩ : ∃ wi : World, wi = wr := ⟨_, rfl⟩
        have hof3 : Hd (Off go go none w3 wi) := ⟨hof.out.trans (.inl rfl) hof2.out⟩
        have hzi := hof2.out.size
        by_cases hlj : j < ps.length
        · have hro := OI.rd (own_off2 hq3.out hof3.out (fun k hk => by have := hqb.out k hk; omega)) (by omega)
          obtain ⟨sb, so, scs, hA_, hsb2, hk_, hat_⟩ := hro.in0 (Below.refl wi.heap.size wi) j hlj
          cases hA_; cases hk_
          have s0 := hat_ 0 _ rfl
          clear hat_ hro
          simp at s0
          have ej0 : (0 : Int) ≤ (j : Int) := by omega
          have ej1 : (j : Int) < (ps.length : Int) := by omega
          by_cases hjk : j = kk
          · subst hjk
            rw [hat'.out] at s0
            rw [if_neg (Nat.lt_irrefl _)] at hvj hoj
            obtain ⟨e1, e2, arr, e3, e4⟩ := hvj.out.2 (by omega)
            have hAo := Hd.mk e1
            subst e1
            obtain ⟨t0, tf⟩ := hvj.out.val ((fn + i : Nat) : Int) (by omega) (by omega)
            rw [Int.toNat_natCast] at t0 tf
            have hset := Hd.mk (hvj.out.set (fn + i) gp)
            have hseto : Hd ((wi.setCell ⟨go, fn + i, none⟩ (.int .i64 gp)).ownsRow w1.heap.size 2 1 (.slice (some ⟨go, 0, none⟩) vals.length co) vals.length ((X.set (fn + i) gp).map (Value.int .i64))) := ⟨by
              have := (World.ownsRow.stored hoj.out (fn + i) (.int .i64 gp)).1
              simpa [List.map_set] using this⟩
            have hoff : Hd (Off go go none wo (wi.setCell ⟨go, fn + i, none⟩ (.int .i64 gp))) := ⟨hof2.out.set (.inl rfl) _⟩
            have yb := fun j' => (World.cell?_of_block (a := ⟨W.heap.size, j', none⟩) (hof3.out.block W.heap.size (by omega) (by omega) (by omega) (by simp))).trans (bat hb03.out W.heap.size hz0 j')
            have y0 := (yb 0).trans (hzf.out 0 _ rfl)
            have y1 := (yb 1).trans (hzf.out 1 _ rfl)
            have y2 := (yb 2).trans (hzf.out 2 _ rfl)
            have g0 := (World.cell?_of_block (a := ⟨eb, _, none⟩) (hof3.out.block eb hew hego hego (by simp))).trans hg0.out
            have mv := fun (bk : Nat) (o : Nat) (h : bk < wo.heap.size) (hne : bk ≠ go) => World.cell?_of_block (a := ⟨bk, o, none⟩) (hof2.out.block bk h hne hne (by simp))
            have p1 := (mv pb _ hpw (by omega)).trans hp1.out
            have q0 := (mv zb _ hzw (by omega)).trans hq0.out
            have r0 := (mv vb _ hvw (by omega)).trans hr0.out
            have ew : IntKind.i64.wrap ((fn : Int) + (i : Int)) = ((fn + i : Nat) : Int) := by rw [IntWalk.i64_in _ (by omega)]; simp
            have ew' := ew
            simp only [Int.natCast_add] at ew'
            have ei0 : 0 ≤ id := hid.1
            have ei1 : id < (vals.length : Int) := by have := hidn'.out; omega
            have ej2 : (j : Int) < (p.ins.length : Int) := by omega
            have ek : (fn : Int) + (i : Int) < (vals.length : Int) := by omega
            have ek0 : (0 : Int) ≤ (fn : Int) + (i : Int) := by omega
            have et : ((fn : Int) + (i : Int)).toNat = fn + i := by omega
            clear yb mv e2 e3 e4 hvj hoj
            go_wp2
            go_roundw
            case rel => exact ⟨j + 1, by omega, by go_num, by rw [if_pos (Nat.lt_succ_self _)]; exact hset, by rw [if_pos (Nat.lt_succ_self _)]; exact hseto, hoff⟩
            case measure => simp [intOf]; omega
          · have hne : (ps[j] == left) = false := beqF (fun e => hjk (hprd.out j kk hlj hkk (by rw [e, hat'.out])))
            have hiff : Hd ((if kk < j + 1 then X.set (fn + i) gp else X) = (if kk < j then X.set (fn + i) gp else X)) := ⟨by by_cases h : kk < j <;> simp [h] <;> omega⟩
            generalize ps[j] = pj at *
            go_wp2
            go_roundw
            case rel => exact ⟨j + 1, by omega, by go_num, by rw [hiff.out]; exact hvj, by rw [hiff.out]; exact hoj, hof2⟩
            case measure => simp [intOf]; omega
        · have e : j = ps.length := by omega
          subst e
          rw [if_pos hkk, ← hsn.out] at hvj hoj
          go_wp2
          go_roundw
          case rel => exact ⟨i + 1, by omega, by go_num, hvj, hoj, hof3⟩
          case measure => simp [intOf]; omega
    · have e : i = x.phis.length := by omega
      subst e
      rw [List.take_length, ← hV'.out] at hor
      have hVl : Hd (V.length = vals.length) := ⟨by rw [hV'.out, putAt_len]⟩
      go_wp2
      go_ret
      exact ⟨_, rfl, by rw [hVl.out]; exact own_lower hor.out (by omega), hBw.out⟩
end Go.Proofs.YtkcgejbnhpccdaaGreat
