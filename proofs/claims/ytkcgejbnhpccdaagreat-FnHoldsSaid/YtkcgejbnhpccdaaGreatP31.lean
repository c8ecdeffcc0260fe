import Derived.Test.YtkcgejbnhpccdaaGreatP02
import Derived.Test.YtkcgejbnhpccdaaGreatP30
set_option linter.unusedSimpArgs false
set_option linter.unusedVariables false
namespace Go.Proofs.YtkcgejbnhpccdaaGreat
open Go.RowKit
def KB (_ : World) (x : Int) (cs : List Value) : Prop := cs = [.int .u8 x] ∧ 0 ≤ x ∧ x < 256
instance : KM KB := ⟨fun h _ => h⟩
theorem l_big (A : Option Addr) (n c : Nat) (w : World) (hn : (n : Int) ≤ 9223372036854775807) : Calls Tryz.prog 13 #[.slice A n c] w (Same (.bool (decide ((1048576 : Int) < n))) w) := by
  go_enter Tryz.func13, Tryz.ntmps13
  go_wp2
  go_ret
  exact ⟨rfl, rfl⟩
set_option maxRecDepth 20000 in
set_option maxHeartbeats 8000000 in
theorem c_Invoked (m : XMod) (cs : List Value) (k : Int) (va : Value) (args : List Int) (mem : ByteArray) (fuel : Int) (w : World) (hm : KMod lm w m cs) (ha : RI lm w va args) (hms : mem.size ≤ 1048576) :
    Calls Tryz.prog 14 #[.agg cs.toArray, .int .i64 k, va, .string mem, .int .i64 fuel] w (RetRes (resR m k args mem fuel) w) := by
  have hm' := Hd.mk hm
  have ha' := Hd.mk ha
  obtain ⟨vm, rfl, hrm⟩ := hm
  obtain ⟨Am, cm, rfl, -, -, -⟩ := hrm.sm
  have hck := fun W (hW : Below w.heap.size w W) => c_isOk m _ W (KM.mv hm'.out hW)
  have hin := fun h W (hW : Below w.heap.size w W) => c_invoked m _ k va args mem fuel W (KM.mv hm'.out hW) h (ha'.out.mv hW) hms
  clear hrm ha
  have hbl := fun o => (Below.refl w.heap.size w).al (Nat.le_refl _) o
  obtain ⟨W0, hW0⟩ : ∃ W0 : World, W0 = (w.alloc (.cells #[.slice Am m.funcs.length cm] 38)).alloc (.cells #[.int .i64 0, .int .i64 0, .slice none 0 0, .string ⟨#[]⟩, .int .i64 0] 40) := ⟨_, rfl⟩
  have hz0 : W0.heap.size = w.heap.size + 2 := by rw [hW0]; simp
  have hb0 : Below w.heap.size w W0 := by rw [hW0]; exact (hbl _).al (by first | (simp; done) | (simp; omega)) _
  have hmb : Hd (W0.cell? ⟨w.heap.size, 0, none⟩ = some (.slice Am m.funcs.length cm)) := ⟨by rw [hW0]; simp⟩
  have hrb : Hd (W0.heap[w.heap.size + 1]? = some (.cells #[.int .i64 0, .int .i64 0, .slice none 0 0, .string ⟨#[]⟩, .int .i64 0] 40 (0, 0))) := ⟨by rw [hW0]; exact heap_new _ _ _ _ (by simp)⟩
  have hb0' := Hd.mk hb0
  have hW0' := Hd.mk hW0
  have hz0' := Hd.mk hz0
  have hzw : w.heap.size + 1 < W0.heap.size := by omega
  clear hb0 hW0 hbl hz0
  generalize hR : resR m k args mem fuel = R
  have hR' := Hd.mk hR
  clear hR
  unfold resR at hR'
  go_enter Tryz.func14, Tryz.ntmps14
  go_wp2_with fail
  rw [← hW0'.out]
  have x0 := hmb.out
  go_wp2_with fail
  refine (hck _ hb0'.out).mono ?_; rintro e w1 ⟨rfl, hb1⟩
  have hB1 := Hd.mk (hb0'.out.then hb1)
  have hb1' := Hd.mk hb1
  have hz1 := hb1.size
  obtain ⟨cr, fr⟩ := row_facts ((hb1.block _ hzw).trans hrb.out)
  have q0 := cr 0
  have q1 := cr 1
  have q2 := cr 2
  have q3 := cr 3
  have q4 := cr 4
  simp at q0 q1 q2 q3 q4
  replace x0 := (bat hb1 w.heap.size (by omega) 0).trans x0
  clear cr hb1 hck
  cases hq : modOk m with
  | false =>
    rw [hq] at hR'
    have hv : Hd (res6 = R) := ⟨hR'.out⟩
    clear hq
    go_wp2
    refine bodyPost_ret (v := resV res6 (.slice none 0 0)) (by simp [results, Tryz.results14, go_sem, resV, res6, q0, q1, q2, q3, q4]) rfl ⟨_, by rw [← hv.out], by rw [← hv.out]; exact ownI_nil _ _, ?_⟩
    repeat (refine Below.setCell ?_ (by first | (simp; done) | (simp; omega)) _)
    exact hB1.out
  | true =>
    rw [hq, if_pos rfl] at hR'
    have hiv := hin hq
    clear hq hin q0 q1 q2 q3 q4 fr
    rw [hR'.out] at hiv
    go_wp2_with fail
    refine (hiv _ hB1.out).mono ?_; rintro e w2 ⟨v2, rfl, hown, hb2⟩
    have hB2 := Hd.mk (hB1.out.then hb2)
    obtain ⟨cr, fr⟩ := row_facts ((hb2.block _ (by omega)).trans ((hb1'.out.block _ hzw).trans hrb.out))
    have q0 := cr 0
    have q1 := cr 1
    have q2 := cr 2
    have q3 := cr 3
    have q4 := cr 4
    simp at q0 q1 q2 q3 q4
    have hz2 := hb2.size
    have hown' := Hd.mk (And.intro hown (show w.heap.size + 1 < w1.heap.size by omega))
    obtain ⟨A2, c2, rfl, -, -⟩ := own_shape hown
    clear cr hb2 hown hiv x0
    unfold resV
    go_wp2
    refine bodyPost_ret (v := resV R (.slice A2 R.out.length c2)) (by simp [results, Tryz.results14, go_sem, resV, q0, q1, q2, q3, q4]) rfl ⟨_, rfl, ?_, ?_⟩
    · refine own_lower (base := w1.heap.size) ?_ (by have := hown'.out.2; omega)
      repeat (refine own_far ?_ (by have := hown'.out.2; omega))
      exact hown'.out.1
    · repeat (refine Below.setCell ?_ (by first | (simp; done) | (simp; omega)) _)
      exact hB2.out
def Fit (w v : Int) : Prop := mskd w v = v
theorem fit0 (w : Int) : Fit w 0 := by
  unfold Fit mskd
  split
  · simp
  · rfl
theorem fit_mskd (w n : Int) : Fit w (mskd w n) := by
  unfold Fit mskd
  cases widthOk w
  · rfl
  · simp [Int.emod_emod]
theorem fit_val {w v : Int} (h : isVal w v = true) : Fit w v := by
  unfold isVal inR at h
  simp only [Bool.and_eq_true, decide_eq_true_eq] at h
  unfold Fit mskd
  rw [h.1, if_pos rfl]
  exact Int.emod_eq_of_lt h.2.1 (by omega)
theorem fit1 {v : Int} (h : v = 0 ∨ v = 1) : Fit 1 v := by rcases h with rfl | rfl <;> rfl
theorem mskd_01 {w v : Int} (h : v = 0 ∨ v = 1) : mskd w v = 0 ∨ mskd w v = 1 := by
  rcases h with rfl | rfl
  · exact .inl (fit0 w)
  · unfold mskd
    cases hw : widthOk w
    · exact .inl rfl
    · right
      rcases wd4 hw with rfl | rfl | rfl | rfl <;> rfl
theorem b01_01 (b : Bool) : b01 b = 0 ∨ b01 b = 1 := by cases b <;> simp [b01]
theorem two_01 {op : Int} (w a b : Int) (h : bin op = true) (h14 : 14 ≤ op) : two op w a b = 0 ∨ two op w a b = 1 := by
  unfold bin inR at h
  simp only [Bool.and_eq_true, decide_eq_true_eq] at h
  have : op = 14 ∨ op = 15 ∨ op = 16 ∨ op = 17 := by omega
  rcases this with rfl | rfl | rfl | rfl
  all_goals
    simp [two]
    exact b01_01 _
theorem bin_fit (op w a b : Int) (h : bin op = true) : Fit (resW op w) (binV op w a b).1 := by
  unfold binV
  split
  · exact fit0 _
  split
  · exact fit0 _
  rename_i hv _
  simp only [Bool.not_eq_true', Bool.not_eq_false, Bool.and_eq_true] at hv
  have hw : widthOk w = true := by
    have := hv.1.2
    unfold isVal at this
    simp only [Bool.and_eq_true] at this
    exact this.1
  unfold resW
  rw [h, hw]
  simp only [Bool.and_self, if_true]
  split
  · exact fit1 (mskd_01 (two_01 w a b h (by assumption)))
  · exact fit_mskd _ _
theorem cast_fit (op f t v : Int) : Fit t (castV op f t v).1 := by
  unfold castV
  split
  · exact fit0 _
  rename_i h
  simp only [Bool.not_eq_true', Bool.not_eq_false, Bool.and_eq_true] at h
  split
  · rename_i h2
    simp only [Bool.and_eq_true, decide_eq_true_eq] at h2
    refine fit_val ?_
    have h1 := h.1
    unfold isVal inR at h1 ⊢
    simp only [Bool.and_eq_true, decide_eq_true_eq] at h1 ⊢
    refine ⟨h.2, h1.2.1, ?_⟩
    have hf := h1.1
    have ht := h.2
    have hv := h1.2.2
    rcases wd4 hf with rfl | rfl | rfl | rfl <;> rcases wd4 ht with rfl | rfl | rfl | rfl
    all_goals first
      | (have := h2.2; omega)
      | (simp at hv ⊢; omega)
  split
  · exact fit_mskd _ _
  split
  · exact fit_mskd _ _
  · exact fit0 _
def VT (f : XFunc) (vals : List Int) : Prop := ∀ id : Nat, Fit (typeOf f id) (vals.getD id 0)
theorem VT.vl {f : XFunc} {vals : List Int} (h : VT f vals) {k : Int} (hk : 0 ≤ k) : Fit (typeOf f k) (vl vals k) := by
  have := h k.toNat
  rw [Int.toNat_of_nonneg hk] at this
  exact this
theorem VT.set {f : XFunc} {vals : List Int} (h : VT f vals) (k : Nat) (v : Int) (hv : Fit (typeOf f k) v) : VT f (vals.set k v) := fun id => by
  rw [List.getD_eq_getElem?_getD, List.getElem?_set]
  split
  · rename_i he
    subst he
    split
    · exact hv
    · exact fit0 _
  · rw [← List.getD_eq_getElem?_getD]; exact h id
theorem VT.put {f : XFunc} : ∀ (r : List Int) {vals : List Int} (k : Nat), VT f vals → (∀ j (hj : j < r.length), Fit (typeOf f ((k + j : Nat) : Int)) r[j]) → VT f (putAt vals k r)
  | [], _, _, h, _ => h
  | x :: r, vals, k, h, hr => VT.put r (k + 1) (h.set k x (hr 0 (by simp))) fun j hj => by
    have := hr (j + 1) (by simpa using hj)
    rw [show k + 1 + j = k + (j + 1) by omega]
    simpa using this
def OO (s : RS) : Prop := ∀ x ∈ s.out, 0 ≤ x ∧ x ≤ 4294967295
def CallF (m : XMod) (fuel : Nat) (call : Callee) : Prop := ∀ (k : Int) (args : List Int) (s : RS), 0 ≤ k → k < m.funcs.length → ROk fuel s → OO s → (∀ x ∈ args, 0 ≤ x ∧ x ≤ 4294967295) → args.length = (m.funcs.getD k.toNat func0).params.length → (∀ j (hj : j < args.length), Fit ((m.funcs.getD k.toNat func0).params.getD j 0) args[j]) →
  OO (call k args s).2 ∧ Fit (m.funcs.getD k.toNat func0).ret (call k args s).1.1 ∧ ((call k args s).1.2 ≠ 0 → (call k args s).1.1 = 0)
theorem fits2_at (f : XFunc) : ∀ (al ws : List Int), fits2 f al ws = true → ∀ j (hj : j < al.length), j < ws.length → typeOf f al[j] = ws.getD j 0
  | [], _, _, j, hj, _ => absurd hj (by simp)
  | _ :: _, [], _, _, _, hj => absurd hj (by simp)
  | a :: r, w :: ws, h, j, hj, hw => by
    unfold fits2 at h
    simp only [Bool.and_eq_true, beq_iff_eq] at h
    cases j with
    | zero => simpa using h.1
    | succ j => simpa using fits2_at f r ws h.2 j (by simpa using hj) (by simpa using hw)
theorem ids_of {ids funcs : Int} {i : XInst} (h : instOk ids funcs i = true) : ∀ x ∈ opsOf i, 0 ≤ x := by
  unfold instOk at h
  simp only [Bool.and_eq_true, List.all_eq_true] at h
  intro x hx
  have := h.1.1.1.2 x hx
  unfold isIdB inR at this
  simp only [Bool.and_eq_true, decide_eq_true_eq] at this
  exact this.1
theorem bin_cst {op : Int} (h : bin op = false) (h2 : cst op = false) (h3 : inR op 1 27 = true) : op = 21 ∨ op = 22 ∨ op = 23 ∨ op = 24 ∨ op = 25 ∨ op = 26 ∨ op = 27 := by
  unfold bin inR at h
  unfold cst inR at h2
  unfold inR at h3
  simp at h h2 h3
  omega
theorem doI_fit {m : XMod} {fuel n : Nat} {call : Callee} (hc : CallF m fuel call) (f : XFunc) {ids : Int} {i : XInst} (hi : instOk ids m.funcs.length i = true) (ht : typedI f i = true) (hca : i.op = 26 → callOk m f i = true) {vals : List Int} (hv : VOk n vals) (hvt : VT f vals) {s : RS} (hs : ROk fuel s) (ho : OO s) :
    OO (doI call f i vals s).2 ∧ ((doI call f i vals s).1.2 = 0 → Fit (widthOf i) (doI call f i vals s).1.1) := by
  have hid := ids_of hi
  have hop : inR i.op 1 27 = true := by
    unfold instOk at hi
    simp only [Bool.and_eq_true] at hi
    exact hi.1.1.1.1.1.1
  have ha := vl_rng hv i.a
  unfold doI
  split
  · rename_i hb
    have hf : Fit (widthOf i) (binV i.op i.w (vl vals i.a) (vl vals i.b)).1 := by
      unfold widthOf; rw [if_pos hb]; exact bin_fit _ _ _ _ hb
    split
    · exact ⟨ho, fun _ => hf⟩
    · exact ⟨ho, fun _ => fit0 _⟩
  rename_i hb
  have hb' : bin i.op = false := by simpa using hb
  split
  · rename_i hcs
    refine ⟨ho, fun _ => ?_⟩
    unfold widthOf
    rw [if_neg hb]
    split
    · rename_i h
      unfold cst inR at hcs
      simp at hcs h
      omega
    · exact cast_fit _ _ _ _
  rename_i hcs
  have hcs' : cst i.op = false := by simpa using hcs
  have hw : i.op ≠ 24 → i.op ≠ 25 → widthOf i = i.w := fun h1 h2 => by
    unfold widthOf; rw [if_neg hb, if_neg (by simp [h1, h2])]
  have h7 := bin_cst hb' hcs' hop
  split
  · rename_i h
    refine ⟨ho, fun _ => ?_⟩
    rw [hw (by omega) (by omega)]
    unfold instOk immFits at hi
    rw [if_pos (by simpa using h)] at hi
    simp only [Bool.and_eq_true] at hi
    exact fit_val hi.2
  split
  · rename_i h21 h
    refine ⟨ho, fun _ => ?_⟩
    rw [hw (by omega) (by omega)]
    unfold typedI at ht
    rw [if_neg hb, h] at ht
    simp at ht
    have hop : opsOf i = [i.a, i.b, i.c] := by unfold opsOf; rw [hb', hcs', h]; rfl
    show Fit _ (if vl vals i.a = 1 then vl vals i.b else vl vals i.c)
    split
    · rw [← ht.1.2]; exact hvt.vl (hid _ (by rw [hop]; simp))
    · rw [← ht.2]; exact hvt.vl (hid _ (by rw [hop]; simp))
  split
  · rename_i h
    refine ⟨ho, fun _ => ?_⟩
    rw [hw (by omega) (by omega)]
    unfold typedI at ht
    rw [if_neg hb, h] at ht
    simp at ht
    have hop : opsOf i = [i.a] := by unfold opsOf; rw [hb', hcs', h]; rfl
    rw [← ht]
    exact hvt.vl (hid _ (by rw [hop]; simp))
  split
  · rename_i h
    have hck := hca h
    unfold callOk at hck
    simp only [Bool.and_eq_true, beq_iff_eq] at hck
    obtain ⟨⟨hr, hl⟩, hf2⟩ := hck
    have hop : opsOf i = i.args := by unfold opsOf; rw [hb', hcs', h]; rfl
    have hk : 0 ≤ i.imm ∧ i.imm < m.funcs.length := by
      unfold instOk immFits at hi
      rw [h] at hi
      simp only [Bool.and_eq_true] at hi
      have := hi.2
      simp [inR] at this
      omega
    obtain ⟨k1, k2, k3⟩ := hc i.imm (i.args.map (vl vals)) s hk.1 hk.2 hs ho (fun x hx => by
      obtain ⟨a, -, rfl⟩ := List.mem_map.1 hx
      exact vl_rng hv a) (by simpa using hl) (fun j hj => by
      have hj' : j < i.args.length := by simpa using hj
      rw [← fits2_at f _ _ hf2 j hj' (by omega)]
      simp only [List.getElem_map]
      exact hvt.vl (hid _ (by rw [hop]; exact List.getElem_mem _)))
    exact ⟨k1, fun _ => by rw [hw (by omega) (by omega), hr]; exact k2⟩
  split
  · rename_i h
    split
    · exact ⟨ho, fun _ => fit0 _⟩
    · refine ⟨fun x hx => ?_, fun _ => fit0 _⟩
      rcases List.mem_append.1 hx with hx | hx
      · exact ho x hx
      · rw [List.mem_singleton.1 hx]; exact ha
  split
  · exact ⟨ho, fun _ => fit0 _⟩
  split
  · exact ⟨ho, fun _ => fit0 _⟩
  · rename_i h21 h22 h27 h26 h25 h32 h24
    have h23 : i.op = 23 := by omega
    refine ⟨ho, fun _ => ?_⟩
    rw [hw (by omega) (by omega)]
    have hw8 : i.w = 8 := by
      unfold instOk wFits at hi
      rw [h23] at hi
      simp only [Bool.and_eq_true] at hi
      simpa using hi.1.2
    rw [hw8]
    show Fit 8 (s.mem.getD (vl vals i.a).toNat 0)
    rw [List.getD_eq_getElem?_getD]
    by_cases hk : (vl vals i.a).toNat < s.mem.length
    · rw [List.getElem?_eq_getElem hk]
      have := hs.byt _ hk
      refine fit_val ?_
      simp [isVal, widthOk, inR]
      omega
    · rw [List.getElem?_eq_none (by omega)]; exact fit0 _
structure IT (m : XMod) (f : XFunc) (id : Nat) (l : List XInst) : Prop where
  ok : ∀ i ∈ l, instOk (countOf f) m.funcs.length i = true
  ty : ∀ i ∈ l, typedI f i = true
  ca : ∀ i ∈ l, i.op = 26 → callOk m f i = true
  wd : ∀ q (h : q < l.length), typeOf f ((id + q : Nat) : Int) = widthOf l[q]
theorem instsR_fit {m : XMod} {fuel n : Nat} {call : Callee} (hco : CallOk fuel call) (hc : CallF m fuel call) (f : XFunc) : ∀ (l : List XInst) (id : Nat) (vals : List Int) (s : RS), IT m f id l → VOk n vals → VT f vals → ROk fuel s → OO s →
    OO (instsR call f fuel l id vals s).2.2 ∧ VT f (instsR call f fuel l id vals s).2.1
  | [], _, _, _, _, _, ht, _, ho => ⟨ho, ht⟩
  | i :: r, id, vals, s, hl, hv, ht, hs, ho => by
    unfold instsR
    split
    · exact ⟨ho, ht⟩
    · rename_i hst
      have hs1 : ROk fuel ⟨s.mem, s.out, s.steps + 1⟩ := ⟨hs.mem, hs.byt, hs.out, by have := hs.steps; show s.steps + 1 ≤ fuel; omega⟩
      obtain ⟨h1, h2, h3, h4, h5, h6⟩ := doI_ok hco f (hl.ok i (by simp)) hv hs1
      obtain ⟨k1, k2⟩ := doI_fit hc f (hl.ok i (by simp)) (hl.ty i (by simp)) (hl.ca i (by simp)) hv ht hs1 ho
      split
      · rename_i h0
        refine instsR_fit hco hc f r (id + 1) _ _ ⟨fun j hj => hl.ok j (by simp [hj]), fun j hj => hl.ty j (by simp [hj]), fun j hj => hl.ca j (by simp [hj]), fun q hq => ?_⟩ (hv.set id _ ⟨h3, h4⟩) (ht.set id _ ?_) h1 k1
        · have := hl.wd (q + 1) (by simpa using hq)
          rw [show id + 1 + q = id + (q + 1) by omega]
          simpa using this
        · have := hl.wd 0 (by simp)
          simp only [Nat.add_zero, List.getElem_cons_zero] at this
          rw [this]
          exact k2 h0
      · exact ⟨k1, ht⟩
structure FT (m : XMod) (f : XFunc) : Prop where
  ok : funcOk f m.funcs.length = true
  phi : phisOk f = true
  ty : typesOk f = true
  ca : callsOk m f = true
theorem ft_of {m : XMod} (h : modOk m = true) : ∀ f ∈ m.funcs, FT m f := fun f hf => by
  obtain ⟨hs, hc⟩ := modOk_parts h
  obtain ⟨-, h2, h3, h4, -⟩ := checkF_parts (hc f hf)
  exact ⟨(shape_parts hs).2 f hf, h2, h3, h4⟩
theorem blkAt_lt (f : XFunc) (k : Nat) (hk : k < f.blocks.length) : blkAt f k = f.blocks[k] := blkAt_nat f k hk
theorem type_phi (f : XFunc) (k : Nat) (hk : k < f.blocks.length) (j : Nat) (hj : j < f.blocks[k].phis.length) : typeOf f (firstOf f k + j) = f.blocks[k].phis[j].w := by
  have hp := placeOf_at f k hk (firstOf f k + j) (by unfold firstOf; simp; omega) (by unfold firstOf sizeB; simp; omega)
  unfold typeOf
  rw [hp]
  have e : firstOf f k + (j : Int) - countIn f.params.length (f.blocks.take k) = j := by unfold firstOf; simp; omega
  rw [e]
  simp only
  rw [if_neg (by simp <;> omega), if_neg (by simp <;> omega), blkAt_lt f k hk, if_pos (by omega)]
  simp [hj]
theorem type_ins (f : XFunc) (k : Nat) (hk : k < f.blocks.length) (j : Nat) (hj : j < f.blocks[k].insts.length) : typeOf f (firstOf f k + f.blocks[k].phis.length + j) = widthOf f.blocks[k].insts[j] := by
  have hp := placeOf_at f k hk (firstOf f k + f.blocks[k].phis.length + j) (by unfold firstOf; simp; omega) (by unfold firstOf sizeB; simp; omega)
  have hi := instAt_inst f k hk j hj
  unfold typeOf
  rw [hp]
  have e : firstOf f k + (f.blocks[k].phis.length : Int) + (j : Int) - countIn f.params.length (f.blocks.take k) = f.blocks[k].phis.length + j := by unfold firstOf; simp; omega
  rw [e]
  simp only
  rw [if_neg (by simp <;> omega), if_neg (by simp <;> omega), blkAt_lt f k hk, if_neg (by omega)]
  rw [show firstOf f k = countIn f.params.length (f.blocks.take k) by unfold firstOf; simp, hi]
theorem idx_lt {α : Type} (p : α → Bool) (xs : List α) (h : 0 < xs.length) : (idx p xs).toNat < xs.length := by
  have : ∀ l : List α, idx p l < l.length ∨ idx p l < 0 := by
    intro l
    induction l with
    | nil => right; simp [idx]
    | cons x r ih =>
      unfold idx
      split
      · left; simp <;> omega
      split
      · right; omega
      · left
        simp <;> omega
  rcases this xs with h1 | h1 <;> omega
theorem blk_parts {m : XMod} {f : XFunc} (h : FT m f) (k : Nat) (hk : k < f.blocks.length) : (∀ p ∈ f.blocks[k].phis, phiOk (countOf f) p = true) ∧ (∀ i ∈ f.blocks[k].insts, instOk (countOf f) m.funcs.length i = true) ∧ termOk (countOf f) f.blocks.length f.blocks[k].term = true ∧ typesB f f.blocks[k] = true := by
  have h1 := h.ok
  unfold funcOk at h1
  simp only [Bool.and_eq_true, List.all_eq_true] at h1
  have h2 := h1.2 _ (List.getElem_mem hk)
  unfold blockOk at h2
  simp only [Bool.and_eq_true, List.all_eq_true] at h2
  have h3 := h.ty
  unfold typesOk at h3
  rw [List.all_eq_true] at h3
  exact ⟨h2.1.1, h2.1.2, h2.2, h3 _ (List.getElem_mem hk)⟩
theorem first_nn (f : XFunc) (b : Int) : 0 ≤ firstOf f b := by
  unfold firstOf
  have := countIn_le f.params.length (f.blocks.take b.toNat)
  omega
theorem it_of {m : XMod} {f : XFunc} (h : FT m f) (k : Nat) (hk : k < f.blocks.length) : IT m f (firstOf f k + (blkAt f k).phis.length).toNat (blkAt f k).insts := by
  rw [blkAt_lt f k hk]
  obtain ⟨-, h2, -, h4⟩ := blk_parts h k hk
  unfold typesB at h4
  simp only [Bool.and_eq_true, List.all_eq_true] at h4
  have h5 := h.ca
  unfold callsOk at h5
  simp only [List.all_eq_true] at h5
  refine ⟨h2, h4.1.2, fun i hi h26 => ?_, fun q hq => ?_⟩
  · have := h5 _ (List.getElem_mem hk) i hi
    rw [h26] at this
    simpa using this
  · have h0 := first_nn f k
    rw [← type_ins f k hk q hq]
    congr 1
    push_cast
    rw [Int.toNat_of_nonneg (by omega)]
theorem enter_vt {m : XMod} {f : XFunc} (h : FT m f) {vals : List Int} (ht : VT f vals) (b to : Nat) (hb : b < f.blocks.length) (hto : to < f.blocks.length) (hl : (to : Int) ∈ leadsTo f.blocks[b].term) : VT f (enterV f to b vals) := by
  unfold enterV
  refine ht.put _ _ fun j hj => ?_
  have hj' : j < f.blocks[to].phis.length := by
    unfold nextP at hj
    rw [blkAt_lt f to hto] at hj
    simpa using hj
  have h0 := first_nn f to
  have e : (((firstOf f to).toNat + j : Nat) : Int) = firstOf f to + j := by push_cast; rw [Int.toNat_of_nonneg h0]
  rw [e, type_phi f to hto j hj']
  have hn : (nextP f to b vals)[j] = vl vals (f.blocks[to].phis[j].ins.getD (idx (fun y => (b : Int) == y) (predsOf f to)).toNat 0) := by
    unfold nextP
    simp [blkAt_lt f to hto]
  rw [hn]
  have hp := pred_of f b hb to hl
  have hlen := phisOk_at h.phi to hto _ (List.getElem_mem hj')
  have hix := idx_lt (fun y => (b : Int) == y) (predsOf f to) (by cases hq : predsOf f to with
    | nil => rw [hq] at hp; cases hp
    | cons x r => simp)
  have hix' : (idx (fun y => (b : Int) == y) (predsOf f to)).toNat < f.blocks[to].phis[j].ins.length := by omega
  have hg : f.blocks[to].phis[j].ins.getD (idx (fun y => (b : Int) == y) (predsOf f to)).toNat 0 = f.blocks[to].phis[j].ins[(idx (fun y => (b : Int) == y) (predsOf f to)).toNat] := by
    rw [List.getD_eq_getElem?_getD, List.getElem?_eq_getElem hix']; rfl
  rw [hg]
  obtain ⟨q1, -, -, q4⟩ := blk_parts h to hto
  unfold typesB at q4
  simp only [Bool.and_eq_true, List.all_eq_true, beq_iff_eq] at q4
  have hw := q4.1.1 _ (List.getElem_mem hj') _ (List.getElem_mem hix')
  rw [← hw]
  have q5 := q1 _ (List.getElem_mem hj')
  unfold phiOk isIdB inR at q5
  simp only [Bool.and_eq_true, List.all_eq_true, decide_eq_true_eq] at q5
  exact ht.vl (q5.2 _ (List.getElem_mem hix')).1
theorem blocksR_fit {m : XMod} {fuel n : Nat} {call : Callee} (hco : CallOk fuel call) (hc : CallF m fuel call) {f : XFunc} (h : FT m f) : ∀ (k : Nat) (b : Nat) (vals : List Int) (s : RS), b < f.blocks.length → VOk n vals → VT f vals → ROk fuel s → OO s →
    OO (blocksR call f fuel k b vals s).2 ∧ Fit f.ret (blocksR call f fuel k b vals s).1.1 ∧ ((blocksR call f fuel k b vals s).1.2 ≠ 0 → (blocksR call f fuel k b vals s).1.1 = 0)
  | 0, _, _, _, _, _, _, _, ho => ⟨ho, fit0 _, fun _ => rfl⟩
  | k + 1, b, vals, s, hb, hv, ht, hs, ho => by
    have hit := it_of h b hb
    obtain ⟨h1, h2, h3, h4, h5⟩ := instsR_ok hco f _ hit.ok (firstOf f b + (blkAt f b).phis.length).toNat vals s hv hs
    obtain ⟨k1, k2⟩ := instsR_fit hco hc f _ _ vals s hit hv ht hs ho
    obtain ⟨-, -, q3, q4⟩ := blk_parts h b hb
    unfold typesB typedT at q4
    simp only [Bool.and_eq_true] at q4
    have q5 := q4.2
    clear q4
    unfold blocksR
    simp only
    generalize instsR call f fuel (blkAt f b).insts (firstOf f b + (blkAt f b).phis.length).toNat vals s = R at *
    rw [blkAt_lt f b hb]
    generalize htt : f.blocks[b].term = t at *
    split
    · split
      · exact ⟨k1, fit0 _, fun _ => rfl⟩
      · rename_i hst
        have hs1 : ROk fuel ⟨R.2.2.mem, R.2.2.out, R.2.2.steps + 1⟩ := ⟨h1.mem, h1.byt, h1.out, by have := h1.steps; show _ + 1 ≤ fuel; omega⟩
        have tp := term_parts q3
        split
        · exact ⟨k1, fit0 _, fun _ => rfl⟩
        split
        · rename_i hk4 hk1
          refine ⟨k1, ?_, fun e => absurd rfl e⟩
          rw [hk1] at q5
          simp at q5
          rw [← q5]
          exact k2.vl (by omega)
        · rename_i hk4 hk1
          have hk : t.kind = 2 ∨ t.kind = 3 := by omega
          have hgl := goTo_leads R.2.1 hk
          have hrng : 0 ≤ goTo t R.2.1 ∧ goTo t R.2.1 < f.blocks.length := by
            unfold goTo
            split <;> omega
          obtain ⟨to, hto⟩ : ∃ to : Nat, goTo t R.2.1 = to := ⟨(goTo t R.2.1).toNat, by omega⟩
          rw [hto] at hgl hrng ⊢
          exact blocksR_fit hco hc h k to (enterV f to b R.2.1) ⟨R.2.2.mem, R.2.2.out, R.2.2.steps + 1⟩ (by omega) (enterV_ok h3) (enter_vt h k2 b to hb (by omega) (by rw [htt]; exact hgl)) hs1 k1
    · exact ⟨k1, fit0 _, fun _ => rfl⟩
theorem type_par (f : XFunc) (j : Nat) (hj : j < f.params.length) : typeOf f j = f.params.getD j 0 := by
  have hc := countIn_le f.params.length f.blocks
  have hp : placeOf f j = (-1, (j : Int)) := by
    unfold placeOf
    rw [if_pos (by unfold isIdB inR countOf; simp; omega), if_pos (by omega)]
  unfold typeOf
  rw [hp]
  simp
theorem vals0_vt (f : XFunc) (args : List Int) (hl : args.length = f.params.length) (h : ∀ j (hj : j < args.length), Fit (f.params.getD j 0) args[j]) : VT f (vals0 f args) := by
  unfold vals0
  refine VT.put args 0 (fun id => ?_) fun j hj => ?_
  · rw [List.getD_eq_getElem?_getD, List.getElem?_replicate]
    split <;> exact fit0 _
  · rw [Nat.zero_add, type_par f j (by omega)]
    exact h j hj
theorem callR_fit {m : XMod} (h : modOk m = true) (fuel : Nat) : ∀ d, CallF m fuel (callR m fuel d)
  | 0 => fun _ _ _ _ _ _ ho _ _ _ => ⟨ho, fit0 _, fun _ => rfl⟩
  | d + 1 => fun k args s hk0 hk1 hs ho ha hl hf => by
    have hkl : k.toNat < m.funcs.length := by omega
    have hco := callR_ok (modOk_parts h).1 fuel d
    have hc := callR_fit h fuel d
    have hft : FT m (m.funcs.getD k.toNat func0) := by
      rw [List.getD_eq_getElem?_getD, List.getElem?_eq_getElem hkl]
      exact ft_of h _ (List.getElem_mem _)
    unfold callR
    generalize m.funcs.getD k.toNat func0 = g at *
    have hb : 0 < g.blocks.length := by
      have h1 := hft.ok
      unfold funcOk at h1
      simp only [Bool.and_eq_true] at h1
      have := h1.1.1.1.2
      simp [inR] at this
      omega
    exact blocksR_fit hco hc hft _ 0 _ s hb (vals0_ok g args ha) (vals0_vt g args hl hf) hs ho
theorem bytes_len32 (l : List Int) : (toBytes l).size = l.length := by
  unfold toBytes
  simp [ByteArray.size]
theorem argsOk_at {ws xs : List Int} (h : argsOk ws xs = true) : xs.length = ws.length ∧ ∀ j (hj : j < xs.length), isVal (ws.getD j 0) xs[j] = true := by
  unfold argsOk at h
  simp only [Bool.and_eq_true, List.all_eq_true, beq_iff_eq] at h
  refine ⟨h.1.symm, fun j hj => ?_⟩
  have hjw : j < ws.length := by omega
  have := h.2 (ws[j], xs[j]) (List.mem_iff_getElem.2 ⟨j, by simp; omega, by simp⟩)
  rw [List.getD_eq_getElem?_getD, List.getElem?_eq_getElem hjw]
  exact this
theorem resR_said (m : XMod) (k : Int) (args : List Int) (mem : ByteArray) (fuel : Int) (h6 : (resR m k args mem fuel).code ≠ 6) :
    (0 ≤ k ∧ k < m.funcs.length) ∧ (∀ x ∈ (resR m k args mem fuel).out, 0 ≤ x ∧ x ≤ 4294967295) ∧ (0 ≤ (resR m k args mem fuel).code ∧ (resR m k args mem fuel).code ≤ 7) ∧ (resR m k args mem fuel).steps ≤ fuel ∧ (resR m k args mem fuel).mem.size = 32 ∧
      mskd (m.funcs.getD k.toNat func0).ret (resR m k args mem fuel).value = (resR m k args mem fuel).value ∧ ((resR m k args mem fuel).code = 0 ∨ (resR m k args mem fuel).value = 0) ∧ (resR m k args mem fuel).out.length ≤ 30 := by
  unfold resR at h6 ⊢
  split at h6
  · rename_i hm
    rw [if_pos hm]
    unfold resI at h6 ⊢
    split at h6
    · rename_i hi
      rw [if_pos hi]
      unfold invOk at hi
      simp only [Bool.and_eq_true, beq_iff_eq] at hi
      obtain ⟨⟨⟨i1, i2⟩, i3⟩, i4⟩ := hi
      unfold inR at i1 i4
      simp only [Bool.and_eq_true, decide_eq_true_eq] at i1 i4
      obtain ⟨a1, a2⟩ := argsOk_at i2
      have hs := rs0_ok mem i3 fuel.toNat
      have ha : ∀ x ∈ args, 0 ≤ x ∧ x ≤ 4294967295 := fun x hx => by
        obtain ⟨j, hj, rfl⟩ := List.mem_iff_getElem.1 hx
        have := val_rng (a2 j hj)
        exact ⟨this.1, this.2.1⟩
      obtain ⟨h1, h2, h3, h4, h5, h7⟩ := callR_ok (modOk_parts hm).1 fuel.toNat 6 k args _ hs ha
      obtain ⟨k1, k2, k3⟩ := callR_fit hm fuel.toNat 6 k args _ i1.1 (by omega) hs (fun x hx => by cases hx) ha a1 fun j hj => fit_val (a2 j hj)
      generalize callR m fuel.toNat 6 k args (rs0 mem) = R at *
      unfold runRes
      refine ⟨⟨i1.1, by omega⟩, k1, ⟨h5, h7⟩, by have := h1.steps; show (R.2.steps : Int) ≤ fuel; omega, (bytes_len32 _).trans h1.mem, k2, ?_, h1.out⟩
      by_cases hz : R.1.2 = 0
      · exact .inl hz
      · exact .inr (k3 hz)
    · exact absurd rfl h6
  · exact absurd rfl h6
end Go.Proofs.YtkcgejbnhpccdaaGreat
