/- Contracts of the laws' functions that mark rows of structs. No conditions. Contracts of areArgs and l7Args. Condition: the widths and the numbers can be read. -/
import Derived.Test.YtkcgejbnhpccdaaGreatJ05
import Derived.Orders
import Derived.Test.YtkcgejbnhpccdaaGreatJ07
import Derived.Deep.RegionWith
import Derived.Test.YtkcgejbnhpccdaaGreatJ01
import Derived.Test.YtkcgejbnhpccdaaGreatJ04
set_option linter.unusedSimpArgs false
set_option linter.unusedVariables false
namespace Go.Proofs.YtkcgejbnhpccdaaGreat
open Go.RowKit
/-! ### a region that draws its order, walked once: its operations read what stays, and its calls give what is known ahead -/
section
variable {P : Program} {ops : Array Oper} {S : World → Prop}
/-- Operation o gives v in every world of which S holds, and S stays. -/
def StepS (P : Program) (S : World → Prop) (o : Oper) (v : Value) (ρ : Operand → Value) : Prop :=
  (∀ w, S w → (execOp ρ o).run P w = .ok (.value v) w) ∨
  ∃ f args, (∀ w, S w → (execOp ρ o).run P w = .ok (.enter f args) w) ∧ ∀ w, S w → Calls P f args w fun e w' => e = .returned v ∧ S w'
def CondS (P : Program) (ops : Array Oper) (S : World → Prop) (o : Oper) (v : Value) (a : Act) : Prop :=
  (Region.wanted o (yielded ops a.tmps) = true ∧ StepS P S o v a.eval) ∨ (Region.wanted o (yielded ops a.tmps) = false ∧ v = undef)
def SeqS (P : Program) (ops : Array Oper) (S : World → Prop) (K : Act → Prop) : List Oper → Act → Prop
  | [], a => K a
  | o :: r, a => ∃ v, CondS P ops S o v a ∧ SeqS P ops S K r (a.put o.dst v)
def noSel (o : Oper) : Bool := match o.op with | .select .. => false | _ => true
theorem noSel_ne {o : Oper} (h : noSel o = true) : ∀ cs b, o.op ≠ .select cs b := fun cs b e => by unfold noSel at h; rw [e] at h; cases h
theorem eval_same {a a' : Act} {x : Operand} (h : ∀ t, x = .tmp t → a'.tmps[t]? = a.tmps[t]?) : a'.eval x = a.eval x := by
  cases x with
  | tmp t => simp only [Act.eval, Array.getD_eq_getD_getElem?]; rw [h t rfl]
  | _ => rfl
theorem CondS.congr {o : Oper} {v : Value} {a a' : Act} (hn : noSel o = true) (h : ∀ t ∈ o.looksAt ops, a'.tmps[t]? = a.tmps[t]?) (hc : CondS P ops S o v a) : CondS P ops S o v a' := by
  have he : execOp a'.eval o = execOp a.eval o := execOp_congr o (noSel_ne hn) fun x hx => eval_same fun t ht => h t (by
    subst ht
    exact List.mem_append_left _ (List.mem_filterMap.2 ⟨.tmp t, by simpa using hx, rfl⟩))
  have hw : Region.wanted o (yielded ops a'.tmps) = Region.wanted o (yielded ops a.tmps) := by
    unfold Region.wanted
    cases hg : o.guard with
    | none => rfl
    | some gw =>
      obtain ⟨g, want⟩ := gw
      have hy : yielded ops a'.tmps g = yielded ops a.tmps g := by
        unfold yielded
        cases ht : (ops[g]?).bind (·.dst) with
        | none => rfl
        | some t =>
          have := h t (by simp [Oper.looksAt, hg, ht])
          simp only [Option.bind_some, this]
      simp only [hy]
  unfold CondS StepS at *
  rw [he, hw]
  exact hc
theorem CondS.wpOp {i : Nat} {o : Oper} {v : Value} {a : Act} {w : World} {Q : Exit → Act → World → Prop} {K : Act → World → Prop} (hi : ops[i]? = some o) (hc : CondS P ops S o v a) (hS : S w) (h : ∀ w', S w' → K (a.put o.dst v) w') : wpOp P ops Q i K a w := by
  unfold Go.wpOp
  simp only [hi]
  rcases hc with ⟨hw, hs⟩ | ⟨hw, rfl⟩
  · simp only [hw, if_true]
    left
    unfold Oper.wp
    rcases hs with hv | ⟨f, args, hr, hcc⟩
    · rw [hv w hS]; exact h w hS
    · rw [hr w hS, Oper.upon_enter]
      refine (hcc w hS).mono ?_
      rintro e w' ⟨rfl, hS'⟩
      exact h w' hS'
  · simp only [hw, Bool.false_eq_true, if_false]; exact h w hS
/-- Of two operations the one that reads what the other writes has its place. -/
def pairOk (md : Region.Mode) (ops : Array Oper) (i : Nat) (o : Oper) (j : Nat) (p : Oper) : Bool :=
  i == j || (match p.dst with
    | none => true
    | some t => o.dst != some t && (!(o.looksAt ops).contains t || (if j < i then o.after.any (fun e => Region.binds md e && e.on == j) else p.after.any (fun e => Region.binds md e && e.on == i))))
def ordOk (md : Region.Mode) (ops : Array Oper) : Bool :=
  (List.range ops.size).all fun i => match ops[i]? with
    | none => true
    | some o => noSel o && o.after.all (fun e => !Region.binds md e || decide (e.on < i)) && (List.range ops.size).all fun j => match ops[j]? with
      | none => true
      | some p => pairOk md ops i o j p
theorem ordOk_at {md : Region.Mode} (h : ordOk md ops = true) {i : Nat} {o : Oper} (hi : ops[i]? = some o) : noSel o = true ∧ (∀ e ∈ o.after, Region.binds md e = true → e.on < i) ∧ ∀ j p, ops[j]? = some p → pairOk md ops i o j p = true := by
  unfold ordOk at h
  rw [List.all_eq_true] at h
  have hlt := (Array.getElem?_eq_some_iff.1 hi).1
  have h1 := h i (by simpa using hlt)
  simp only [hi, Bool.and_eq_true] at h1
  obtain ⟨⟨h2, h3⟩, h4⟩ := h1
  refine ⟨h2, fun e he hb => ?_, fun j p hj => ?_⟩
  · rw [Array.all_eq_true_iff_forall_mem] at h3
    have := h3 e he
    simpa [hb] using this
  · rw [List.all_eq_true] at h4
    have := h4 j (by simpa using (Array.getElem?_eq_some_iff.1 hj).1)
    simpa only [hj] using this
theorem pair_spec {md : Region.Mode} {i j : Nat} {o p : Oper} {t : Tmp} (h : pairOk md ops i o j p = true) (hne : i ≠ j) (hd : p.dst = some t) : o.dst ≠ some t ∧ (t ∈ o.looksAt ops → (j < i → ∃ e ∈ o.after, Region.binds md e = true ∧ e.on = j) ∧ (¬ j < i → ∃ e ∈ p.after, Region.binds md e = true ∧ e.on = i)) := by
  unfold pairOk at h
  rw [hd] at h
  simp only [Bool.or_eq_true, beq_iff_eq, hne, false_or, Bool.and_eq_true, bne_iff_ne, ne_eq, Bool.not_eq_true'] at h
  obtain ⟨h1, h2⟩ := h
  refine ⟨h1, fun ht => ?_⟩
  rcases h2 with h2 | h2
  · have : (o.looksAt ops).contains t = true := by simpa using ht
    rw [h2] at this; cases this
  · constructor
    · intro hj
      rw [if_pos hj, Array.any_eq_true'] at h2
      obtain ⟨e, he, hb⟩ := h2
      simp only [Bool.and_eq_true, beq_iff_eq] at hb
      exact ⟨e, he, hb.1, hb.2⟩
    · intro hj
      rw [if_neg hj, Array.any_eq_true'] at h2
      obtain ⟨e, he, hb⟩ := h2
      simp only [Bool.and_eq_true, beq_iff_eq] at hb
      exact ⟨e, he, hb.1, hb.2⟩
/-! ### the frames of the text's own order -/
structure Canon (P : Program) (ops : Array Oper) (S : World → Prop) (A : Nat → Act) : Prop where
  step : ∀ i o, ops[i]? = some o → ∃ v, CondS P ops S o v (A i) ∧ A (i + 1) = (A i).put o.dst v
theorem put_size (a : Act) (d : Option Tmp) (v : Value) : (a.put d v).tmps.size = a.tmps.size := by
  unfold Act.put; split <;> simp
theorem put_def (a : Act) (d : Option Tmp) (v : Value) : (a.put d v).defers = a.defers := by
  unfold Act.put; split <;> rfl
theorem put_ne (a : Act) (d : Option Tmp) (v : Value) (t : Tmp) (h : d ≠ some t) : (a.put d v).tmps[t]? = a.tmps[t]? := by
  unfold Act.put
  split
  · rename_i d' 
    rw [Array.getElem?_setIfInBounds_ne (fun e => h (by rw [e]))]
  · rfl
theorem put_eq (a : Act) (v : Value) (t : Tmp) : (a.put (some t) v).tmps[t]? = if t < a.tmps.size then some v else none := by
  unfold Act.put
  simp only [Array.getElem?_setIfInBounds, if_true]
variable {A : Nat → Act}
theorem Canon.size (h : Canon P ops S A) : ∀ i, i ≤ ops.size → (A i).tmps.size = (A 0).tmps.size ∧ (A i).defers = (A 0).defers
  | 0, _ => ⟨rfl, rfl⟩
  | i + 1, hi => by
    obtain ⟨v, -, e⟩ := h.step i ops[i] (Array.getElem?_eq_getElem (by omega))
    rw [e, put_size, put_def]
    exact h.size i (by omega)
theorem Canon.keep (h : Canon P ops S A) (t : Tmp) (i : Nat) : ∀ k, i + k ≤ ops.size → (∀ j o, i ≤ j → j < i + k → ops[j]? = some o → o.dst ≠ some t) → (A (i + k)).tmps[t]? = (A i).tmps[t]?
  | 0, _, _ => rfl
  | k + 1, hk, hn => by
    obtain ⟨v, -, e⟩ := h.step (i + k) ops[i + k] (Array.getElem?_eq_getElem (by omega))
    rw [show i + (k + 1) = i + k + 1 by omega, e, put_ne _ _ _ _ (hn (i + k) _ (by omega) (by omega) (Array.getElem?_eq_getElem (by omega)))]
    exact h.keep t i k (by omega) fun j o h1 h2 => hn j o h1 (by omega)
theorem Canon.late (h : Canon P ops S A) {md : Region.Mode} (hk : ordOk md ops = true) (t : Tmp) (j : Nat) (p : Oper) (hj : ops[j]? = some p) (hd : p.dst = some t) (i : Nat) (hji : j < i) (hi : i ≤ ops.size) : (A i).tmps[t]? = (A (j + 1)).tmps[t]? := by
  have := h.keep t (j + 1) (i - (j + 1)) (by omega) fun k o h1 h2 ho hdo => by
    have hp := (ordOk_at hk ho).2.2 j p hj
    exact (pair_spec hp (by omega) hd).1 hdo
  rwa [show j + 1 + (i - (j + 1)) = i by omega] at this
structure Agr (md : Region.Mode) (ops : Array Oper) (A : Nat → Act) (listed : Array Bool) (a : Act) : Prop where
  lsz : listed.size = ops.size
  down : ∀ i o, ops[i]? = some o → listed.getD i false = true → ∀ e ∈ o.after, Region.binds md e = true → listed.getD e.on false = true
  dfs : a.defers = (A 0).defers
  tsz : a.tmps.size = (A 0).tmps.size
  has : ∀ i o t, ops[i]? = some o → o.dst = some t → listed.getD i false = true → a.tmps[t]? = (A (i + 1)).tmps[t]?
  old : ∀ t, (∀ i o, ops[i]? = some o → o.dst = some t → listed.getD i false = false) → a.tmps[t]? = (A 0).tmps[t]?
theorem Agr.looks {md : Region.Mode} {listed : Array Bool} {a : Act} (hk : ordOk md ops = true) (h : Canon P ops S A) (hg : Agr md ops A listed a) {i : Nat} {o : Oper} (hi : ops[i]? = some o) (hr : ∀ e ∈ o.after, Region.binds md e = true → listed.getD e.on false = true) (hl : listed.getD i false = false) (t : Tmp) (ht : t ∈ o.looksAt ops) : a.tmps[t]? = (A i).tmps[t]? := by
  have hlt := (Array.getElem?_eq_some_iff.1 hi).1
  by_cases hw : ∃ j p, j < i ∧ ops[j]? = some p ∧ p.dst = some t
  · obtain ⟨j, p, hji, hj, hd⟩ := hw
    obtain ⟨e, he, hb, hon⟩ := ((pair_spec ((ordOk_at hk hi).2.2 j p hj) (by omega) hd).2 ht).1 hji
    have hlj := hr e he hb
    rw [hon] at hlj
    rw [hg.has j p t hj hd hlj, h.late hk t j p hj hd i hji (by omega)]
  · have h0 : (A i).tmps[t]? = (A 0).tmps[t]? := by
      have := h.keep t 0 i (by omega) fun j p _ h2 hj hd => hw ⟨j, p, by omega, hj, hd⟩
      rwa [Nat.zero_add] at this
    rw [h0]
    refine hg.old t fun k p hp hd => ?_
    by_cases hki : k = i
    · rw [hki]; exact hl
    · have hnk : ¬ k < i := fun hlt' => hw ⟨k, p, hlt', hp, hd⟩
      obtain ⟨e, he, hb, hon⟩ := ((pair_spec ((ordOk_at hk hi).2.2 k p hp) (fun e => hki e.symm) hd).2 ht).2 hnk
      cases hlk : listed.getD k false with
      | false => rfl
      | true =>
        have := hg.down k p hp hlk e he hb
        rw [hon, hl] at this; cases this
theorem getD_set (l : Array Bool) (i j : Nat) (hi : i < l.size) : (l.setIfInBounds i true).getD j false = if i = j then true else l.getD j false := by
  simp only [Array.getD_eq_getD_getElem?, Array.getElem?_setIfInBounds, hi, if_true]
  split
  · rename_i e; subst e; first | rfl | (rw [if_pos hi]; rfl)
  · rfl
theorem any_of_canon {md : Region.Mode} {Q : Exit → Act → World → Prop} (hk : ordOk md ops = true) (h : Canon P ops S A) (hQ : ∀ w, S w → Q .normal (A ops.size) w) :
    ∀ fuel (listed : Array Bool) (a : Act) (w : World), Agr md ops A listed a → falses listed.toList ≤ fuel → S w → wpAny P md ops Q fuel listed a w := by
  have hend : ∀ (listed : Array Bool) (a : Act) (w : World), Agr md ops A listed a → S w → Region.ready md ops listed = [] → Q .normal a w := by
    intro listed a w hg hS hr
    have hall : ∀ k, ∀ i, i < k → i < ops.size → listed.getD i false = true := by
      intro k
      induction k with
      | zero => intro i hi; omega
      | succ k ih =>
        intro i hi hs
        by_cases hlt : i < k
        · exact ih i hlt hs
        · cases hl : listed.getD i false with
          | true => rfl
          | false =>
            exfalso
            have hio : ops[i]? = some ops[i] := Array.getElem?_eq_getElem hs
            have hmem : i ∈ Region.ready md ops listed := by
              unfold Region.ready
              rw [List.mem_filter]
              refine ⟨by simpa using hs, ?_⟩
              have h1 : listed.getD i true = false := by
                rw [Array.getD_eq_getD_getElem?] at hl ⊢
                rw [Array.getElem?_eq_getElem (by rw [hg.lsz]; exact hs)] at hl ⊢
                exact hl
              rw [h1, hio]
              simp only [Bool.not_false, Bool.true_and, Option.map_some, Option.getD_some]
              rw [Array.all_eq_true_iff_forall_mem]
              intro e he
              cases hb : Region.binds md e with
              | false => rfl
              | true =>
                have := (ordOk_at hk hio).2.1 e he hb
                rw [ih e.on (by omega) (by omega)]; rfl
            rw [hr] at hmem; cases hmem
    have e : a = A ops.size := by
      have hsz := h.size ops.size (Nat.le_refl _)
      have h1 : a.tmps = (A ops.size).tmps := by
        refine Array.ext_getElem? fun t => ?_
        by_cases hw : ∃ (i : Nat) (o : Oper), ops[i]? = some o ∧ o.dst = some t
        · obtain ⟨i, o, hi, hd⟩ := hw
          have hlt := (Array.getElem?_eq_some_iff.1 hi).1
          rw [hg.has i o t hi hd (hall (i + 1) i (by omega) hlt), h.late hk t i o hi hd ops.size hlt (Nat.le_refl _)]
        · have := h.keep t 0 ops.size (by omega) fun j p _ _ hj hd => hw ⟨j, p, hj, hd⟩
          rw [Nat.zero_add] at this
          rw [this]
          exact hg.old t fun i o hi hd => absurd ⟨i, o, hi, hd⟩ hw
      have h2 : a.defers = (A ops.size).defers := hg.dfs.trans hsz.2.symm
      cases a
      cases hA : A ops.size
      rw [hA] at h1 h2
      simp only at h1 h2
      rw [h1, h2]
    rw [e]; exact hQ w hS
  intro fuel
  induction fuel with
  | zero =>
    intro listed a w hg hf hS
    have hr : Region.ready md ops listed = [] := by
      unfold Region.ready
      rw [List.filter_eq_nil_iff]
      intro i hi
      have hi' : i < listed.toList.length := by rw [Array.length_toList, hg.lsz]; simpa using hi
      have h1 : listed.getD i true = true := by
        rw [Array.getD_eq_getD_getElem?, Array.getElem?_eq_getElem (by simpa using hi')]
        cases hb : listed[i]'(by simpa using hi') with
        | true => rfl
        | false =>
          have := falses_set listed.toList i hi' (by simpa using hb)
          omega
      rw [h1]; simp
    exact ⟨hr, hend listed a w hg hS hr⟩
  | succ fuel ih =>
    intro listed a w hg hf hS
    refine ⟨hend listed a w hg hS, fun i hi => ?_⟩
    unfold Region.ready at hi
    rw [List.mem_filter] at hi
    obtain ⟨hlt0, hi2⟩ := hi
    have hlt : i < ops.size := by simpa using hlt0
    have hio : ops[i]? = some ops[i] := Array.getElem?_eq_getElem hlt
    rw [hio] at hi2
    simp only [Bool.and_eq_true, Bool.not_eq_true', Option.map_some, Option.getD_some] at hi2
    obtain ⟨hl1, hr1⟩ := hi2
    have hls : i < listed.size := by rw [hg.lsz]; exact hlt
    have hl : listed.getD i false = false := by
      rw [Array.getD_eq_getD_getElem?] at hl1 ⊢
      rw [Array.getElem?_eq_getElem hls] at hl1 ⊢
      exact hl1
    have hr : ∀ e ∈ ops[i].after, Region.binds md e = true → listed.getD e.on false = true := by
      rw [Array.all_eq_true_iff_forall_mem] at hr1
      intro e he hb
      have := hr1 e he
      simpa [hb] using this
    obtain ⟨v, hc, hA⟩ := h.step i _ hio
    have hc' := CondS.congr (ordOk_at hk hio).1 (fun t ht => hg.looks hk h hio hr hl t ht) hc
    refine hc'.wpOp hio hS fun w' hS' => ih _ _ _ ?_ ?_ hS'
    · refine ⟨by rw [Array.size_setIfInBounds]; exact hg.lsz, ?_, by rw [put_def]; exact hg.dfs, by rw [put_size]; exact hg.tsz, ?_, ?_⟩
      · intro j p hj hlj e he hb
        rw [getD_set _ _ _ hls] at hlj ⊢
        by_cases hie : i = e.on
        · rw [if_pos hie]
        · rw [if_neg hie]
          by_cases hij : i = j
          · subst hij
            rw [hio] at hj
            cases hj
            exact hr e he hb
          · rw [if_neg hij] at hlj
            exact hg.down j p hj hlj e he hb
      · intro j p t hj hd hlj
        rw [getD_set _ _ _ hls] at hlj
        by_cases hij : i = j
        · subst hij
          rw [hio] at hj
          cases hj
          rw [hA, hd, put_eq, put_eq, hg.tsz, (h.size i (by omega)).1]
        · rw [if_neg hij] at hlj
          have hne := (pair_spec ((ordOk_at hk hio).2.2 j p hj) hij hd).1
          rw [put_ne _ _ _ _ hne]
          exact hg.has j p t hj hd hlj
      · intro t hn
        have hi3 := hn i _ hio
        have hne : ops[i].dst ≠ some t := fun hd => by
          have := hi3 hd
          rw [getD_set _ _ _ hls, if_pos rfl] at this; cases this
        rw [put_ne _ _ _ _ hne]
        refine hg.old t fun j p hj hd => ?_
        have := hn j p hj hd
        rw [getD_set _ _ _ hls] at this
        by_cases hij : i = j
        · rw [if_pos hij] at this; cases this
        · rwa [if_neg hij] at this
    · have h1 := falses_set listed.toList i (by simpa using hls) (by
        rw [Array.getD_eq_getD_getElem?, Array.getElem?_eq_getElem hls] at hl
        simpa using hl)
      have h2 : (listed.setIfInBounds i true).toList = listed.toList.set i true := by simp
      rw [h2]; omega
theorem seq_canon {K : Act → Prop} : ∀ (l : List Oper) (a : Act), SeqS P ops S K l a → ∃ A : Nat → Act, A 0 = a ∧ (∀ i (h : i < l.length), ∃ v, CondS P ops S l[i] v (A i) ∧ A (i + 1) = (A i).put l[i].dst v) ∧ K (A l.length)
  | [], a, h => ⟨fun _ => a, rfl, fun i h => absurd h (by simp), h⟩
  | o :: r, a, ⟨v, hc, h⟩ => by
    obtain ⟨A, h0, h1, h2⟩ := seq_canon r _ h
    refine ⟨fun i => match i with | 0 => a | j + 1 => A j, rfl, fun i hi => ?_, h2⟩
    cases i with
    | zero => exact ⟨v, hc, h0⟩
    | succ i => exact h1 i (by simpa using hi)
/-- The law: the operations one by one, in the text's order; each gives its value in whatever world S holds of. -/
theorem wp_region_one {id : Nat} {a : Act} {w : World} {Q : Exit → Act → World → Prop} (S : World → Prop) (hm : P.follows .mixedOrders = true) (hk : ordOk .any ops = true) (hS : S w.drew)
    (h : SeqS P ops S (fun a' => ∀ W, S W → Q .normal a' W) ops.toList a) : (Code.region id ops true).wp P Q a w := by
  obtain ⟨A, h0, h1, h2⟩ := seq_canon _ _ h
  refine wp_region_any hm ?_
  have hc : Canon P ops S A := ⟨fun i o hi => by
    obtain ⟨hlt, rfl⟩ := Array.getElem?_eq_some_iff.1 hi
    have := h1 i (by simpa using hlt)
    simpa using this⟩
  rw [Array.length_toList] at h2
  refine any_of_canon hk hc h2 _ _ _ _ ⟨by simp, fun i o hi hl => ?_, by rw [h0], by rw [h0], fun i o t hi hd hl => ?_, fun t _ => by rw [h0]⟩ ?_ hS
  · have : (Array.replicate ops.size false).getD i false = false := by
      rw [Array.getD_eq_getD_getElem?, Array.getElem?_replicate]; split <;> rfl
    rw [this] at hl; cases hl
  · have : (Array.replicate ops.size false).getD i false = false := by
      rw [Array.getD_eq_getD_getElem?, Array.getElem?_replicate]; split <;> rfl
    rw [this] at hl; cases hl
  · rw [Array.toList_replicate, falses_rep]; exact Nat.le_refl _
/-! ### one operation of it -/
theorem seq_val {K : Act → Prop} {o : Oper} {r : List Oper} {a : Act} {v : Value} (hw : Region.wanted o (yielded ops a.tmps) = true) (hv : ∀ w, S w → (execOp a.eval o).run P w = .ok (.value v) w) (h : SeqS P ops S K r (a.put o.dst v)) : SeqS P ops S K (o :: r) a := ⟨v, .inl ⟨hw, .inl hv⟩, h⟩
theorem seq_skip {K : Act → Prop} {o : Oper} {r : List Oper} {a : Act} (hw : Region.wanted o (yielded ops a.tmps) = false) (h : SeqS P ops S K r (a.put o.dst undef)) : SeqS P ops S K (o :: r) a := ⟨undef, .inr ⟨hw, rfl⟩, h⟩
theorem seq_call {K : Act → Prop} {o : Oper} {r : List Oper} {a : Act} {v : Value} (f : FuncId) (args : Array Value) (hw : Region.wanted o (yielded ops a.tmps) = true) (hr : ∀ w, S w → (execOp a.eval o).run P w = .ok (.enter f args) w) (hc : ∀ w, S w → Calls P f args w fun e w' => e = .returned v ∧ S w') (h : SeqS P ops S K r (a.put o.dst v)) : SeqS P ops S K (o :: r) a := ⟨v, .inl ⟨hw, .inr ⟨f, args, hr, hc⟩⟩, h⟩
/-- Where all that was there stays. -/
theorem wp_region_bel {id : Nat} {a : Act} {w : World} {Q : Exit → Act → World → Prop} (hm : P.follows .mixedOrders = true) (hk : ordOk .any ops = true)
    (h : SeqS P ops (Below w.heap.size w) (fun a' => ∀ W, Below w.heap.size w W → Q .normal a' W) ops.toList a) : (Code.region id ops true).wp P Q a w :=
  wp_region_one (Below w.heap.size w) hm hk (Below.drew (Below.refl _ _)) h
theorem seq_ret {w0 : World} {K : Act → Prop} {o : Oper} {r : List Oper} {a : Act} {v : Value} (f : FuncId) (args : Array Value) (hw : Region.wanted o (yielded ops a.tmps) = true) (hr : ∀ w, Below w0.heap.size w0 w → (execOp a.eval o).run P w = .ok (.enter f args) w)
    (hc : ∀ w, Below w0.heap.size w0 w → Calls P f args w fun e w' => e = .returned v ∧ Below w.heap.size w w') (h : SeqS P ops (Below w0.heap.size w0) K r (a.put o.dst v)) : SeqS P ops (Below w0.heap.size w0) K (o :: r) a :=
  seq_call f args hw hr (fun w hS => (hc w hS).mono fun _ _ hh => ⟨hh.1, hS.then hh.2⟩) h
theorem seq_nil {K : Act → Prop} {a : Act} (h : K a) : SeqS P ops S K [] a := h
end
end Go.Proofs.YtkcgejbnhpccdaaGreat
set_option linter.unusedSimpArgs false
set_option linter.unusedVariables false
namespace Go.Proofs.YtkcgejbnhpccdaaGreat
open Go.RowKit
theorem of_drewN {w w' : World} {N : Nat} (h : Below (w.drewN N).heap.size (w.drewN N) w') (_ : Nat) : Below w.heap.size w w' := ⟨h.os, h.tape, h.output, h.size, h.block⟩
theorem c_areTypes1 (f : XFunc) (id pw : Int) (b bp : Nat) (w : World) (hb : FB w b f) (hfo : Fo f) (hp : w.cell? ⟨bp, 0, none⟩ = some (.int .i64 pw)) (hbp : bp < w.heap.size) :
    Calls Tryz.prog 174 #[.int .i64 id, .pointer (some ⟨b, 0, none⟩), .pointer (some ⟨bp, 0, none⟩)] w (Ret (.bool (!(typeOf f id == pw))) w) := by
  obtain ⟨A1, c1, A2, c2, h0, h1, h2, h3, h4⟩ := hb
  have ht := fun N => c_TypeOfB f _ id (w.drewN N) (KM.mv h3 (pw_drewN (Below.refl _ _) N)) hfo
  generalize typeOf f id = t at *
  clear h3
  go_enter Tryz.func174, Tryz.ntmps174
  go_wp2
  go_region_with ((go_at_call 142; refine (ht _).mono ?_; rintro e w1 ⟨rfl, hb1⟩; have hb2 : Below w.heap.size w w1 := ⟨hb1.os, hb1.tape, hb1.output, hb1.size, hb1.block⟩; have q0 := (bat hb2 bp hbp 0).trans hp))
  all_goals
    go_wp2
    go_ret
    exact ⟨by first | rfl | simp [bne], by first | exact hb2 | exact hb2.drew⟩
theorem FB.drewN {W : World} {b : Nat} {f : XFunc} (h : FB W b f) (n : Nat) : FB (W.drewN n) b f := h.mv (pw_drewN (Below.refl _ _) n)
theorem FB.drew {W : World} {b : Nat} {f : XFunc} (h : FB W b f) : FB W.drew b f := h.mv (Below.drew (Below.refl _ _))
theorem pb_areTypes1 (W : World) (f : XFunc) (b bp : Nat) (pw : Int) (hb : FB W b f) (hfo : Fo f) (hp : W.cell? ⟨bp, 0, none⟩ = some (.int .i64 pw)) (hbp : bp < W.heap.size) :
    PB Tryz.prog 174 #[.pointer (some ⟨b, 0, none⟩), .pointer (some ⟨bp, 0, none⟩)] KInt arg1 (fun id => !(typeOf f id == pw)) W := fun W' x cs hW hk => by
  cases hk
  exact c_areTypes1 f x pw b bp W' (hb.mv hW) hfo ((hW.cell (p := ⟨bp, 0, none⟩) hbp).trans hp) (Nat.lt_of_lt_of_le hbp hW.size)
theorem c_areTypes2 (f : XFunc) (i : XInst) (cs : List Value) (b : Nat) (w : World) (hb : FB w b f) (hfo : Fo f) (hk : KInst lm w i cs) : Calls Tryz.prog 175 #[.agg cs.toArray, .pointer (some ⟨b, 0, none⟩)] w (Ret (.bool (!typedI f i)) w) := by
  obtain ⟨A1, c1, A2, c2, h0, h1, h2, h3, h4⟩ := hb
  obtain ⟨v, rfl, hr⟩ := hk
  obtain ⟨A7, c7, rfl, -, -, -⟩ := hr.sm
  have hbl := fun o => (Below.refl w.heap.size w).al (Nat.le_refl _) o
  have ht := fun W hW => c_areTyped f _ i (.slice A7 i.args.length c7) W (KM.mv h3 hW) hfo (hr.mv hW)
  generalize typedI f i = q at *
  obtain ⟨op, wd, a, b', c, imm, args⟩ := i
  simp only [instV] at *
  clear h3 hr
  go_enter Tryz.func175, Tryz.ntmps175
  go_wp2_with fail
  refine (ht _ (hbl _)).mono ?_; rintro e w1 ⟨rfl, hb1⟩
  go_wp2
  go_ret
  exact ⟨rfl, (hbl _).then hb1⟩
theorem pb_areTypes2 (W : World) (f : XFunc) (b : Nat) (hb : FB W b f) (hfo : Fo f) : PB Tryz.prog 175 #[.pointer (some ⟨b, 0, none⟩)] (KInst lm) argN (fun i => !typedI f i) W := fun W' x cs hW hk =>
  c_areTypes2 f x cs b W' (hb.mv hW) hfo hk
set_option maxRecDepth 20000 in
set_option maxHeartbeats 8000000 in
theorem c_areTypes (f : XFunc) (cs : List Value) (w : World) (hf : KFunc lm w f cs) (hfo : Fo f) : Calls Tryz.prog 131 #[.agg cs.toArray] w (Ret (.bool (typesOk f)) w) := by
  have hf' := Hd.mk hf
  obtain ⟨v1, v2, rfl, hp, hb⟩ := hf
  obtain ⟨A1, c1, rfl, -, hl1, -⟩ := hp.sm
  obtain ⟨A2, c2, rfl, hcap, hl2, hb0⟩ := hb.sm
  have hbl := fun o => (Below.refl w.heap.size w).al (Nat.le_refl _) o
  clear hp hb
  have eg1 := enters_of Tryz.func174 (by kernel_rfl) rfl
  have eg2 := enters_of Tryz.func175 (by kernel_rfl) rfl
  have hfb0 : Hd (FB (w.alloc (.cells #[.slice A1 f.params.length c1, .int .i64 f.ret, .slice A2 f.blocks.length c2] 35)) w.heap.size f) := ⟨A1, c1, A2, c2, by simp, by simp, by simp, KM.mv hf'.out (hbl _), by simp⟩
  generalize hR : typesOk f = R
  have hR' := Hd.mk hR
  clear hR
  unfold typesOk at hR'
  have hfo' := Hd.mk hfo
  clear hfo
  go_enter Tryz.func131, Tryz.ntmps131
  go_wp2
  go_loopw [11] (fun s11 wr => ∃ k : Nat, k ≤ f.blocks.length ∧ s11 = .int .i64 k ∧ Hd ((f.blocks.take k).all (typesB f) = true) ∧ Hd (Below w.heap.size w wr) ∧ Hd (FB wr w.heap.size f)) (fun s11 _ => f.blocks.length - (intOf s11).toNat)
  case atStart => exact ⟨0, Nat.zero_le _, rfl, ⟨rfl⟩, ⟨hbl _⟩, hfb0⟩
  case round =>
    obtain ⟨k, hk, rfl, hall, hbr, hfb⟩ := hrel
    clear hfb0
    obtain ⟨wo, rfl⟩ : ∃ wo : World, wo = wr := ⟨_, rfl⟩
    by_cases hlt : k < f.blocks.length
    · obtain ⟨eb, eo, ecs, hA_, heb, ⟨bv1, bv2, rfl, hr_, hr2_⟩, hat_⟩ := (hb0.out).in0 (hbr.out) (k) (hlt)
      cases hA_
      have hew := Nat.lt_of_lt_of_le heb (hbr.out).size
      have g0 := hat_ 0 _ rfl
      have g1 := hat_ 1 _ rfl
      have g2 := hat_ 2 _ rfl
      have g3 := hat_ 3 _ rfl
      have g4 := hat_ 4 _ rfl
      have g5 := hat_ 5 _ rfl
      clear hat_
      simp at g0 g1 g2 g3 g4 g5
      obtain ⟨Ap, cp, rfl, hcp, hlp, hrp⟩ := hr_.sm
      obtain ⟨Ai, ci, rfl, hci, hli, hri⟩ := hr2_.sm
      clear hr_ hr2_
      have hsn := Hd.mk (all_take_snoc (typesB f) f.blocks k hlt)
      have hfl := fun h => Hd.mk (all_false_of (typesB f) f.blocks k hlt h)
      generalize f.blocks[k] = x at *
      have hz := hbr.out.size
      have hal : Hd (∀ o, Below wo.heap.size wo (wo.alloc o)) := ⟨fun o => (Below.refl wo.heap.size wo).al (Nat.le_refl _) o⟩
      obtain ⟨wb, hwb⟩ : ∃ wb : World, wb = wo.alloc (.cells #[.slice Ap x.phis.length cp, .slice Ai x.insts.length ci, .int .i64 x.term.kind, .int .i64 x.term.a, .int .i64 x.term.x, .int .i64 x.term.y] 32) := ⟨_, rfl⟩
      have hbB : Hd (Below wo.heap.size wo wb) := ⟨by rw [hwb]; exact hal.out _⟩
      have hbc : Hd (∀ o, wb.cell? ⟨wo.heap.size, o, none⟩ = [Value.slice Ap x.phis.length cp, .slice Ai x.insts.length ci, .int .i64 x.term.kind, .int .i64 x.term.a, .int .i64 x.term.x, .int .i64 x.term.y][o]?) := ⟨fun o => by rw [hwb]; simp⟩
      have hzb : wb.heap.size = wo.heap.size + 1 := by rw [hwb]; simp
      have hwb' := Hd.mk hwb
      clear hwb
      have y1 := hbc.out 0
      simp at y1
      go_wp2
      rw [← hwb'.out]
      go_loopw [18] (fun s18 wr => ∃ j : Nat, j ≤ x.phis.length ∧ s18 = .int .i64 j ∧ Hd ((x.phis.take j).all (fun p => p.ins.all fun id => typeOf f id == p.w) = true) ∧ Hd (Below wb.heap.size wb wr)) (fun s18 _ => x.phis.length - (intOf s18).toNat)
      case atStart => exact ⟨0, Nat.zero_le _, rfl, ⟨rfl⟩, ⟨Below.refl _ _⟩⟩
      case round =>
        obtain ⟨j, hj, rfl, hallj, hbj⟩ := hrel
        have hBo : Hd (Below wo.heap.size wo wr) := ⟨hbB.out.then hbj.out⟩
        have hBw := Hd.mk (hbr.out.then hBo.out)
        have hfbj := Hd.mk (hfb.out.mv hBo.out)
        have zj := hbj.out.size
        have zj2 : wo.heap.size < wr.heap.size := by omega
        by_cases hltj : j < x.phis.length
        · obtain ⟨eb, eo, ecs, hA_, heb, ⟨pv1, rfl, hr_⟩, hat_⟩ := (hrp.out).in0 (hBw.out) (j) (hltj)
          cases hA_
          have hew := Nat.lt_of_lt_of_le heb (hBw.out).size
          have g0 := hat_ 0 _ rfl
          have g1 := hat_ 1 _ rfl
          clear hat_
          simp at g0 g1
          obtain ⟨Ax, cx, rfl, hcx, hlx, hrx⟩ := hr_.sm
          clear hr_
          have hsnj := Hd.mk (all_take_snoc (fun p => p.ins.all fun id => typeOf f id == p.w) x.phis j hltj)
          have hflj := fun h => Hd.mk (all_false_of (fun p => p.ins.all fun id => typeOf f id == p.w) x.phis j hltj h)
          generalize x.phis[j] = p at *
          have hcon := fun W (hW : Below wr.heap.size wr W) (hc : W.cell? ⟨wr.heap.size, 0, none⟩ = some (.int .i64 p.w)) (hlt : wr.heap.size < W.heap.size) => c_ConI (.slice Ax p.ins.length cx) p.ins _ _ (fun id => !(typeOf f id == p.w)) W (hrx.out.mv (hBw.out.then hW)) eg1 (pb_areTypes1 W f w.heap.size wr.heap.size p.w (hfbj.out.mv hW) hfo'.out hc hlt)
          simp only [any_not] at hcon
          have hal2 : Hd (∀ o, Below wr.heap.size wr (wr.alloc o)) := ⟨fun o => (Below.refl wr.heap.size wr).al (Nat.le_refl _) o⟩
          go_wp2_with fail
          refine (hcon _ (hal2.out _) (by simp) (by simp)).mono ?_; rintro e w2 ⟨rfl, hb2⟩
          have hb2' := Hd.mk ((hal2.out _).then hb2)
          clear hcon hb2
          cases hq : p.ins.all (fun id => typeOf f id == p.w) with
          | false =>
            have hv : R = false := by
              rw [← hR'.out]
              refine (hfl ?_).out
              unfold typesB
              rw [(hflj hq).out]; rfl
            subst hv
            clear hfl hflj hsnj hsn hq
            go_wp2
            go_ret
            exact ⟨rfl, hBw.out.then hb2'.out⟩
          | true =>
            rw [hq] at hsnj
            have hall2 := Hd.mk (hsnj.out.trans (by rw [hallj.out]; first | done | rfl))
            clear hflj hsnj hq
            go_wp2
            go_roundw
            case rel => exact ⟨j + 1, by omega, by go_num, hall2, ⟨hbj.out.then hb2'.out⟩⟩
            case measure => simp [intOf]; omega
        · have e : j = x.phis.length := by omega
          subst e
          rw [List.take_length] at hallj
          have y0 := (bat hbj.out wo.heap.size (by omega) 1).trans (hbc.out 1)
          have y2 := (bat hbj.out wo.heap.size (by omega) 2).trans (hbc.out 2)
          have y3 := (bat hbj.out wo.heap.size (by omega) 3).trans (hbc.out 3)
          have y4 := (bat hbj.out wo.heap.size (by omega) 4).trans (hbc.out 4)
          have y5 := (bat hbj.out wo.heap.size (by omega) 5).trans (hbc.out 5)
          simp at y0 y2 y3 y4 y5
          have hcon := c_ConInst (.slice Ai x.insts.length ci) x.insts _ _ (fun i => !typedI f i) wr (hri.out.mv hBw.out) eg2 (pb_areTypes2 wr f w.heap.size hfbj.out hfo'.out)
          simp only [any_not] at hcon
          go_wp2_with fail
          refine hcon.mono ?_; rintro e w2 ⟨rfl, hb2⟩
          have hb2' := Hd.mk hb2
          have hz2 := hb2.size
          replace y2 := (bat hb2 wo.heap.size (by omega) 2).trans y2
          replace y3 := (bat hb2 wo.heap.size (by omega) 3).trans y3
          replace y4 := (bat hb2 wo.heap.size (by omega) 4).trans y4
          replace y5 := (bat hb2 wo.heap.size (by omega) 5).trans y5
          have hfb2 := hfbj.out.mv hb2
          have hB2 := Hd.mk (hBw.out.then hb2)
          clear hcon hb2 y0 hfbj
          cases hq : x.insts.all (typedI f) with
          | false =>
            have hv : R = false := by
              rw [← hR'.out]
              refine (hfl ?_).out
              unfold typesB
              rw [hq, Bool.and_false]; rfl
            subst hv
            clear hfl hsn hq hfb2
            go_wp2
            go_ret
            exact ⟨rfl, hB2.out⟩
          | true =>
            have hTB := Hd.mk (show typesB f x = typedT f x.term by unfold typesB; rw [hallj.out, hq]; rfl)
            clear hq
            generalize x.term = t at *
            obtain ⟨tk, ta, tx, ty⟩ := t
            simp only at *
            have hal2 : Hd (∀ o, Below w2.heap.size w2 (w2.alloc o)) := ⟨fun o => (Below.refl w2.heap.size w2).al (Nat.le_refl _) o⟩
            obtain ⟨w3, hw3⟩ : ∃ w3 : World, w3 = w2.alloc (.cells #[.int .i64 tk, .int .i64 ta, .int .i64 tx, .int .i64 ty] 29) := ⟨_, rfl⟩
            have hb3 : Below w2.heap.size w2 w3 := by rw [hw3]; exact hal2.out _
            have hz3 : w3.heap.size = w2.heap.size + 1 := by rw [hw3]; simp
            have p0 : w3.cell? ⟨w2.heap.size, 0, none⟩ = some (.int .i64 tk) := by rw [hw3]; simp
            have p1 : w3.cell? ⟨w2.heap.size, 1, none⟩ = some (.int .i64 ta) := by rw [hw3]; simp
            have hfb3 := Hd.mk (hfb2.mv hb3)
            have hB3 : Hd (Below wo.heap.size wo w3) := ⟨(hBo.out.then hb2'.out).then hb3⟩
            have hw3' := Hd.mk hw3
            obtain ⟨B1, d1, B2, d2, n0, n1, n2, hkf3, hlt3⟩ := hfb3.out
            have hty := fun W (hS : Below w3.heap.size w3 W) => c_TypeOfB f _ ta W (KM.mv hkf3 hS) hfo'.out
            have hpass := fun (h : typedT f ⟨tk, ta, tx, ty⟩ = true) => Hd.mk (show (f.blocks.take (k + 1)).all (typesB f) = true by rw [hsn.out, hall.out, hTB.out, h]; rfl)
            have hfail := fun (h : typedT f ⟨tk, ta, tx, ty⟩ = false) => Hd.mk (hR'.out.symm.trans (hfl (hTB.out.trans h)).out)
            have hb3' := Hd.mk hb3
            have hzo : wo.heap.size < w2.heap.size := by omega
            clear hw3 hb3 hfb2 hTB hsn hfl hkf3 hB2 hal2
            unfold typedT at hpass hfail
            simp only at hpass hfail
            by_cases k1 : tk = 1
            · subst k1
              by_cases ht : typeOf f ta = f.ret
              · have hps := hpass (by simp [ht])
                have d0 : (f.ret != f.ret) = false := by simp
                rw [ht] at hty
                clear hpass hfail ht
                go_wp2
                rw [← hw3'.out]
                refine wp_region_bel (by kernel_rfl) (by kernel_rfl) ?_
                simp only [List.toList_toArray]
                repeat' first
                  | (refine seq_val (by rfl) (by intro W hS; have s0 := (bat hS w.heap.size hlt3 0).trans n0; have s1 := (bat hS w.heap.size hlt3 1).trans n1; have s2 := (bat hS w.heap.size hlt3 2).trans n2; have s3 := (bat hS w2.heap.size (by omega) 0).trans p0; have s4 := (bat hS w2.heap.size (by omega) 1).trans p1; go_simp; first | done | rfl) ?_; simp only [Act.put, List.setIfInBounds_toArray, List.set_cons_zero, List.set_cons_succ])
                  | (refine seq_skip (by rfl) ?_; simp only [Act.put, List.setIfInBounds_toArray, List.set_cons_zero, List.set_cons_succ])
                  | (refine seq_ret 142 _ (by rfl) (by intro W hS; have s0 := (bat hS w.heap.size hlt3 0).trans n0; have s1 := (bat hS w.heap.size hlt3 1).trans n1; have s2 := (bat hS w.heap.size hlt3 2).trans n2; have s3 := (bat hS w2.heap.size (by omega) 0).trans p0; have s4 := (bat hS w2.heap.size (by omega) 1).trans p1; go_simp; first | done | rfl) (fun W hS => hty W hS) ?_; simp only [Act.put, List.setIfInBounds_toArray, List.set_cons_zero, List.set_cons_succ])
                  | fail
                refine seq_nil (fun W hS => ?_)
                have s0 := (bat hS w.heap.size hlt3 0).trans n0
                have s1 := (bat hS w.heap.size hlt3 1).trans n1
                have s2 := (bat hS w.heap.size hlt3 2).trans n2
                have s3 := (bat hS w2.heap.size (by omega) 0).trans p0
                have s4 := (bat hS w2.heap.size (by omega) 1).trans p1
                go_wp2
                go_roundw
                case rel => exact ⟨k + 1, by omega, by go_num, hps, ⟨(hbr.out.then hB3.out).then hS⟩, ⟨hfb3.out.mv hS⟩⟩
                case measure => simp [intOf]; omega
              · have hv : R = false := (hfail (by simp [ht])).out
                have d0 := bneT ht
                subst hv
                clear hpass hfail
                generalize typeOf f ta = T at *
                go_wp2
                rw [← hw3'.out]
                refine wp_region_bel (by kernel_rfl) (by kernel_rfl) ?_
                simp only [List.toList_toArray]
                repeat' first
                  | (refine seq_val (by rfl) (by intro W hS; have s0 := (bat hS w.heap.size hlt3 0).trans n0; have s1 := (bat hS w.heap.size hlt3 1).trans n1; have s2 := (bat hS w.heap.size hlt3 2).trans n2; have s3 := (bat hS w2.heap.size (by omega) 0).trans p0; have s4 := (bat hS w2.heap.size (by omega) 1).trans p1; go_simp; first | done | rfl) ?_; simp only [Act.put, List.setIfInBounds_toArray, List.set_cons_zero, List.set_cons_succ])
                  | (refine seq_skip (by rfl) ?_; simp only [Act.put, List.setIfInBounds_toArray, List.set_cons_zero, List.set_cons_succ])
                  | (refine seq_ret 142 _ (by rfl) (by intro W hS; have s0 := (bat hS w.heap.size hlt3 0).trans n0; have s1 := (bat hS w.heap.size hlt3 1).trans n1; have s2 := (bat hS w.heap.size hlt3 2).trans n2; have s3 := (bat hS w2.heap.size (by omega) 0).trans p0; have s4 := (bat hS w2.heap.size (by omega) 1).trans p1; go_simp; first | done | rfl) (fun W hS => hty W hS) ?_; simp only [Act.put, List.setIfInBounds_toArray, List.set_cons_zero, List.set_cons_succ])
                  | fail
                refine seq_nil (fun W hS => ?_)
                have s0 := (bat hS w.heap.size hlt3 0).trans n0
                have s1 := (bat hS w.heap.size hlt3 1).trans n1
                have s2 := (bat hS w.heap.size hlt3 2).trans n2
                have s3 := (bat hS w2.heap.size (by omega) 0).trans p0
                have s4 := (bat hS w2.heap.size (by omega) 1).trans p1
                go_wp2
                go_ret
                exact ⟨rfl, (hbr.out.then hB3.out).then hS⟩
            have b1 := beqF k1
            by_cases k3 : tk = 3
            · subst k3
              by_cases ht : typeOf f ta = 1
              · have hps := hpass (by simp [ht])
                rw [ht] at hty
                clear hpass hfail ht
                go_wp2
                rw [← hw3'.out]
                refine wp_region_bel (by kernel_rfl) (by kernel_rfl) ?_
                simp only [List.toList_toArray]
                repeat' first
                  | (refine seq_val (by rfl) (by intro W hS; have s0 := (bat hS w.heap.size hlt3 0).trans n0; have s1 := (bat hS w.heap.size hlt3 1).trans n1; have s2 := (bat hS w.heap.size hlt3 2).trans n2; have s3 := (bat hS w2.heap.size (by omega) 0).trans p0; have s4 := (bat hS w2.heap.size (by omega) 1).trans p1; go_simp; first | done | rfl) ?_; simp only [Act.put, List.setIfInBounds_toArray, List.set_cons_zero, List.set_cons_succ])
                  | (refine seq_skip (by rfl) ?_; simp only [Act.put, List.setIfInBounds_toArray, List.set_cons_zero, List.set_cons_succ])
                  | (refine seq_ret 142 _ (by rfl) (by intro W hS; have s0 := (bat hS w.heap.size hlt3 0).trans n0; have s1 := (bat hS w.heap.size hlt3 1).trans n1; have s2 := (bat hS w.heap.size hlt3 2).trans n2; have s3 := (bat hS w2.heap.size (by omega) 0).trans p0; have s4 := (bat hS w2.heap.size (by omega) 1).trans p1; go_simp; first | done | rfl) (fun W hS => hty W hS) ?_; simp only [Act.put, List.setIfInBounds_toArray, List.set_cons_zero, List.set_cons_succ])
                  | fail
                refine seq_nil (fun W hS => ?_)
                have s0 := (bat hS w.heap.size hlt3 0).trans n0
                have s1 := (bat hS w.heap.size hlt3 1).trans n1
                have s2 := (bat hS w.heap.size hlt3 2).trans n2
                have s3 := (bat hS w2.heap.size (by omega) 0).trans p0
                have s4 := (bat hS w2.heap.size (by omega) 1).trans p1
                go_wp2
                go_roundw
                case rel => exact ⟨k + 1, by omega, by go_num, hps, ⟨(hbr.out.then hB3.out).then hS⟩, ⟨hfb3.out.mv hS⟩⟩
                case measure => simp [intOf]; omega
              · have hv : R = false := (hfail (by simp [ht])).out
                have d0 := bneT ht
                subst hv
                clear hpass hfail
                generalize typeOf f ta = T at *
                go_wp2
                rw [← hw3'.out]
                refine wp_region_bel (by kernel_rfl) (by kernel_rfl) ?_
                simp only [List.toList_toArray]
                repeat' first
                  | (refine seq_val (by rfl) (by intro W hS; have s0 := (bat hS w.heap.size hlt3 0).trans n0; have s1 := (bat hS w.heap.size hlt3 1).trans n1; have s2 := (bat hS w.heap.size hlt3 2).trans n2; have s3 := (bat hS w2.heap.size (by omega) 0).trans p0; have s4 := (bat hS w2.heap.size (by omega) 1).trans p1; go_simp; first | done | rfl) ?_; simp only [Act.put, List.setIfInBounds_toArray, List.set_cons_zero, List.set_cons_succ])
                  | (refine seq_skip (by rfl) ?_; simp only [Act.put, List.setIfInBounds_toArray, List.set_cons_zero, List.set_cons_succ])
                  | (refine seq_ret 142 _ (by rfl) (by intro W hS; have s0 := (bat hS w.heap.size hlt3 0).trans n0; have s1 := (bat hS w.heap.size hlt3 1).trans n1; have s2 := (bat hS w.heap.size hlt3 2).trans n2; have s3 := (bat hS w2.heap.size (by omega) 0).trans p0; have s4 := (bat hS w2.heap.size (by omega) 1).trans p1; go_simp; first | done | rfl) (fun W hS => hty W hS) ?_; simp only [Act.put, List.setIfInBounds_toArray, List.set_cons_zero, List.set_cons_succ])
                  | fail
                refine seq_nil (fun W hS => ?_)
                have s0 := (bat hS w.heap.size hlt3 0).trans n0
                have s1 := (bat hS w.heap.size hlt3 1).trans n1
                have s2 := (bat hS w.heap.size hlt3 2).trans n2
                have s3 := (bat hS w2.heap.size (by omega) 0).trans p0
                have s4 := (bat hS w2.heap.size (by omega) 1).trans p1
                go_wp2
                go_ret
                exact ⟨rfl, (hbr.out.then hB3.out).then hS⟩
            have b3 := beqF k3
            have hps := hpass (by simp [k1, k3])
            clear hpass hfail hty
            go_wp2
            rw [← hw3'.out]
            go_quiet (fail)
            go_wp2
            go_roundw
            case rel => exact ⟨k + 1, by omega, by go_num, hps, ⟨drewN_below (hbr.out.then hB3.out) _⟩, ⟨FB.drewN hfb3.out _⟩⟩
            case measure => simp [intOf]; omega
    · have e : k = f.blocks.length := by omega
      subst e
      have hv : R = true := by rw [← hR'.out, ← hall.out, List.take_length]
      subst hv
      go_wp2
      go_ret
      exact ⟨rfl, hbr.out⟩
end Go.Proofs.YtkcgejbnhpccdaaGreat
set_option linter.unusedSimpArgs false
set_option linter.unusedVariables false
namespace Go.Proofs.YtkcgejbnhpccdaaGreat
open Go.RowKit
/-! ### modules -/
section
variable (L : Nat)
def KMod (w : World) (x : XMod) (cs : List Value) : Prop := ∃ v, cs = [v] ∧ Rd L 3 (KFunc L) w v x.funcs
instance : KM (KMod L) := ⟨fun ⟨v, h, r⟩ hb => ⟨v, h, r.mv hb⟩⟩
end
/-- A number in a box. -/
def NB (W : World) (b : Nat) (n : Int) : Prop := W.cell? ⟨b, 0, none⟩ = some (.int .i64 n) ∧ b < W.heap.size
theorem NB.mv {W W' : World} {b : Nat} {n : Int} (h : NB W b n) (hb : Below W.heap.size W W') : NB W' b n := ⟨(bat hb b h.2 0).trans h.1, Nat.lt_of_lt_of_le h.2 hb.size⟩
/-- A module in a box. -/
def MB (W : World) (b : Nat) (m : XMod) : Prop := ∃ A c, W.cell? ⟨b, 0, none⟩ = some (.slice A m.funcs.length c) ∧ KMod lm W m [.slice A m.funcs.length c] ∧ b < W.heap.size
theorem MB.mv {W W' : World} {b : Nat} {m : XMod} (h : MB W b m) (hb : Below W.heap.size W W') : MB W' b m := by
  obtain ⟨A, c, h1, h2, h3⟩ := h
  exact ⟨A, c, (bat hb b h3 0).trans h1, KM.mv h2 hb, Nat.lt_of_lt_of_le h3 hb.size⟩
theorem place_blk (f : XFunc) (id : Int) : (placeOf f id).1 = -2 ∨ (placeOf f id).1 = -1 ∨ ∃ k : Nat, k < f.blocks.length ∧ (placeOf f id).1 = k := by
  rcases placeOf_cases f id with ⟨h, -⟩ | ⟨h, -⟩ | ⟨k, hk, h, -⟩
  · left; rw [h]
  · right; left; rw [h]
  · right; right; exact ⟨k, hk, by rw [h]⟩
set_option maxHeartbeats 1000000 in
theorem c_isSeen (f : XFunc) (cs : List Value) (id b ahead : Int) (w : World) (hf : KFunc lm w f cs) (hfo : Fo f) (hb : 0 ≤ b ∧ b < f.blocks.length) : Calls Tryz.prog 179 #[.agg cs.toArray, .int .i64 id, .int .i64 b, .int .i64 ahead] w (Ret (.bool (seen f id b ahead)) w) := by
  have hpl := fun W hW => c_PlaceOf f cs id W (KM.mv hf hW) (by have := hfo.2.1; omega)
  have hdm := fun a W hW => c_dominates f cs a b W (KM.mv hf hW) hfo.1 hb
  obtain ⟨v1, v2, rfl, hp, hb'⟩ := hf
  obtain ⟨A1, c1, rfl, -, -, -⟩ := hp.sm
  obtain ⟨A2, c2, rfl, -, -, -⟩ := hb'.sm
  have hbl := fun o => (Below.refl w.heap.size w).al (Nat.le_refl _) o
  clear hp hb' hfo
  generalize hRR : seen f id b ahead = R
  have hR := Hd.mk hRR.symm
  clear hRR
  unfold seen at hR
  generalize placeOf f id = pl at *
  obtain ⟨p1, p2⟩ := pl
  simp only at *
  by_cases h1 : p1 = -1
  · subst h1
    have hv : R = true := by rw [hR.out]; rfl
    subst hv
    clear hR hdm
    go_enter Tryz.func179, Tryz.ntmps179
    go_wp2_with fail
    refine (hpl _ (hbl _)).mono ?_; rintro e w1 ⟨rfl, hb1⟩
    go_wp2
    go_ret
    exact ⟨rfl, (hbl _).then hb1⟩
  have d1 := beqF h1
  by_cases h2 : p1 = b
  · have hv : R = decide (id < ahead) := by rw [hR.out, if_neg (by simpa using h1), if_pos (by simpa using h2)]
    subst hv
    subst h2
    clear hR hdm
    go_enter Tryz.func179, Tryz.ntmps179
    go_wp2_with fail
    refine (hpl _ (hbl _)).mono ?_; rintro e w1 ⟨rfl, hb1⟩
    go_wp2
    go_ret
    exact ⟨rfl, (hbl _).then hb1⟩
  have d2 := beqF h2
  have hv : R = dom f p1 b := by rw [hR.out, if_neg (by simpa using h1), if_neg (by simpa using h2)]
  subst hv
  have hd := hdm p1
  generalize dom f p1 b = R at *
  clear hR hdm
  go_enter Tryz.func179, Tryz.ntmps179
  go_wp2_with fail
  refine (hpl _ (hbl _)).mono ?_; rintro e w1 ⟨rfl, hb1⟩
  have k0 := bat hb1 w.heap.size (by simp)
  simp at k0
  have hB1 := (hbl _).then hb1
  go_wp2_with fail
  refine (hd _ hB1).mono ?_; rintro e w2 ⟨rfl, hb2⟩
  go_wp2
  go_ret
  exact ⟨rfl, hB1.then hb2⟩
theorem c_areSeen1 (f : XFunc) (id b fst : Int) (k : Nat) (bf bb bq bk : Nat) (w : World) (hf : FB w bf f) (hfo : Fo f) (hb : 0 ≤ b ∧ b < f.blocks.length) (h1 : NB w bb b) (h2 : NB w bq fst) (h3 : NB w bk k) (hr : -9223372036854775808 ≤ fst + k ∧ fst + k ≤ 9223372036854775807) (hk : (k : Int) ≤ 9223372036854775807) :
    Calls Tryz.prog 180 #[.int .i64 id, .pointer (some ⟨bf, 0, none⟩), .pointer (some ⟨bb, 0, none⟩), .pointer (some ⟨bq, 0, none⟩), .pointer (some ⟨bk, 0, none⟩)] w (Ret (.bool (!seen f id b (fst + k))) w) := by
  obtain ⟨A1, c1, A2, c2, q0, q1, q2, q3, q4⟩ := hf
  have hs := c_isSeen f _ id b (fst + k) w q3 hfo hb
  generalize seen f id b (fst + k) = R at *
  obtain ⟨h1, -⟩ := h1
  obtain ⟨h2, -⟩ := h2
  obtain ⟨h3, -⟩ := h3
  have e1 : IntKind.i64.wrap (fst + (k : Int)) = fst + k := IntWalk.i64_in _ hr
  have e2 : IntKind.i64.wrap (k : Int) = (k : Int) := IntWalk.i64_in _ (by omega)
  clear q3 hr hk
  go_enter Tryz.func180, Tryz.ntmps180
  go_wp2_with fail
  refine hs.mono ?_; rintro e w1 ⟨rfl, hb1⟩
  go_wp2
  go_ret
  exact ⟨rfl, hb1⟩
theorem pb_areSeen1 (W : World) (f : XFunc) (b fst : Int) (k : Nat) (bf bb bq bk : Nat) (hf : FB W bf f) (hfo : Fo f) (hb : 0 ≤ b ∧ b < f.blocks.length) (h1 : NB W bb b) (h2 : NB W bq fst) (h3 : NB W bk k) (hr : -9223372036854775808 ≤ fst + k ∧ fst + k ≤ 9223372036854775807) (hk : (k : Int) ≤ 9223372036854775807) :
    PB Tryz.prog 180 #[.pointer (some ⟨bf, 0, none⟩), .pointer (some ⟨bb, 0, none⟩), .pointer (some ⟨bq, 0, none⟩), .pointer (some ⟨bk, 0, none⟩)] KInt arg1 (fun id => !seen f id b (fst + k)) W := fun W' x cs hW hx => by
  cases hx
  exact c_areSeen1 f x b fst k bf bb bq bk W' (hf.mv hW) hfo hb (h1.mv hW) (h2.mv hW) (h3.mv hW) hr hk
theorem new_cell (W : World) (arr : Array Value) (e : TypeId) {b : Nat} (hb : b = W.heap.size) (j : Nat) (v : Value) (h : arr[j]? = some v) : (W.alloc (.cells arr e)).cell? ⟨b, j, none⟩ = some v := by
  subst hb; rw [World.cell?_alloc_new]; exact h
theorem fits2_drop (f : XFunc) : ∀ (xs ws : List Int) (k : Nat) (h : k < xs.length) (h' : k < ws.length), fits2 f (xs.drop k) (ws.drop k) = (typeOf f xs[k] == ws[k] && fits2 f (xs.drop (k + 1)) (ws.drop (k + 1))) := fun xs ws k h h' => by
  rw [List.drop_eq_getElem_cons h, List.drop_eq_getElem_cons h']; rfl
set_option maxRecDepth 20000 in
set_option maxHeartbeats 4000000 in
theorem c_isCall (m : XMod) (cm : List Value) (f : XFunc) (cf : List Value) (i : XInst) (v : Value) (w : World) (hm : KMod lm w m cm) (hf : KFunc lm w f cf) (hfo : Fo f) (hv : RI lm w v i.args) (him : 0 ≤ i.imm ∧ i.imm < m.funcs.length) :
    Calls Tryz.prog 134 #[.agg cm.toArray, .agg cf.toArray, instV i v] w (Ret (.bool (callOk m f i)) w) := by
  have hty := fun W (hW : Below w.heap.size w W) id => c_TypeOfB f cf id W (KM.mv hf hW) hfo
  obtain ⟨vm, rfl, rm⟩ := hm
  obtain ⟨v1, v2, rfl, hp, hb⟩ := hf
  obtain ⟨A1, c1, rfl, -, -, -⟩ := hp.sm
  obtain ⟨A2, c2, rfl, -, -, -⟩ := hb.sm
  obtain ⟨A7, c7, rfl, hc7, hl7, hv0⟩ := hv.sm
  obtain ⟨Am, cm, rfl, hcm, hlm', rm0⟩ := rm.sm
  clear hp hb hfo rm hv
  have hbl := fun o o' o'' o3 => ((((Below.refl w.heap.size w).al (Nat.le_refl _) o).al (by simp) o').al (by simp; omega) o'').al (by simp; omega) o3
  obtain ⟨k, hk⟩ : ∃ k : Nat, i.imm = k := ⟨i.imm.toNat, by omega⟩
  have hkl : k < m.funcs.length := by omega
  obtain ⟨eb, eo, ecs, hA_, heb, ⟨fv1, fv2, rfl, hr_, hr2_⟩, hat_⟩ := (rm0.out).in0 (Below.refl w.heap.size w) (k) (hkl)
  cases hA_
  have hew := Nat.lt_of_lt_of_le heb (Below.refl w.heap.size w).size
  have g0 := hat_ 0 _ rfl
  have g1 := hat_ 1 _ rfl
  have g2 := hat_ 2 _ rfl
  clear hat_
  simp at g0 g1 g2
  obtain ⟨Af, cf, rfl, hcf, hlf, hrf⟩ := hr_.sm
  obtain ⟨Ab, cb, rfl, hcb, hlb, hrb⟩ := hr2_.sm
  clear hr_ hr2_
  generalize hRR : callOk m f i = R
  have hR := Hd.mk hRR.symm
  clear hRR
  unfold callOk at hR
  rw [show m.funcs.getD i.imm.toNat func0 = m.funcs[k] by rw [hk, Int.toNat_natCast, List.getD_eq_getElem?_getD, List.getElem?_eq_getElem hkl]; rfl] at hR
  obtain ⟨op, wd, a, b, c, imm, args⟩ := i
  simp only [instV] at *
  subst hk
  have y0 : (0 : Int) ≤ (k : Int) := by omega
  have y1 : (k : Int) < (m.funcs.length : Int) := by omega
  generalize m.funcs[k] = t at *
  have heb1 : eb < w.heap.size + 1 := by omega
  have heb2 : eb < w.heap.size + 1 + 1 := by omega
  have heb3 : eb < w.heap.size + 1 + 1 + 1 := by omega
  by_cases h1 : wd = t.ret
  rotate_left
  · have hv : R = false := by rw [hR.out]; simp [h1]
    subst hv
    have d1 := bneT h1
    clear hR hty
    go_enter Tryz.func134, Tryz.ntmps134
    go_wp2
    go_ret
    exact ⟨rfl, hbl _ _ _ _⟩
  by_cases h2 : args.length = t.params.length
  rotate_left
  · have hv : R = false := by rw [hR.out]; simp [h2]
    subst hv
    have d2 : ((args.length : Int) != (t.params.length : Int)) = true := bneT (by omega)
    clear hR hty
    go_enter Tryz.func134, Tryz.ntmps134
    go_wp2
    go_ret
    exact ⟨rfl, hbl _ _ _ _⟩
  have hR2 := Hd.mk (show R = fits2 f args t.params by rw [hR.out]; simp [h1, h2])
  clear hR
  subst h1
  have d1 : (t.ret != t.ret) = false := by simp
  have d2 : ((args.length : Int) != (t.params.length : Int)) = false := by rw [h2]; simp
  have h2' := Hd.mk h2
  clear h2
  obtain ⟨W0, hW0⟩ : ∃ W0 : World, W0 = (((w.alloc (.cells #[.slice (some ⟨eb, eo, none⟩) m.funcs.length cm] 38)).alloc (.cells #[.slice A1 f.params.length c1, .int .i64 f.ret, .slice A2 f.blocks.length c2] 35)).alloc (.cells #[.int .i64 op, .int .i64 t.ret, .int .i64 a, .int .i64 b, .int .i64 c, .int .i64 k, .slice A7 args.length c7] 26)).alloc (.cells #[.slice Af t.params.length cf, .int .i64 t.ret, .slice Ab t.blocks.length cb] 35) := ⟨_, rfl⟩
  have hz0 : W0.heap.size = w.heap.size + 4 := by rw [hW0]; simp
  have hB0 : Hd (Below w.heap.size w W0) := ⟨by rw [hW0]; exact hbl _ _ _ _⟩
  have n0 : W0.cell? ⟨w.heap.size + 1, 0, none⟩ = some (.slice A1 f.params.length c1) := by rw [hW0]; exact (World.cell?_alloc_past _ _ _ (by first | omega | (simp; done) | (simp; omega))).trans ((World.cell?_alloc_past _ _ _ (by first | omega | (simp; done) | (simp; omega))).trans (by simp))
  have n1 : W0.cell? ⟨w.heap.size + 1, 1, none⟩ = some (.int .i64 f.ret) := by rw [hW0]; exact (World.cell?_alloc_past _ _ _ (by first | omega | (simp; done) | (simp; omega))).trans ((World.cell?_alloc_past _ _ _ (by first | omega | (simp; done) | (simp; omega))).trans (by simp))
  have n2 : W0.cell? ⟨w.heap.size + 1, 2, none⟩ = some (.slice A2 f.blocks.length c2) := by rw [hW0]; exact (World.cell?_alloc_past _ _ _ (by first | omega | (simp; done) | (simp; omega))).trans ((World.cell?_alloc_past _ _ _ (by first | omega | (simp; done) | (simp; omega))).trans (by simp))
  have n3 : W0.cell? ⟨w.heap.size + 3, 0, none⟩ = some (.slice Af t.params.length cf) := by rw [hW0]; exact new_cell _ _ _ (by simp) 0 _ rfl
  have hW0' := Hd.mk hW0
  have hty' := Hd.mk hty
  clear hW0 hbl hty
  go_enter Tryz.func134, Tryz.ntmps134
  go_wp2
  rw [← hW0'.out]
  go_loopw [33] (fun s33 wr => ∃ j : Nat, j ≤ args.length ∧ s33 = .int .i64 j ∧ Hd (fits2 f (args.drop j) (t.params.drop j) = R) ∧ Hd (Below W0.heap.size W0 wr)) (fun s33 _ => args.length - (intOf s33).toNat)
  case atStart => exact ⟨0, Nat.zero_le _, rfl, ⟨by rw [hR2.out]; rfl⟩, ⟨Below.refl _ _⟩⟩
  case round =>
    obtain ⟨j, hj, rfl, hrj, hbr⟩ := hrel
    have hBw := Hd.mk (hB0.out.then hbr.out)
    have hzr := hbr.out.size
    by_cases hlt : j < args.length
    · have hltp : j < t.params.length := by have := h2'.out; omega
      obtain ⟨eb, eo, ecs, hA_, heb, hk_, hat_⟩ := (hv0.out).in0 (hBw.out) (j) (hlt)
      cases hA_
      cases hk_
      have hew := Nat.lt_of_lt_of_le heb (hBw.out).size
      have g0 := hat_ 0 _ rfl
      clear hat_
      simp at g0
      have p0 := g0
      have hep := hew
      clear g0 hew
      obtain ⟨eb, eo, ecs, hA_, heb, hk_, hat_⟩ := (hrf.out).in0 (hBw.out) (j) (hltp)
      cases hA_
      cases hk_
      have hew := Nat.lt_of_lt_of_le heb (hBw.out).size
      have g0 := hat_ 0 _ rfl
      clear hat_
      simp at g0
      have hdr := Hd.mk ((fits2_drop f args t.params j hlt hltp).symm.trans hrj.out)
      have y4 : (j : Int) < (t.params.length : Int) := by omega
      have y5 : (0 : Int) ≤ (j : Int) := by omega
      have hta := hty'.out
      generalize args[j] = x at *
      generalize t.params[j] = pw at *
      have m0 := (bat hbr.out (w.heap.size + 1) (by omega) 0).trans n0
      have m1 := (bat hbr.out (w.heap.size + 1) (by omega) 1).trans n1
      have m2 := (bat hbr.out (w.heap.size + 1) (by omega) 2).trans n2
      have m3 := (bat hbr.out (w.heap.size + 3) (by omega) 0).trans n3
      have hlw1 : w.heap.size + 1 < wr.heap.size := by omega
      have hlw3 : w.heap.size + 3 < wr.heap.size := by omega
      by_cases hq : typeOf f x = pw
      · have hrj2 := Hd.mk (show fits2 f (args.drop (j + 1)) (t.params.drop (j + 1)) = R by have := hdr.out; rw [show (typeOf f x == pw) = true by simpa using hq, Bool.true_and] at this; exact this)
        clear hdr
        go_wp2
        refine wp_region_bel (by kernel_rfl) (by kernel_rfl) ?_
        simp only [List.toList_toArray]
        repeat' first
          | (refine seq_val (by rfl) (by intro W hS; have s0 := (bat hS (w.heap.size + 1) hlw1 0).trans m0; have s1 := (bat hS (w.heap.size + 1) hlw1 1).trans m1; have s2 := (bat hS (w.heap.size + 1) hlw1 2).trans m2; have s3 := (bat hS (w.heap.size + 3) hlw3 0).trans m3; have s4 := (bat hS _ hew (eo + j)).trans g0; go_simp; first | done | rfl) ?_; simp only [Act.put, List.setIfInBounds_toArray, List.set_cons_zero, List.set_cons_succ])
          | (refine seq_skip (by rfl) ?_; simp only [Act.put, List.setIfInBounds_toArray, List.set_cons_zero, List.set_cons_succ])
          | (refine seq_ret 142 _ (by rfl) (by intro W hS; have s0 := (bat hS (w.heap.size + 1) hlw1 0).trans m0; have s1 := (bat hS (w.heap.size + 1) hlw1 1).trans m1; have s2 := (bat hS (w.heap.size + 1) hlw1 2).trans m2; have s3 := (bat hS (w.heap.size + 3) hlw3 0).trans m3; have s4 := (bat hS _ hew (eo + j)).trans g0; go_simp; first | done | rfl) (fun W hS => (hq ▸ hta W (hBw.out.then hS) x : Calls Tryz.prog 142 _ W (Ret (.int .i64 pw) W))) ?_; simp only [Act.put, List.setIfInBounds_toArray, List.set_cons_zero, List.set_cons_succ])
          | fail
        refine seq_nil (fun W hS => ?_)
        have s0 := (bat hS (w.heap.size + 1) hlw1 0).trans m0
        have s1 := (bat hS (w.heap.size + 1) hlw1 1).trans m1
        have s2 := (bat hS (w.heap.size + 1) hlw1 2).trans m2
        have s3 := (bat hS (w.heap.size + 3) hlw3 0).trans m3
        have s4 := (bat hS _ hew (eo + j)).trans g0
        go_wp2
        go_roundw
        case rel => exact ⟨j + 1, by omega, by go_num, hrj2, ⟨hbr.out.then hS⟩⟩
        case measure => simp [intOf]; omega
      · have hv : R = false := by have := hdr.out; rw [show (typeOf f x == pw) = false by simpa using hq, Bool.false_and] at this; exact this.symm
        subst hv
        have d3 := bneT hq
        have hta2 := fun W hS => hta W hS x
        clear hta hdr hty'
        generalize typeOf f x = tx at *
        go_wp2
        refine wp_region_bel (by kernel_rfl) (by kernel_rfl) ?_
        simp only [List.toList_toArray]
        repeat' first
          | (refine seq_val (by rfl) (by intro W hS; have s0 := (bat hS (w.heap.size + 1) hlw1 0).trans m0; have s1 := (bat hS (w.heap.size + 1) hlw1 1).trans m1; have s2 := (bat hS (w.heap.size + 1) hlw1 2).trans m2; have s3 := (bat hS (w.heap.size + 3) hlw3 0).trans m3; have s4 := (bat hS _ hew (eo + j)).trans g0; go_simp; first | done | rfl) ?_; simp only [Act.put, List.setIfInBounds_toArray, List.set_cons_zero, List.set_cons_succ])
          | (refine seq_skip (by rfl) ?_; simp only [Act.put, List.setIfInBounds_toArray, List.set_cons_zero, List.set_cons_succ])
          | (refine seq_ret 142 _ (by rfl) (by intro W hS; have s0 := (bat hS (w.heap.size + 1) hlw1 0).trans m0; have s1 := (bat hS (w.heap.size + 1) hlw1 1).trans m1; have s2 := (bat hS (w.heap.size + 1) hlw1 2).trans m2; have s3 := (bat hS (w.heap.size + 3) hlw3 0).trans m3; have s4 := (bat hS _ hew (eo + j)).trans g0; go_simp; first | done | rfl) (fun W hS => hta2 W (hBw.out.then hS)) ?_; simp only [Act.put, List.setIfInBounds_toArray, List.set_cons_zero, List.set_cons_succ])
          | fail
        refine seq_nil (fun W hS => ?_)
        have s0 := (bat hS (w.heap.size + 1) hlw1 0).trans m0
        have s1 := (bat hS (w.heap.size + 1) hlw1 1).trans m1
        have s2 := (bat hS (w.heap.size + 1) hlw1 2).trans m2
        have s3 := (bat hS (w.heap.size + 3) hlw3 0).trans m3
        have s4 := (bat hS _ hew (eo + j)).trans g0
        go_wp2
        go_ret
        exact ⟨rfl, hBw.out.then hS⟩
    · have e : j = args.length := by omega
      subst e
      have hv : R = true := by
        rw [← hrj.out, List.drop_length]; rfl
      subst hv
      go_wp2
      go_ret
      exact ⟨rfl, hBw.out⟩
end Go.Proofs.YtkcgejbnhpccdaaGreat
set_option linter.unusedSimpArgs false
set_option linter.unusedVariables false
namespace Go.Proofs.YtkcgejbnhpccdaaGreat
open Go.RowKit
set_option maxHeartbeats 1000000 in
theorem z_FuncS (v : Value) (xs : List XFunc) (left : Int) (w : World) (hv : Rd lw 3 (KFunc lw) w v xs) (h0 : 0 ≤ left) (h1 : left ≤ 1048576) : Calls Tryz.prog 63 #[v, .int .i64 left] w (Ret (.int .i64 (sub left (wL wFunc xs))) w) := by
  obtain ⟨A, c, rfl, -, hl, hv0⟩ := hv.sw
  clear hv
  have hsum := Hd.mk (show wL wFunc xs = xs.length + (xs.map wFunc).sum from rfl)
  generalize hR : sub left (wL wFunc xs) = R at *
  have hR' := Hd.mk hR
  clear hR
  by_cases hlen : left < xs.length
  · have e := hR'.out
    rw [sub_lt _ _ (by have := hsum.out; omega)] at e
    subst e
    go_enter Tryz.func63, Tryz.ntmps63
    go_wp2
    go_ret
    exact ⟨rfl, Below.refl _ _⟩
  go_enter Tryz.func63, Tryz.ntmps63
  go_wp2
  go_loopw [1, 5] (fun s1 s5 wr => ∃ k : Nat, k ≤ xs.length ∧ s5 = .int .i64 k ∧ s1 = .int .i64 (left - (xs.length + ((xs.take k).map wFunc).sum : Nat)) ∧ Hd (((xs.length + ((xs.take k).map wFunc).sum : Nat) : Int) ≤ left) ∧ Hd (Below w.heap.size w wr)) (fun _ s5 _ => xs.length - (intOf s5).toNat)
  case atStart => exact ⟨0, Nat.zero_le _, rfl, by simp, ⟨by simp; omega⟩, ⟨Below.refl _ _⟩⟩
  case round =>
    obtain ⟨k, hk, rfl, rfl, hle, hbr⟩ := hrel
    by_cases hlt : k < xs.length
    · obtain ⟨b, off, cs, hA, hbl, ⟨v1, v2, rfl, r1, r2⟩, hat⟩ := hv0.out.in0 hbr.out k hlt
      cases hA
      have g0 := hat 0 _ rfl
      have g1 := hat 1 _ rfl
      have g2 := hat 2 _ rfl
      simp at g0 g1 g2
      clear hat
      have hsn := Hd.mk (wL_snoc wFunc xs k hlt)
      have hpl := Hd.mk (wL_le wFunc xs (k + 1))
      have hle' := hle.out
      generalize ((xs.take k).map wFunc).sum = s at *
      have hz := z_Func xs[k] _ (left - (xs.length + s : Nat)) wr ⟨v1, v2, rfl, r1.mv hbr.out, r2.mv hbr.out⟩ (by omega) (by omega)
      generalize wFunc xs[k] = q at *
      generalize hp : xs.length + s = p at *
      have hp' := Hd.mk hp
      clear hp
      rw [sub_add left p q hle'] at hz
      rcases sub_cases left (p + q) h0 with ⟨e, h⟩ | ⟨e, h, h'⟩
      · rw [e] at hz
        have e2 := hR'.out
        rw [sub_lt _ _ (by have := hsum.out; have := hsn.out; have := hpl.out; have := hp'.out; omega)] at e2
        subst e2
        clear e
        go_wp2_with fail
        refine hz.mono ?_; rintro e w1 ⟨rfl, hb1⟩
        go_wp2
        go_ret
        exact ⟨rfl, hbr.out.then hb1⟩
      · rw [e] at hz
        clear e
        go_wp2_with fail
        refine hz.mono ?_; rintro e w1 ⟨rfl, hb1⟩
        have hbz := Hd.mk (hbr.out.then hb1)
        clear hb1 hz
        go_wp2
        go_roundw
        case rel => exact ⟨k + 1, by omega, by go_num, by rw [hsn.out, ← Nat.add_assoc, hp'.out]; simp, ⟨by rw [hsn.out, ← Nat.add_assoc, hp'.out]; omega⟩, hbz⟩
        case measure => simp [intOf]; omega
    · have e : k = xs.length := by omega
      subst e
      rw [List.take_length] at hle
      have e2 := hR'.out
      rcases sub_cases left (wL wFunc xs) h0 with ⟨e, h⟩ | ⟨e, h, h'⟩
      · exfalso
        have := hsum.out
        have := hle.out
        omega
      · rw [e, hsum.out] at e2
        go_wp2
        go_ret
        exact ⟨by rw [List.take_length]; exact congrArg (fun z => Ending.returned (.int .i64 z)) e2, hbr.out⟩

def wMod (m : XMod) : Nat := wL wFunc m.funcs
set_option maxHeartbeats 1000000 in
theorem z_Mod (x : XMod) (cs : List Value) (left : Int) (w : World) (hk : KMod lw w x cs) (h0 : 0 ≤ left) (h1 : left ≤ 1048576) : Calls Tryz.prog 28 #[.agg cs.toArray, .int .i64 left] w (Ret (.int .i64 (sub left (wMod x))) w) := by
  obtain ⟨v1, rfl, r1⟩ := hk
  have hbl := fun o => (Below.refl w.heap.size w).al (Nat.le_refl _) o
  have z1 := fun W hW => z_FuncS v1 x.funcs left W (r1.mv hW) h0 h1
  unfold wMod
  generalize wL wFunc x.funcs = n1 at *
  rcases sub_cases left n1 h0 with ⟨e1, q1⟩ | ⟨e1, q1, q1'⟩
  all_goals
    rw [e1] at z1 ⊢
    clear e1
    go_enter Tryz.func28, Tryz.ntmps28
    go_wp2_with fail
    refine (z1 _ (hbl _)).mono ?_; rintro e w1 ⟨rfl, hb1⟩
    go_wp2
    go_ret
    exact ⟨rfl, (hbl _).then hb1⟩
end Go.Proofs.YtkcgejbnhpccdaaGreat
set_option linter.unusedSimpArgs false
set_option linter.unusedVariables false
namespace Go.Proofs.YtkcgejbnhpccdaaGreat
open Go.RowKit
set_option maxHeartbeats 4000000 in
set_option maxRecDepth 100000 in
theorem e_FuncS (v u : Value) (xs ys : List XFunc) (w : World) (hv : Rd lm 3 (KFunc lm) w v xs) (hu : Rd lm 3 (KFunc lm) w u ys) : Calls Tryz.prog 65 #[v, u] w (Ret (.bool (decide (xs = ys))) w) := by
  obtain ⟨A1, c1, rfl, -, hl1, hv0⟩ := hv.sm
  obtain ⟨A2, c2, rfl, -, hl2, hu0⟩ := hu.sm
  clear hv hu
  by_cases hlen : xs.length = ys.length
  rotate_left
  · rw [decide_eq_false (len_ne hlen)]
    have d : ((xs.length : Int) != (ys.length : Int)) = true := by simp; omega
    go_enter Tryz.func65, Tryz.ntmps65
    go_wp2
    go_ret
    exact ⟨rfl, Below.refl _ _⟩
  obtain ⟨n, hn⟩ : ∃ n, n = xs.length := ⟨_, rfl⟩
  have hn2 : n = ys.length := hn.trans hlen
  rw [← hn, ← hn2]
  rw [← hn] at hv0 hl1
  rw [← hn2] at hu0
  have hn' := Hd.mk hn
  have hn2' := Hd.mk hn2
  clear hn hn2 hlen hl2
  go_enter Tryz.func65, Tryz.ntmps65
  go_wp2
  go_loopw [5] (fun s5 wr => ∃ k : Nat, k ≤ n ∧ s5 = .int .i64 k ∧ Hd (xs.take k = ys.take k) ∧ Hd (Below w.heap.size w wr)) (fun s5 _ => n - (intOf s5).toNat)
  case atStart => exact ⟨0, Nat.zero_le _, rfl, ⟨by simp⟩, ⟨Below.refl _ _⟩⟩
  case round =>
    obtain ⟨k, hk, rfl, hall, hbr⟩ := hrel
    by_cases hlt : k < n
    · obtain ⟨b, off, cs, hA, hbl, ⟨v1, v2, rfl, r1, r2⟩, hat⟩ := hv0.out.in0 hbr.out k (by have := hn'.out; omega)
      cases hA
      have g0 := hat 0 _ rfl
      have g1 := hat 1 _ rfl
      have g2 := hat 2 _ rfl
      simp at g0 g1 g2
      clear hat
      obtain ⟨b2, off2, cs, hA, hbl2, ⟨u1, u2, rfl, s1, s2⟩, hat⟩ := hu0.out.in0 hbr.out k (by have := hn2'.out; omega)
      cases hA
      have f0 := hat 0 _ rfl
      have f1 := hat 1 _ rfl
      have f2 := hat 2 _ rfl
      simp at f0 f1 f2
      clear hat
      have hz : (k : Int) < (n : Int) := by omega
      have hz0 : (0 : Int) ≤ (k : Int) := by omega
      have hex0 := fun W (hW : Below wr.heap.size wr W) => e_Func (xs[k]'(by have := hn'.out; omega)) (ys[k]'(by have := hn2'.out; omega)) _ _ W ⟨v1, v2, rfl, r1.mv (hbr.out.then hW), r2.mv (hbr.out.then hW)⟩ ⟨u1, u2, rfl, s1.mv (hbr.out.then hW), s2.mv (hbr.out.then hW)⟩
      have hdr : Below wr.heap.size wr wr.drew := (Below.refl _ _).drew
      by_cases he : xs[k]'(by have := hn'.out; omega) = ys[k]'(by have := hn2'.out; omega)
      · have ht := Hd.mk (take_eq hall.out (by have := hn'.out; omega) (by have := hn2'.out; omega) he)
        simp only [decide_eq_true he] at hex0
        have hex := Hd.mk hex0
        clear he hex0
        generalize xs[k]'_ = x at *
        generalize ys[k]'_ = y at *
        go_wp2
        go_still_tail 8, (by kernel_rfl)
        change wpList _ _ _ _ _ wr.drew
        go_wp2_with fail
        refine (hex.out _ hdr).mono ?_; rintro e w1 ⟨rfl, hb1⟩
        have hbz := Hd.mk (hbr.out.then (hdr.then hb1))
        clear hb1 hex hdr
        go_wp2
        go_roundw
        case rel => exact ⟨k + 1, by omega, by go_num, ht, hbz⟩
        case measure => simp [intOf]; omega
      · have hne := Hd.mk (el_ne _ _ he)
        simp only [decide_eq_false he] at hex0
        have hex := Hd.mk hex0
        clear he hex0
        generalize xs[k]'_ = x at *
        generalize ys[k]'_ = y at *
        go_wp2
        go_still_tail 8, (by kernel_rfl)
        change wpList _ _ _ _ _ wr.drew
        go_wp2_with fail
        refine (hex.out _ hdr).mono ?_; rintro e w1 ⟨rfl, hb1⟩
        have hbz := Hd.mk (hbr.out.then (hdr.then hb1))
        clear hb1 hex hdr
        go_wp2
        go_ret
        exact ⟨by rw [decide_eq_false hne.out]; rfl, hbz.out⟩
    · have e : k = n := by omega
      subst e
      go_wp2
      go_ret
      exact ⟨by rw [decide_eq_true (take_all hall.out hn'.out hn2'.out)]; rfl, hbr.out⟩

set_option maxHeartbeats 1000000 in
theorem e_Mod (x y : XMod) (cs ds : List Value) (w : World) (hx : KMod lm w x cs) (hy : KMod lm w y ds) : Calls Tryz.prog 32 #[.agg cs.toArray, .agg ds.toArray] w (Ret (.bool (decide (x = y))) w) := by
  obtain ⟨v1, rfl, r1⟩ := hx
  obtain ⟨u1, rfl, s1⟩ := hy
  have hbl := fun o o' => ((Below.refl w.heap.size w).al (Nat.le_refl _) o).al (by simp) o'
  obtain ⟨xf⟩ := x
  obtain ⟨yf⟩ := y
  simp only at *
  have z1 := fun W hW => e_FuncS v1 u1 xf yf W (r1.mv hW) (s1.mv hW)
  by_cases h : xf = yf
  · rw [decide_eq_true (by rw [h])]
    simp only [decide_eq_true h] at z1
    clear h
    go_enter Tryz.func32, Tryz.ntmps32
    go_wp2_with fail
    refine (z1 _ (hbl _ _)).mono ?_; rintro e w1 ⟨rfl, hb1⟩
    go_wp2
    go_ret
    exact ⟨rfl, (hbl _ _).then hb1⟩
  · rw [decide_eq_false (by intro e; injection e; contradiction)]
    simp only [decide_eq_false h] at z1
    clear h
    go_enter Tryz.func32, Tryz.ntmps32
    go_wp2_with fail
    refine (z1 _ (hbl _ _)).mono ?_; rintro e w1 ⟨rfl, hb1⟩
    go_wp2
    go_ret
    exact ⟨rfl, (hbl _ _).then hb1⟩
end Go.Proofs.YtkcgejbnhpccdaaGreat
set_option linter.unusedSimpArgs false
set_option linter.unusedVariables false
namespace Go.Proofs.YtkcgejbnhpccdaaGreat
open Go.RowKit
theorem Chg.set {lo hi : Nat} {w W : World} {b o : Nat} {e : TypeId} {arr : Array Value} {i i' : Int} (hc : Chg lo hi w W) (h : w.heap[b]? = some (.cells arr e (0, 0))) (hb : lo ≤ b ∧ b < hi) (ho : arr[o]? = some (.int .i64 i)) : Chg lo hi w (W.setCell ⟨b, o, none⟩ (.int .i64 i')) := by
  obtain ⟨arr', h1, h2⟩ := hc.cell b arr e h
  obtain ⟨i2, h3⟩ : ∃ i, arr'[o]? = some (.int .i64 i) := by
    rcases h2 o _ ho with h3 | ⟨-, h3⟩
    · exact ⟨_, h3⟩
    · exact h3
  exact hc.trans (Chg.setCell h1 hb h3)
def mPhi (p : XPhi) : Nat := 1 + p.ins.length
def mInst (p : XInst) : Nat := 6 + p.args.length
def mBlock (b : XBlock) : Nat := (b.phis.map mPhi).sum + (b.insts.map mInst).sum + 4
def mFunc (f : XFunc) : Nat := f.params.length + (f.blocks.map mBlock).sum
def mL {α : Type} (f : α → Nat) (l : List α) : Nat := (l.map f).sum
theorem mL_snoc {α : Type} (f : α → Nat) (l : List α) (k : Nat) (h : k < l.length) : mL f (l.take (k + 1)) = mL f (l.take k) + f l[k] := wL_snoc f l k h
theorem mL_le {α : Type} (f : α → Nat) (l : List α) (k : Nat) : mL f (l.take k) ≤ mL f l := wL_le f l k
theorem mL_all {α : Type} (f : α → Nat) (l : List α) : mL f (l.take l.length) = mL f l := by rw [List.take_length]
set_option maxHeartbeats 4000000 in
theorem m_PhiS (lo hi : Nat) (v : Value) (xs : List XPhi) (k : Int) (w : World) (hv : SlPhi lo hi w v xs) (h0 : 0 ≤ k) (h1 : k + mL mPhi xs ≤ 1099511627776) :
    Calls Tryz.prog 124 #[v, .int .i64 k] w (RetC lo hi (k + mL mPhi xs) w) := by
  obtain ⟨A, c, rfl, -, hl, hv0⟩ := hv.sh
  clear hv
  have h1' := Hd.mk h1
  clear h1
  go_enter Tryz.func124, Tryz.ntmps124
  go_wp2
  go_loopw [1, 5] (fun s1 s5 wr => ∃ j : Nat, j ≤ xs.length ∧ s5 = .int .i64 j ∧ s1 = .int .i64 (k + mL mPhi (xs.take j)) ∧ Hd (Chg lo hi w wr)) (fun _ s5 _ => xs.length - (intOf s5).toNat)
  case atStart => exact ⟨0, Nat.zero_le _, rfl, by simp [mL], ⟨Chg.refl _ _ _⟩⟩
  case round =>
    obtain ⟨j, hj, rfl, rfl, hr⟩ := hrel
    by_cases hlt : j < xs.length
    · have hS := mL_snoc mPhi xs j hlt
      have hS2 := mL_le mPhi xs (j + 1)
      have h1 := h1'.out
      obtain ⟨q, hq⟩ : ∃ q : Int, q = k + (mL mPhi (xs.take j) : Nat) := ⟨_, rfl⟩
      rw [← hq]
      have hq0 : 0 ≤ q := by omega
      have hq1 : q + mPhi xs[j] ≤ 1099511627776 := by omega
      have hR := Hd.mk (show k + (mL mPhi (xs.take (j + 1)) : Nat) = q + mPhi xs[j] by omega)
      clear h1 hS hS2 hq
      generalize hx : xs[j] = x at *
      unfold mPhi at hq1
      obtain ⟨b, arr, e, cs, hA, hb1, hb2, hh, ⟨i0, v1, rfl, r1⟩, -, hat⟩ := (hv0.out.mv hr.out).at_ j hlt
      cases hA
      rw [hx] at r1
      obtain ⟨A1, c1, rfl, -, hl1, hr1⟩ := r1.sh
      clear r1
      obtain ⟨he, hf⟩ := row_facts hh
      have a0 := hat 0 _ rfl
      have a1 := hat 1 _ rfl
      simp at a0 a1
      have g0 := (he (j * 2)).trans a0
      have g1 := (he (j * 2 + 1)).trans a1
      have z0 := hf (j * 2)
      clear he hf hat
      have hh' := Hd.mk hh
      have b0 := Hd.mk a0
      clear hh hx a0 a1
      have y0 : IntKind.i64.wrap (q) = q := IntWalk.i64_in _ (by omega)
      have y1 : IntKind.i64.wrap (q + 1) = q + 1 := IntWalk.i64_in _ (by omega)
      go_wp2_with fail
      refine (m_S lo hi _ x.ins _ _ (hr1.out.mv (Chg.set (Chg.refl lo hi _) hh'.out ⟨hb1, hb2⟩ b0.out)) (by omega) (by omega)).mono ?_
      rintro e w1 ⟨rfl, hc1⟩
      go_wp2
      go_roundw
      case rel => exact ⟨j + 1, by omega, by go_num, by rw [hR.out]; unfold mPhi; congr 1; omega, ⟨hr.out.trans ((Chg.set (Chg.refl lo hi _) hh'.out ⟨hb1, hb2⟩ b0.out).trans hc1)⟩⟩
      case measure => simp [intOf]; omega
    · have e : j = xs.length := by omega
      subst e
      go_wp2
      go_ret
      exact ⟨by rw [mL_all]; rfl, hr.out⟩
set_option maxHeartbeats 4000000 in
theorem m_InstS (lo hi : Nat) (v : Value) (xs : List XInst) (k : Int) (w : World) (hv : SlInst lo hi w v xs) (h0 : 0 ≤ k) (h1 : k + mL mInst xs ≤ 1099511627776) :
    Calls Tryz.prog 125 #[v, .int .i64 k] w (RetC lo hi (k + mL mInst xs) w) := by
  obtain ⟨A, c, rfl, -, hl, hv0⟩ := hv.sh
  clear hv
  have h1' := Hd.mk h1
  clear h1
  go_enter Tryz.func125, Tryz.ntmps125
  go_wp2
  go_loopw [1, 5] (fun s1 s5 wr => ∃ j : Nat, j ≤ xs.length ∧ s5 = .int .i64 j ∧ s1 = .int .i64 (k + mL mInst (xs.take j)) ∧ Hd (Chg lo hi w wr)) (fun _ s5 _ => xs.length - (intOf s5).toNat)
  case atStart => exact ⟨0, Nat.zero_le _, rfl, by simp [mL], ⟨Chg.refl _ _ _⟩⟩
  case round =>
    obtain ⟨j, hj, rfl, rfl, hr⟩ := hrel
    by_cases hlt : j < xs.length
    · have hS := mL_snoc mInst xs j hlt
      have hS2 := mL_le mInst xs (j + 1)
      have h1 := h1'.out
      obtain ⟨q, hq⟩ : ∃ q : Int, q = k + (mL mInst (xs.take j) : Nat) := ⟨_, rfl⟩
      rw [← hq]
      have hq0 : 0 ≤ q := by omega
      have hq1 : q + mInst xs[j] ≤ 1099511627776 := by omega
      have hR := Hd.mk (show k + (mL mInst (xs.take (j + 1)) : Nat) = q + mInst xs[j] by omega)
      clear h1 hS hS2 hq
      generalize hx : xs[j] = x at *
      unfold mInst at hq1
      obtain ⟨b, arr, e, cs, hA, hb1, hb2, hh, ⟨i0, i1, i2, i3, i4, i5, v1, rfl, r1⟩, -, hat⟩ := (hv0.out.mv hr.out).at_ j hlt
      cases hA
      rw [hx] at r1
      obtain ⟨A1, c1, rfl, -, hl1, hr1⟩ := r1.sh
      clear r1
      obtain ⟨he, hf⟩ := row_facts hh
      have a0 := hat 0 _ rfl
      have a1 := hat 1 _ rfl
      have a2 := hat 2 _ rfl
      have a3 := hat 3 _ rfl
      have a4 := hat 4 _ rfl
      have a5 := hat 5 _ rfl
      have a6 := hat 6 _ rfl
      simp at a0 a1 a2 a3 a4 a5 a6
      have g0 := (he (j * 7)).trans a0
      have g1 := (he (j * 7 + 1)).trans a1
      have g2 := (he (j * 7 + 2)).trans a2
      have g3 := (he (j * 7 + 3)).trans a3
      have g4 := (he (j * 7 + 4)).trans a4
      have g5 := (he (j * 7 + 5)).trans a5
      have g6 := (he (j * 7 + 6)).trans a6
      have z0 := hf (j * 7)
      have z1 := hf (j * 7 + 1)
      have z2 := hf (j * 7 + 2)
      have z3 := hf (j * 7 + 3)
      have z4 := hf (j * 7 + 4)
      have z5 := hf (j * 7 + 5)
      clear he hf hat
      have hh' := Hd.mk hh
      have b0 := Hd.mk a0
      have b1 := Hd.mk a1
      have b2 := Hd.mk a2
      have b3 := Hd.mk a3
      have b4 := Hd.mk a4
      have b5 := Hd.mk a5
      clear hh hx a0 a1 a2 a3 a4 a5 a6
      have y0 : IntKind.i64.wrap (q) = q := IntWalk.i64_in _ (by omega)
      have y1 : IntKind.i64.wrap (q + 1) = q + 1 := IntWalk.i64_in _ (by omega)
      have y2 : IntKind.i64.wrap (q + 1 + 1) = q + 1 + 1 := IntWalk.i64_in _ (by omega)
      have y3 : IntKind.i64.wrap (q + 1 + 1 + 1) = q + 1 + 1 + 1 := IntWalk.i64_in _ (by omega)
      have y4 : IntKind.i64.wrap (q + 1 + 1 + 1 + 1) = q + 1 + 1 + 1 + 1 := IntWalk.i64_in _ (by omega)
      have y5 : IntKind.i64.wrap (q + 1 + 1 + 1 + 1 + 1) = q + 1 + 1 + 1 + 1 + 1 := IntWalk.i64_in _ (by omega)
      have y6 : IntKind.i64.wrap (q + 1 + 1 + 1 + 1 + 1 + 1) = q + 1 + 1 + 1 + 1 + 1 + 1 := IntWalk.i64_in _ (by omega)
      go_wp2_with fail
      refine (m_S lo hi _ x.args _ _ (hr1.out.mv (Chg.set (Chg.set (Chg.set (Chg.set (Chg.set (Chg.set (Chg.refl lo hi _) hh'.out ⟨hb1, hb2⟩ b0.out) hh'.out ⟨hb1, hb2⟩ b1.out) hh'.out ⟨hb1, hb2⟩ b2.out) hh'.out ⟨hb1, hb2⟩ b3.out) hh'.out ⟨hb1, hb2⟩ b4.out) hh'.out ⟨hb1, hb2⟩ b5.out)) (by omega) (by omega)).mono ?_
      rintro e w1 ⟨rfl, hc1⟩
      go_wp2
      go_roundw
      case rel => exact ⟨j + 1, by omega, by go_num, by rw [hR.out]; unfold mInst; congr 1; omega, ⟨hr.out.trans ((Chg.set (Chg.set (Chg.set (Chg.set (Chg.set (Chg.set (Chg.refl lo hi _) hh'.out ⟨hb1, hb2⟩ b0.out) hh'.out ⟨hb1, hb2⟩ b1.out) hh'.out ⟨hb1, hb2⟩ b2.out) hh'.out ⟨hb1, hb2⟩ b3.out) hh'.out ⟨hb1, hb2⟩ b4.out) hh'.out ⟨hb1, hb2⟩ b5.out).trans hc1)⟩⟩
      case measure => simp [intOf]; omega
    · have e : j = xs.length := by omega
      subst e
      go_wp2
      go_ret
      exact ⟨by rw [mL_all]; rfl, hr.out⟩
theorem Sl.hd {α : Type} {lo hi sz : Nat} {K : World → α → List Value → Prop} {w : World} {A : Option Addr} {n c : Nat} {xs : List α} (h : Sl lo hi sz K w (.slice A n c) xs) : n = xs.length := by
  obtain ⟨A', c', hv, _⟩ := h; cases hv; rfl
set_option maxHeartbeats 4000000 in
theorem m_BlockS (lo hi : Nat) (v : Value) (xs : List XBlock) (k : Int) (w : World) (hv : SlBlock lo hi w v xs) (h0 : 0 ≤ k) (h1 : k + mL mBlock xs ≤ 1099511627776) :
    Calls Tryz.prog 88 #[v, .int .i64 k] w (RetC lo hi (k + mL mBlock xs) w) := by
  obtain ⟨A, c, rfl, -, hl, hv0⟩ := hv.sh
  clear hv
  have h1' := Hd.mk h1
  clear h1
  go_enter Tryz.func88, Tryz.ntmps88
  go_wp2
  go_loopw [1, 5] (fun s1 s5 wr => ∃ j : Nat, j ≤ xs.length ∧ s5 = .int .i64 j ∧ s1 = .int .i64 (k + mL mBlock (xs.take j)) ∧ Hd (Chg lo hi w wr)) (fun _ s5 _ => xs.length - (intOf s5).toNat)
  case atStart => exact ⟨0, Nat.zero_le _, rfl, by simp [mL], ⟨Chg.refl _ _ _⟩⟩
  case round =>
    obtain ⟨j, hj, rfl, rfl, hr⟩ := hrel
    by_cases hlt : j < xs.length
    · have hS := mL_snoc mBlock xs j hlt
      have hS2 := mL_le mBlock xs (j + 1)
      have h1 := h1'.out
      obtain ⟨q, hq⟩ : ∃ q : Int, q = k + (mL mBlock (xs.take j) : Nat) := ⟨_, rfl⟩
      rw [← hq]
      have hq0 : 0 ≤ q := by omega
      have hq1 : q + mBlock xs[j] ≤ 1099511627776 := by omega
      have hR := Hd.mk (show k + (mL mBlock (xs.take (j + 1)) : Nat) = q + mBlock xs[j] by omega)
      clear h1 hS hS2 hq
      have hget := fun W (hW : Chg lo hi w W) => (hv0.out.mv hW).at_ j hlt
      generalize hx : xs[j] = x at *
      have hB := Hd.mk (show mBlock x = mL mPhi x.phis + mL mInst x.insts + 4 from rfl)
      have hq1' : q + (mL mPhi x.phis + mL mInst x.insts + 4 : Nat) ≤ 1099511627776 := by rw [← hB.out]; exact hq1
      clear hx hq1
      obtain ⟨b, arr, e, cs, hA, hb1, hb2, hh, ⟨v1, v2, i2, i3, i4, i5, rfl, r1, r2⟩, -, hat⟩ := hget wr hr.out
      cases hA
      obtain ⟨A1, c1, rfl, -, hl1, hr1⟩ := r1.sh
      obtain ⟨he, -⟩ := row_facts hh
      have a0 := hat 0 _ rfl
      simp at a0
      have g0 := (he (j * 6)).trans a0
      clear he hat hh a0 r1 r2
      go_wp2_with fail
      refine (m_PhiS lo hi _ x.phis _ _ hr1.out (by omega) (by omega)).mono ?_
      rintro e w1 ⟨rfl, hc1⟩
      obtain ⟨b', arr, e, cs, hA, -, -, hh, ⟨v1, v2, i2, i3, i4, i5, rfl, r1, r2⟩, -, hat⟩ := hget w1 (hr.out.trans hc1)
      cases hA
      obtain ⟨A2, c2, rfl, -, hl2, hr2⟩ := r2.sh
      obtain ⟨he, -⟩ := row_facts hh
      have a1 := hat 1 _ rfl
      have g1 := (he (j * 6 + 1)).trans a1
      clear he hat hh a1 r1 r2
      go_wp2_with fail
      refine (m_InstS lo hi _ x.insts _ _ hr2.out (by omega) (by omega)).mono ?_
      rintro e w2 ⟨rfl, hc2⟩
      obtain ⟨b', arr, e, cs, hA, -, -, hh, ⟨v1, v2, i2, i3, i4, i5, rfl, -, -⟩, -, hat⟩ := hget w2 ((hr.out.trans hc1).trans hc2)
      cases hA
      obtain ⟨he, hf⟩ := row_facts hh
      have a2 := hat 2 _ rfl
      have a3 := hat 3 _ rfl
      have a4 := hat 4 _ rfl
      have a5 := hat 5 _ rfl
      have k2 := (he (j * 6 + 2)).trans a2
      have k3 := (he (j * 6 + 3)).trans a3
      have k4 := (he (j * 6 + 4)).trans a4
      have k5 := (he (j * 6 + 5)).trans a5
      have z2 := hf (j * 6 + 2)
      have z3 := hf (j * 6 + 3)
      have z4 := hf (j * 6 + 4)
      have z5 := hf (j * 6 + 5)
      have hh' := Hd.mk hh
      have b2 := Hd.mk a2
      have b3 := Hd.mk a3
      have b4 := Hd.mk a4
      have b5 := Hd.mk a5
      clear he hf hat hh a2 a3 a4 a5
      obtain ⟨p, hp⟩ : ∃ p : Int, p = q + (mL mPhi x.phis : Nat) + (mL mInst x.insts : Nat) := ⟨_, rfl⟩
      rw [← hp]
      have hp0 : 0 ≤ p := by omega
      have hp1 : p + 4 ≤ 1099511627776 := by omega
      have hR2 := Hd.mk (show k + (mL mBlock (xs.take (j + 1)) : Nat) = p + 1 + 1 + 1 + 1 by rw [hR.out, hB.out, hp]; omega)
      clear hq1' hp hR
      have y0 : IntKind.i64.wrap p = p := IntWalk.i64_in _ (by omega)
      have y1 : IntKind.i64.wrap (p + 1) = p + 1 := IntWalk.i64_in _ (by omega)
      have y2 : IntKind.i64.wrap (p + 1 + 1) = p + 1 + 1 := IntWalk.i64_in _ (by omega)
      have y3 : IntKind.i64.wrap (p + 1 + 1 + 1) = p + 1 + 1 + 1 := IntWalk.i64_in _ (by omega)
      have y4 : IntKind.i64.wrap (p + 1 + 1 + 1 + 1) = p + 1 + 1 + 1 + 1 := IntWalk.i64_in _ (by omega)
      go_wp2
      go_roundw
      case rel => exact ⟨j + 1, by omega, by go_num, by rw [hR2.out], ⟨((hr.out.trans hc1).trans hc2).trans (Chg.set (Chg.set (Chg.set (Chg.set (Chg.refl lo hi _) hh'.out ⟨hb1, hb2⟩ b2.out) hh'.out ⟨hb1, hb2⟩ b3.out) hh'.out ⟨hb1, hb2⟩ b4.out) hh'.out ⟨hb1, hb2⟩ b5.out)⟩⟩
      case measure => simp [intOf]; omega
    · have e : j = xs.length := by omega
      subst e
      go_wp2
      go_ret
      exact ⟨by rw [mL_all]; rfl, hr.out⟩
theorem Chg.cellAt {lo hi : Nat} {w w' : World} (h : Chg lo hi w w') (b : Nat) (h1 : b < w.heap.size) (h2 : b < lo ∨ hi ≤ b) (o : Nat) : w'.cell? ⟨b, o, none⟩ = w.cell? ⟨b, o, none⟩ := by
  simp only [World.cell?, h.out b h1 h2]
theorem Chg.frozenAt {lo hi : Nat} {w w' : World} (h : Chg lo hi w w') (b : Nat) (h1 : b < w.heap.size) (h2 : b < lo ∨ hi ≤ b) (o : Nat) : w'.frozen? ⟨b, o, none⟩ = w.frozen? ⟨b, o, none⟩ := by
  simp only [World.frozen?, h.out b h1 h2]
end Go.Proofs.YtkcgejbnhpccdaaGreat
set_option linter.unusedSimpArgs false
set_option linter.unusedVariables false
namespace Go.Proofs.YtkcgejbnhpccdaaGreat
open Go.RowKit
abbrev OwFunc (lo : Nat) (w : World) (v : Value) (xs : List XFunc) : Prop := Own lo 35 3 (OFunc lo) w v xs
def OMod (lo : Nat) (w : World) (x : XMod) (cs : List Value) : Prop := ∃ v, cs = [v] ∧ OwFunc lo w v x.funcs
instance : KA OMod := ⟨fun ⟨v, h, r⟩ hb => ⟨v, h, r.abv hb⟩, fun ⟨v, h, r⟩ hl => ⟨v, h, r.low hl⟩⟩
theorem infoFunc : (Tryz.prog.info? 35).map (fun i => (i.zero, i.size, i.bytes)) = some (some (.agg #[.slice none 0 0, .int .i64 0, .slice none 0 0]), 3, 56) := by kernel_rfl
set_option maxHeartbeats 4000000 in
theorem t_FuncS (v : Value) (x : List XFunc) (w : World) (hv : Rd lm 3 (KFunc lm) w v x) : Calls Tryz.prog 64 #[v] w (RetL 35 3 OFunc x w) := by
  obtain ⟨A, c, rfl, -, hl, hv0⟩ := hv.sm
  clear hv
  have hmk := mk_run 36 35 (.agg #[.slice none 0 0, .int .i64 0, .slice none 0 0]) 3 56 x.length Tryz.underlying36 infoFunc (by omega) (by omega)
  go_enter Tryz.func64, Tryz.ntmps64
  go_wp2
  have hst := Hd.mk (mk_own w w.heap.size 35 3 x.length #[.slice none 0 0, .int .i64 0, .slice none 0 0] (Nat.le_refl _) (by unfold maxLen; omega))
  clear hmk
  generalize hmc : madeCells #[.slice none 0 0, .int .i64 0, .slice none 0 0] (x.length * 3) = mc at *
  clear hmc
  go_loopw [4] (fun s4 wr => ∃ k : Nat, ∃ cells, k ≤ x.length ∧ s4 = .int .i64 k ∧ Hd (wr.ownsRow w.heap.size 35 3 (.slice (some ⟨w.heap.size, 0, none⟩) x.length x.length) x.length cells) ∧ Hd (Els 3 (OFunc (w.heap.size + 1) wr) cells x k) ∧ Hd (Below w.heap.size w wr)) (fun s4 _ => x.length - (intOf s4).toNat)
  case atStart => exact ⟨0, _, Nat.zero_le _, rfl, hst, ⟨Els.nil _ _ _ _⟩, ⟨(Below.refl _ _).al (Nat.le_refl _) _⟩⟩
  case round =>
    clear hst
    obtain ⟨k, cells, hk, rfl, ho, hels, hbr⟩ := hrel
    by_cases hlt : k < x.length
    · obtain ⟨b, off, cs, hA, hbl, hkk, hat⟩ := hv0.out.in0 hbr.out k hlt
      cases hA
      have hsm := Hd.mk hbr.out.size
      have htc := fun W hW => t_Func x[k] cs W (KM.mv hkk (hbr.out.then hW))
      obtain ⟨vparams, vblocks, rfl, hparams, hblocks⟩ := hkk
      obtain ⟨Aparams, cparams, rfl, -, hlparams, -⟩ := hparams.sm
      obtain ⟨Ablocks, cblocks, rfl, -, hlblocks, -⟩ := hblocks.sm
      have g0 := hat 0 _ rfl
      have g1 := hat 1 _ rfl
      have g2 := hat 2 _ rfl
      simp at g0 g1 g2
      clear hat
      have hG := Hd.mk (own_lt ho.out)
      obtain ⟨u0, q0⟩ := own_cell ho.out (k * 3) (by omega)
      have z0 := World.ownsRow.frozenAt ho.out (k * 3)
      obtain ⟨u1, q1⟩ := own_cell ho.out (k * 3 + 1) (by omega)
      have z1 := World.ownsRow.frozenAt ho.out (k * 3 + 1)
      obtain ⟨u2, q2⟩ := own_cell ho.out (k * 3 + 2) (by omega)
      have z2 := World.ownsRow.frozenAt ho.out (k * 3 + 2)
      go_wp2_with fail
      refine (htc _ (Below.refl _ _)).mono ?_; rintro e w1 ⟨cs1, rfl, hcs, hb1⟩
      obtain ⟨nparams, nblocks, rfl, rparams, rblocks⟩ := hcs
      obtain ⟨Bparams, dparams, rfl, pparams⟩ := own_sw rparams
      clear rparams
      obtain ⟨Bblocks, dblocks, rfl, pblocks⟩ := own_sw rblocks
      clear rblocks
      replace q0 := (bat hb1 w.heap.size hG.out.2 (k * 3)).trans q0
      replace z0 := (fat hb1 w.heap.size hG.out.2 (k * 3)).trans z0
      replace q1 := (bat hb1 w.heap.size hG.out.2 (k * 3 + 1)).trans q1
      replace z1 := (fat hb1 w.heap.size hG.out.2 (k * 3 + 1)).trans z1
      replace q2 := (bat hb1 w.heap.size hG.out.2 (k * 3 + 2)).trans q2
      replace z2 := (fat hb1 w.heap.size hG.out.2 (k * 3 + 2)).trans z2
      go_wp2
      go_roundw
      case rel =>
        obtain ⟨cells', h1, h2, h3⟩ := rel_step [.slice Bparams x[k].params.length dparams, .int .i64 x[k].ret, .slice Bblocks x[k].blocks.length dblocks] ho.out hels.out (Nat.lt_succ_self _) (Nat.le_refl _) hbr.out hsm.out hb1 hlt rfl (KA.low (show OFunc wr.heap.size w1 x[k] _ from ⟨_, _, rfl, pparams.out, pblocks.out⟩) hG.out.2)
        exact ⟨k + 1, cells', by omega, by go_num, ⟨h1⟩, ⟨h2⟩, ⟨h3⟩⟩
      case measure => simp [intOf]; omega
    · have e : k = x.length := by omega
      subst e
      go_wp2
      go_ret
      exact ⟨_, rfl, ⟨cells, ho.out, hels.out.imp fun _ _ hh => KA.low hh (Nat.le_succ _)⟩, hbr.out⟩
set_option maxHeartbeats 4000000 in
theorem t_Mod (x : XMod) (cs : List Value) (w : World) (hx : KMod lm w x cs) : Calls Tryz.prog 29 #[.agg cs.toArray] w (RetX OMod x w) := by
  obtain ⟨vfuncs, rfl, hfuncs⟩ := hx
  have tcfuncs := fun W hW => t_FuncS vfuncs x.funcs W (hfuncs.mv hW)
  obtain ⟨Afuncs, cfuncs, rfl, -, hlfuncs, hr0⟩ := hfuncs.sm
  clear hfuncs hr0
  have hbl := fun o o' o'' => (((Below.refl w.heap.size w).al (Nat.le_refl _) o).al (by first | (simp; done) | (simp; omega)) o').al (by first | (simp; done) | (simp; omega)) o''
  go_enter Tryz.func29, Tryz.ntmps29
  go_wp2_with fail
  refine (tcfuncs _ (hbl _ _ _)).mono ?_; rintro e w1 ⟨v, rfl, ho, hb1⟩
  have hB1 := (hbl _ _ _).then hb1
  have k0_1 := bat hb1 w.heap.size (by first | (simp; done) | (simp; omega))
  have f0_1 := fat hb1 w.heap.size (by first | (simp; done) | (simp; omega))
  have k1_1 := bat hb1 (w.heap.size + 1) (by first | (simp; done) | (simp; omega))
  have f1_1 := fat hb1 (w.heap.size + 1) (by first | (simp; done) | (simp; omega))
  have k2_1 := bat hb1 (w.heap.size + 2) (by first | (simp; done) | (simp; omega))
  have f2_1 := fat hb1 (w.heap.size + 2) (by first | (simp; done) | (simp; omega))
  have hz1 := hb1.size
  simp at k0_1 f0_1 k1_1 f1_1 k2_1 f2_1 hz1
  obtain ⟨Bfuncs, dfuncs, rfl, pfuncs⟩ := own_sw ho
  clear ho
  go_wp2
  refine bodyPost_ret (v := .agg #[.slice Bfuncs x.funcs.length dfuncs]) (by simp [results, Tryz.results29, go_sem, k1_1]) rfl ⟨_, rfl, ⟨_, rfl, (Own.abv pfuncs.out ?pfuncs).low (by first | (simp; done) | (simp; omega))⟩, ?h2⟩
  case pfuncs =>
    repeat (refine Abv.setCell ?_ (by first | (simp; done) | (simp; omega)) _)
    exact Abv.refl _ _
  case h2 =>
    repeat (refine Below.setCell ?_ (by first | (simp; done) | (simp; omega)) _)
    exact hB1
end Go.Proofs.YtkcgejbnhpccdaaGreat
set_option linter.unusedSimpArgs false
set_option linter.unusedVariables false
namespace Go.Proofs.YtkcgejbnhpccdaaGreat
open Go.RowKit
theorem cs3 {cs : List Value} {a b c : Value} (h : cs.length = 3) (h0 : cs[0]? = some a) (h1 : cs[1]? = some b) (h2 : cs[2]? = some c) : cs = [a, b, c] := by
  match cs, h with
  | [x1, x2, x3], _ => simp at h0 h1 h2; rw [h0, h1, h2]
instance {lo hi : Nat} : KC (SFunc lo hi) := ⟨fun ⟨v, a, v', h, r, s⟩ hch hl hc => by
  subst h
  obtain ⟨i1, h1⟩ := int1 (hc 1 _ rfl) ⟨_, rfl⟩
  exact ⟨v, i1, v', cs3 hl (fix1 (hc 0 _ rfl) r.ne) h1 (fix1 (hc 2 _ rfl) s.ne), r.mv hch, s.mv hch⟩⟩
abbrev SlFunc (lo hi : Nat) := Sl lo hi 3 (SFunc lo hi)
def mFuncE (f : XFunc) : Nat := f.params.length + mL mBlock f.blocks + 1
def SMod (lo hi : Nat) (w : World) (x : XMod) (cs : List Value) : Prop := ∃ v, cs = [v] ∧ SlFunc lo hi w v x.funcs
theorem so_mod {lo : Nat} {w : World} {p : XMod} {cs : List Value} (h : OMod lo w p cs) (hw : wL wFunc p.funcs ≤ lm) : SMod lo w.heap.size w p cs := by
  obtain ⟨v, rfl, hr⟩ := h
  exact ⟨v, rfl, Own.sl hr (by unfold wL at hw; omega) fun x hx _ hk => so_func hk (Nat.le_trans (wL_mem _ _ _ hx) hw)⟩
set_option maxHeartbeats 4000000 in
theorem m_FuncS (lo hi : Nat) (v : Value) (xs : List XFunc) (k : Int) (w : World) (hv : SlFunc lo hi w v xs) (h0 : 0 ≤ k) (h1 : k + mL mFuncE xs ≤ 1099511627776) :
    Calls Tryz.prog 66 #[v, .int .i64 k] w (RetC lo hi (k + mL mFuncE xs) w) := by
  obtain ⟨A, c, rfl, -, hl, hv0⟩ := hv.sh
  clear hv
  have h1' := Hd.mk h1
  clear h1
  go_enter Tryz.func66, Tryz.ntmps66
  go_wp2
  go_loopw [1, 5] (fun s1 s5 wr => ∃ j : Nat, j ≤ xs.length ∧ s5 = .int .i64 j ∧ s1 = .int .i64 (k + mL mFuncE (xs.take j)) ∧ Hd (Chg lo hi w wr)) (fun _ s5 _ => xs.length - (intOf s5).toNat)
  case atStart => exact ⟨0, Nat.zero_le _, rfl, by simp [mL], ⟨Chg.refl _ _ _⟩⟩
  case round =>
    obtain ⟨j, hj, rfl, rfl, hr⟩ := hrel
    by_cases hlt : j < xs.length
    · have hS := mL_snoc mFuncE xs j hlt
      have hS2 := mL_le mFuncE xs (j + 1)
      have h1 := h1'.out
      obtain ⟨q, hq⟩ : ∃ q : Int, q = k + (mL mFuncE (xs.take j) : Nat) := ⟨_, rfl⟩
      rw [← hq]
      have hq0 : 0 ≤ q := by omega
      have hq1 : q + mFuncE xs[j] ≤ 1099511627776 := by omega
      have hR := Hd.mk (show k + (mL mFuncE (xs.take (j + 1)) : Nat) = q + mFuncE xs[j] by omega)
      clear h1 hS hS2 hq
      have hget := fun W (hW : Chg lo hi w W) => (hv0.out.mv hW).at_ j hlt
      generalize hx : xs[j] = x at *
      have hB := Hd.mk (show mFuncE x = x.params.length + mL mBlock x.blocks + 1 from rfl)
      have hq1' : q + (x.params.length + mL mBlock x.blocks + 1 : Nat) ≤ 1099511627776 := by rw [← hB.out]; exact hq1
      clear hx hq1
      obtain ⟨b, arr, e, cs, hA, hb1, hb2, hh, ⟨v1, i1, v2, rfl, r1, r2⟩, -, hat⟩ := hget wr hr.out
      cases hA
      obtain ⟨A1, c1, rfl, -, hl1, hr1⟩ := r1.sh
      obtain ⟨he, -⟩ := row_facts hh
      have a0 := hat 0 _ rfl
      simp at a0
      have g0 := (he (j * 3)).trans a0
      clear he hat hh a0 r1 r2
      go_wp2_with fail
      refine (m_S lo hi _ x.params _ _ hr1.out (by omega) (by omega)).mono ?_
      rintro e w1 ⟨rfl, hc1⟩
      obtain ⟨b', arr, e, cs, hA, -, -, hh, ⟨v1, i1, v2, rfl, r1, r2⟩, -, hat⟩ := hget w1 (hr.out.trans hc1)
      cases hA
      obtain ⟨A2, c2, rfl, -, hl2, hr2⟩ := r2.sh
      obtain ⟨he, hf⟩ := row_facts hh
      have a1 := hat 1 _ rfl
      have a2 := hat 2 _ rfl
      have k1 := (he (j * 3 + 1)).trans a1
      have k2 := (he (j * 3 + 2)).trans a2
      have z1 := hf (j * 3 + 1)
      have b1 := Hd.mk a1
      have hh' := Hd.mk hh
      have hcs : Hd (Chg lo hi w1 (w1.setCell ⟨b, j * 3 + 1, none⟩ (.int .i64 (q + x.params.length)))) := ⟨Chg.set (Chg.refl lo hi _) hh'.out ⟨hb1, hb2⟩ b1.out⟩
      have y0 : IntKind.i64.wrap (q + (x.params.length : Int)) = q + (x.params.length : Int) := IntWalk.i64_in _ (by omega)
      have y1 : IntKind.i64.wrap (q + (x.params.length : Int) + 1) = q + (x.params.length : Int) + 1 := IntWalk.i64_in _ (by omega)
      clear he hf hat hh a1 a2 r1 r2
      go_wp2_with fail
      refine (m_BlockS lo hi _ x.blocks _ _ (hr2.out.mv hcs.out) (by omega) (by omega)).mono ?_
      rintro e w2 ⟨rfl, hc2⟩
      have hR2 := Hd.mk (show k + (mL mFuncE (xs.take (j + 1)) : Nat) = q + (x.params.length : Int) + 1 + (mL mBlock x.blocks : Nat) by rw [hR.out, hB.out]; omega)
      have hfin := Hd.mk (((hr.out.trans hc1).trans hcs.out).trans hc2)
      clear hget hq1' k1 k2 g0 y0 y1
      go_wp2
      go_roundw
      case rel => exact ⟨j + 1, by omega, by go_num, by rw [hR2.out], hfin⟩
      case measure => simp [intOf]; omega
    · have e : j = xs.length := by omega
      subst e
      go_wp2
      go_ret
      exact ⟨by rw [mL_all]; rfl, hr.out⟩
def mMod (x : XMod) : Nat := mL mFuncE x.funcs
set_option maxHeartbeats 4000000 in
theorem m_Mod (lo hi : Nat) (x : XMod) (cs : List Value) (k : Int) (w : World) (hz : hi ≤ w.heap.size) (hlo : lo ≤ w.heap.size) (hx : SMod lo hi w x cs) (h0 : 0 ≤ k) (h1 : k + mMod x ≤ 1099511627776) :
    Calls Tryz.prog 34 #[.agg cs.toArray, .int .i64 k] w (RetC lo hi (k + mMod x) w) := by
  obtain ⟨v1, rfl, r1⟩ := hx
  unfold mMod at *
  have hc0 := fun o => (Chg.refl lo hi w).alloc hlo o
  have tm1 := fun W (hW : Chg lo hi w W) => m_FuncS lo hi v1 x.funcs k W (r1.mv hW) h0 h1
  obtain ⟨A1, c1, rfl, -, hl1, -⟩ := r1.sh
  generalize mL mFuncE x.funcs = q at *
  clear r1
  go_enter Tryz.func34, Tryz.ntmps34
  go_wp2_with fail
  refine (tm1 _ (hc0 _)).mono ?_; rintro e w1 ⟨rfl, hc1⟩
  go_wp2
  go_ret
  exact ⟨rfl, (hc0 _).trans hc1⟩
end Go.Proofs.YtkcgejbnhpccdaaGreat
set_option linter.unusedSimpArgs false
set_option linter.unusedVariables false
namespace Go.Proofs.YtkcgejbnhpccdaaGreat
open Go.RowKit
def argsOk (ws xs : List Int) : Bool := ws.length == xs.length && (ws.zip xs).all fun p => isVal p.1 p.2
set_option maxHeartbeats 1000000 in
theorem c_EqualFunc (v u : Value) (ws xs : List Int) (w : World) (hv : RI lm w v ws) (hu : RI lm w u xs) : Calls Tryz.prog 91 #[v, u, .func (.func 92) #[] #[]] w (Ret (.bool (argsOk ws xs)) w) := by
  obtain ⟨A1, c1, rfl, -, l1, r1'⟩ := hv.sm
  obtain ⟨A2, c2, rfl, -, l2, r2'⟩ := hu.sm
  have eg := enters_of Tryz.func92 (by kernel_rfl) rfl
  clear hv hu
  by_cases hl : ws.length = xs.length
  rotate_left
  · have d : ((ws.length : Int) != (xs.length : Int)) = true := by simp; omega
    have hR : argsOk ws xs = false := by
      have : (ws.length == xs.length) = false := by simpa using hl
      unfold argsOk; rw [this]; rfl
    rw [hR]
    clear hR eg
    go_enter Tryz.func91, Tryz.ntmps91
    go_wp2
    go_ret
    exact ⟨rfl, Below.refl _ _⟩
  have d : ((ws.length : Int) != (xs.length : Int)) = false := by simp; omega
  have hm : Hd (argsOk ws xs = (((ws.zip xs).drop 0).all fun p => isVal p.1 p.2)) := ⟨by
    have : (ws.length == xs.length) = true := by simpa using hl
    unfold argsOk; rw [this, List.drop_zero, Bool.true_and]⟩
  generalize argsOk ws xs = R at *
  rw [← hl] at r2' l2 d ⊢
  have hl' := Hd.mk hl
  clear hl
  go_enter Tryz.func91, Tryz.ntmps91
  go_wp2
  go_loopw [17] (fun s17 wr => ∃ k : Nat, k ≤ ws.length ∧ s17 = .int .i64 k ∧ Hd (R = (((ws.zip xs).drop k).all fun p => isVal p.1 p.2)) ∧ wr = w) (fun s17 _ => ws.length - (intOf s17).toNat)
  case atStart => exact ⟨0, Nat.zero_le _, rfl, hm, rfl⟩
  case round =>
    clear hm
    obtain ⟨k, hk, rfl, hm, rfl⟩ := hrel
    by_cases hlt : k < ws.length
    · obtain ⟨b, off, cs, hA, hbl, hk1, hat⟩ := r1'.out.in0 (Below.refl _ _) k hlt
      cases hA
      cases hk1
      have g0 := hat 0 _ rfl
      simp at g0
      clear hat
      obtain ⟨b2, off2, cs, hA, hbl2, hk1, hat⟩ := r2'.out.in0 (Below.refl _ _) k (by have := hl'.out; omega)
      cases hA
      cases hk1
      have g1 := hat 0 _ rfl
      simp at g1
      clear hat
      rw [all_drop _ _ _ (by have := hl'.out; simp; omega)] at hm
      simp only [List.getElem_zip] at hm
      have hv := c_isValue ws[k] (xs[k]'(by have := hl'.out; omega)) wr
      generalize ws[k] = a at *
      generalize xs[k]'(by have := hl'.out; omega) = c at *
      have hlt2 : (k : Int) < (ws.length : Int) := by omega
      cases hq : isVal a c
      · rw [hq] at hv
        replace hm := Hd.mk (show R = false by rw [hm.out, hq]; rfl)
        clear hq
        go_wp2_with fail
        refine hv.mono ?_; rintro e w' ⟨rfl, rfl⟩
        go_wp2
        go_ret
        exact ⟨by rw [hm.out]; rfl, Below.refl _ _⟩
      · rw [hq] at hv
        rw [hq, Bool.true_and] at hm
        clear hq
        go_wp2_with fail
        refine hv.mono ?_; rintro e w' ⟨rfl, rfl⟩
        go_wp2
        go_roundw
        case rel => exact ⟨k + 1, by omega, by go_num, hm, by trivial⟩
        case measure => simp [intOf]; omega
    · have e : k = ws.length := by omega
      subst e
      replace hm := Hd.mk (show R = true by rw [hm.out, List.drop_eq_nil_of_le (by have := hl'.out; simp; omega)]; rfl)
      go_wp2
      go_ret
      exact ⟨by rw [hm.out]; rfl, Below.refl _ _⟩
theorem c_areArgs (v u : Value) (ws xs : List Int) (w : World) (hv : RI lm w v ws) (hu : RI lm w u xs) : Calls Tryz.prog 72 #[v, u] w (Ret (.bool (argsOk ws xs)) w) := by
  have h := c_EqualFunc v u ws xs w hv hu
  clear hv hu
  go_enter Tryz.func72, Tryz.ntmps72
  go_wp2_with fail
  refine h.mono ?_; rintro e w1 ⟨rfl, hb1⟩
  go_wp2
  go_ret
  exact ⟨rfl, hb1⟩
set_option maxHeartbeats 1000000 in
theorem s_l7Args (v u v3 : Value) (ret : Int) (ws xs : List Int) (w : World) (hv : RI lm w v ws) (hu : RI lm w u xs) : Calls Tryz.prog 48 #[.agg #[v, .int .i64 ret, v3], u] w (Ret (.bool (argsOk ws xs)) w) := by
  obtain ⟨A1, c1, rfl, -, l1, r1'⟩ := hv.sm
  obtain ⟨A2, c2, rfl, -, l2, r2'⟩ := hu.sm
  clear hv hu
  have hbl := fun o => (Below.refl w.heap.size w).al (Nat.le_refl _) o
  by_cases hl : ws.length = xs.length
  rotate_left
  · have d : ((xs.length : Int) != (ws.length : Int)) = true := by simp; omega
    have hR : argsOk ws xs = false := by
      have : (ws.length == xs.length) = false := by simpa using hl
      unfold argsOk; rw [this]; rfl
    rw [hR]
    clear hR
    go_enter Tryz.func48, Tryz.ntmps48
    go_wp2
    go_ret
    exact ⟨rfl, by first | exact Below.refl _ _ | exact hbl _⟩
  have d : ((xs.length : Int) != (ws.length : Int)) = false := by simp; omega
  have hm : Hd (argsOk ws xs = (((ws.zip xs).drop 0).all fun p => isVal p.1 p.2)) := ⟨by
    have : (ws.length == xs.length) = true := by simpa using hl
    unfold argsOk; rw [this, List.drop_zero, Bool.true_and]⟩
  generalize argsOk ws xs = R at *
  rw [← hl] at r2' l2 d ⊢
  have hl' := Hd.mk hl
  clear hl
  go_enter Tryz.func48, Tryz.ntmps48
  go_wp2
  have hW0 : ∃ W0 : World, Below w.heap.size w W0 ∧ W0.cell? ⟨w.heap.size, 0, none⟩ = some (.slice A1 ws.length c1) ∧ w.heap.size < W0.heap.size ∧ W0 = w.alloc (.cells #[.slice A1 ws.length c1, .int .i64 ret, v3] 35) := ⟨_, hbl _, by simp, by simp, rfl⟩
  obtain ⟨W0, hb0, k0, hz0, hW0⟩ := hW0
  rw [← hW0]
  have hb0' := Hd.mk hb0
  have k0' := Hd.mk k0
  clear hW0 hb0 k0 hbl
  go_loopw [5] (fun s5 wr => ∃ k : Nat, k ≤ ws.length ∧ s5 = .int .i64 k ∧ Hd (R = (((ws.zip xs).drop k).all fun p => isVal p.1 p.2)) ∧ Hd (Below W0.heap.size W0 wr)) (fun s5 _ => ws.length - (intOf s5).toNat)
  case atStart => exact ⟨0, Nat.zero_le _, rfl, hm, ⟨Below.refl _ _⟩⟩
  case round =>
    clear hm
    obtain ⟨k, hk, rfl, hm, hbr⟩ := hrel
    have a0 := (bat hbr.out w.heap.size (by omega) 0).trans k0'.out
    by_cases hlt : k < ws.length
    · obtain ⟨b, off, cs, hA, hbl, hk1, hat⟩ := r1'.out.in0 (hb0'.out.then hbr.out) k hlt
      cases hA
      cases hk1
      have g0 := hat 0 _ rfl
      simp at g0
      clear hat
      obtain ⟨b2, off2, cs, hA, hbl2, hk1, hat⟩ := r2'.out.in0 (hb0'.out.then hbr.out) k (by have := hl'.out; omega)
      cases hA
      cases hk1
      have g1 := hat 0 _ rfl
      simp at g1
      clear hat
      rw [all_drop _ _ _ (by have := hl'.out; simp; omega)] at hm
      simp only [List.getElem_zip] at hm
      have hv := fun W => s_l1Value ws[k] (xs[k]'(by have := hl'.out; omega)) W
      generalize ws[k] = a at *
      generalize xs[k]'(by have := hl'.out; omega) = c at *
      have hlt2 : (k : Int) < (ws.length : Int) := by omega
      have hlt3 : (k : Int) < (ws.length : Int) := by omega
      have y0 : (0 : Int) ≤ (k : Int) := by omega
      cases hq : isVal a c
      · rw [hq] at hv
        replace hm := Hd.mk (show R = false by rw [hm.out, hq]; rfl)
        clear hq
        go_wp2
        go_quiet ((go_at_call 76; exact quietS (hv _)))
        go_wp2
        go_ret
        exact ⟨by rw [hm.out]; rfl, drewN_below (hb0'.out.then hbr.out) _⟩
      · rw [hq] at hv
        rw [hq, Bool.true_and] at hm
        clear hq
        go_wp2
        go_quiet ((go_at_call 76; exact quietS (hv _)))
        go_wp2
        go_roundw
        case rel => exact ⟨k + 1, by omega, by go_num, hm, ⟨drewN_below hbr.out _⟩⟩
        case measure => simp [intOf]; omega
    · have e : k = ws.length := by omega
      subst e
      replace hm := Hd.mk (show R = true by rw [hm.out, List.drop_eq_nil_of_le (by have := hl'.out; simp; omega)]; rfl)
      go_wp2
      go_ret
      exact ⟨by rw [hm.out]; rfl, hb0'.out.then hbr.out⟩
theorem args_rng {ws xs : List Int} (h : argsOk ws xs = true) : ws.length = xs.length ∧ ∀ x ∈ xs, 0 ≤ x ∧ x ≤ 4294967295 := by
  unfold argsOk at h
  simp only [Bool.and_eq_true, beq_iff_eq, List.all_eq_true] at h
  obtain ⟨hl, h⟩ := h
  refine ⟨hl, fun x hx => ?_⟩
  obtain ⟨i, hi, rfl⟩ := List.getElem_of_mem hx
  have hm : (ws[i]'(by omega), xs[i]) ∈ ws.zip xs := by
    have : (ws.zip xs)[i]'(by simp; omega) = (ws[i]'(by omega), xs[i]) := List.getElem_zip ..
    rw [← this]; exact List.getElem_mem _
  obtain ⟨v1, v2, -⟩ := val_rng (h _ hm)
  exact ⟨v1, v2⟩
end Go.Proofs.YtkcgejbnhpccdaaGreat
