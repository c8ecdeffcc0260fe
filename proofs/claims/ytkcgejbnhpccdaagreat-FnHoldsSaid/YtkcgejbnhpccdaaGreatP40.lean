import Derived.Test.YtkcgejbnhpccdaaGreatP39
import Derived.StillTailTactics
import Derived.Test.YtkcgejbnhpccdaaGreatP10
set_option linter.unusedSimpArgs false
set_option linter.unusedVariables false
namespace Go.Proofs.YtkcgejbnhpccdaaGreat
open Go.RowKit
def blkCells (D : GD) : List Value := [D.vPh, D.vIn, .int .i64 D.tm.kind, .int .i64 D.tm.a, .int .i64 D.tm.x, .int .i64 D.tm.y]
def closed (D : GD) (v' : Value) : GD := {D with vB := v', nB := D.nB + 1, cB := D.cB ++ blkCells D, vPh := .slice none 0 0, nPh := 0, cPh := [], vIn := .slice none 0 0, nIn := 0, cIn := [], tm := ⟨0, 0, 0, 0⟩}
theorem nil_own (W : World) (base e sz : Nat) : W.ownsRow base e sz (.slice none 0 0) 0 [] := ⟨by simp, .inl ⟨rfl, rfl⟩⟩
theorem GS.close {C : GC} {D : GD} {W W2 W3 : World} (h : GS C D W) (v' : Value) (hg : W.grownBy W2 D.vB.ownBlock) (ho : W2.ownsRow C.fl 32 6 v' (D.nB + 1) (D.cB ++ blkCells D)) (hv : v'.ownBlock = D.vB.ownBlock ∨ v'.ownBlock = some W.heap.size)
    (hs : Fr (fun q => q = C.gg) W2 W3) (hc : W3.heap[C.gg]? = some (.cells (GD.cells (closed D v') C).toArray 141 (0, 0))) (hn : D.nB + 1 ≤ 100) : GP C D (closed D v') W W3 ∧ Fr (fun q => q = C.gg ∨ D.vB.ownBlock = some q) W W3 := by
  have hF := fr_row hg hs
  have hsub : ∀ b, GE C (closed D v') b → GE C D b ∨ W.heap.size ≤ b := by
    intro b hb
    simp only [GE, closed] at hb ⊢
    rcases hv with hv | hv
    · rw [hv] at hb
      rcases hb with e | e | e | e | e | e | e
      all_goals first
        | (cases e; done)
        | exact .inl (by simp [e])
    · rw [hv] at hb
      rcases hb with e | e | e | e | e | e | e
      all_goals first
        | (cases e; done)
        | (injection e with e; exact .inr (by omega))
        | exact .inl (by simp [e])
  have hsubk : ∀ b, GK C (closed D v') b → GK C D b ∨ W.heap.size ≤ b := by
    intro b hb
    simp only [GK, closed] at hb ⊢
    rcases hv with hv | hv
    · rw [hv] at hb
      rcases hb with e | e | e | e | e | e
      all_goals first
        | (cases e; done)
        | exact .inl (by simp [e])
    · rw [hv] at hb
      rcases hb with e | e | e | e | e | e
      all_goals first
        | (cases e; done)
        | (injection e with e; exact .inr (by omega))
        | exact .inl (by simp [e])
  have hfk : Fr (GK C D) W W3 := hF.sub (by rintro q (rfl | e) <;> simp [GK, *])
  have hf : Fr (GE C D) W W3 := hF.sub (by rintro q (rfl | e) <;> simp [GE, *])
  have hG : Fr (GA C) W W3 := hfk.sub (GK.ga h)
  have hrow := h.out h.oB (by decide) (by decide)
  have hrg : C.gr ≠ C.gg := by have := h.hgr; have := h.hgg; omega
  have no := fun {base e sz n : Nat} {v : Value} {cs : List Value} (ho : W.ownsRow base e sz v n cs) (h1 : e ≠ 141) (h2 : e ≠ 112) (h3 : ∀ k, v.ownBlock = some k → D.vB.ownBlock ≠ some k) => own_fr ho hF (fun k hk => by
    have := h.out ho h1 h2 k hk
    rintro (e | e)
    · exact this.1 e
    · exact h3 k hk e)
  have hrs : RdS C.lo W3 C.gr := by
    have hb : W3.heap[C.gr]? = W.heap[C.gr]? := hF.block _ h.rs.lt (by rintro (e | e); exact hrg e; exact (hrow _ e).2 rfl)
    obtain ⟨h1, A, n, c, p, h2, h3, h4, h5⟩ := h.rs
    refine ⟨h1, A, n, c, p, hb.trans h2, h3, h4, fun i hi => ?_⟩
    obtain ⟨b, off, q, k1, k2, k3, k4, k5⟩ := h5 i hi
    refine ⟨b, off, q, k1, k2, k3, k4, ?_⟩
    rw [← k5]
    have hbl : b < W.heap.size := by
      unfold World.cell? at k5
      split at k5
      · rename_i hh; exact (Array.getElem?_eq_some_iff.1 hh).1
      · cases k5
    refine World.cell?_of_block (hF.block b hbl ?_)
    rintro (e | e)
    · have := h.hgr; have := h.hgg; omega
    · have := own_block_ge h.oB b e; have := h.hgr; omega
  have hoB : W3.ownsRow C.fl 32 6 v' (D.nB + 1) (D.cB ++ blkCells D) := own_fr ho hs (fun k hk => by
    rcases hv with hv | hv
    · rw [hv] at hk; exact (hrow k hk).1
    · rw [hv] at hk; injection hk with hk
      have := (Array.getElem?_eq_some_iff.1 h.cell).1
      omega)
  have hnb : ∀ {e sz n : Nat} {v : Value} {cs : List Value}, W.ownsRow C.fl e sz v n cs → e ≠ 141 → e ≠ 112 → e ≠ 32 → e ≠ 2 → (∀ k, v.ownBlock = some k → ¬ D.ex k) → ∀ k, v.ownBlock = some k → ¬ GE C (closed D v') k := by
    intro e sz n v cs hr h1 h2 h3 h4 h5 k hk hge
    have hx := h.out hr h1 h2 k hk
    have hlt := (own_blk hr k hk).1
    simp only [GE, closed] at hge
    rcases hge with e' | e' | e' | e' | e' | e' | e'
    · have := own_block_ge hr k hk; omega
    · exact hx.1 e'
    · exact own_two hr h.oP h4 k hk e'
    · rcases hv with hv | hv
      · rw [hv] at e'; exact own_two hr h.oB h3 k hk e'
      · rw [hv] at e'; injection e' with e'; omega
    · cases e'
    · cases e'
    · exact h5 k hk e'
  have hoP3 := no h.oPh (by decide) (by decide) (own_two h.oPh h.oB (by decide))
  have hoI3 := no h.oIn (by decide) (by decide) (own_two h.oIn h.oB (by decide))
  have hph := Elt.rd (K := KPhi lm) (P := fun _ => True) hoP3 (h.ePh.go hf hsub) (hnb h.oPh (by decide) (by decide) (by decide) (by decide) (fun k hk he => (h.hex k he).2.2.2.2.2.1 hk)) (by decide) (Nat.le_trans h.n3 (by decide))
  have hin := Elt.rd (K := KInst lm) (P := fun _ => True) hoI3 (h.eIn.go hf hsub) (hnb h.oIn (by decide) (by decide) (by decide) (by decide) (fun k hk he => (h.hex k he).2.2.2.2.2.2 hk)) (by decide) (Nat.le_trans h.n2 (by decide))
  have hqb : Bx (GE C (closed D v')) (QBlock (blkCells D)) W3 := fun w hw => by
    obtain ⟨ps, p1, -, p2⟩ := hph w hw
    obtain ⟨is, i1, -, i2⟩ := hin w hw
    exact ⟨⟨ps, is, D.tm⟩, ⟨by rw [p1]; exact h.n3, by rw [i1]; exact h.n2⟩, D.vPh, D.vIn, rfl, p2, i2⟩
  exact ⟨⟨⟨hc, hrs, h.hgr, h.hgg, no h.oP (by decide) (by decide) (own_two h.oP h.oB (by decide)), hoB, nil_own _ _ _ _, nil_own _ _ _ _,
    (h.eB.go hf hsub).app h.oB.1 _ rfl hqb, Elt.nil, Elt.nil, h.eI.go hf hsub, h.eW.go hf hsub, h.eR.go hG fun _ e => .inl e, h.eA.go hG fun _ e => .inl e, h.wP, h.lP, h.wR, h.n0, h.n1, Nat.zero_le _, Nat.zero_le _, h.n4, hn, h.n6, h.wA, h.nA, fun b e => ⟨(h.hex b e).1, Nat.lt_of_lt_of_le (h.hex b e).2.1 hF.size, (h.hex b e).2.2.1, (h.hex b e).2.2.2.1, (fun e' => by
    rcases hv with hv | hv
    · exact (h.hex b e).2.2.2.2.1 (by rw [← hv]; exact e')
    · have e'' : v'.ownBlock = some b := e'
      rw [hv] at e''; injection e'' with e''; have := (h.hex b e).2.1; omega), (fun e' => by cases e'), (fun e' => by cases e')⟩⟩, hf, hsub, hfk, hsubk⟩, hF⟩
theorem GS.par {C : GC} {D : GD} {W W2 W3 : World} (h : GS C D W) (v' : Value) (p : Int) (hp : isW p) (hg : W.grownBy W2 D.vP.ownBlock) (ho : W2.ownsRow C.fl 2 1 v' (D.ps ++ [p]).length ((D.ps ++ [p]).map (.int .i64))) (hv : v'.ownBlock = D.vP.ownBlock ∨ v'.ownBlock = some W.heap.size)
    (hs : Fr (fun q => q = C.gg) W2 W3) (hc : W3.heap[C.gg]? = some (.cells (GD.cells {D with vP := v', ps := D.ps ++ [p]} C).toArray 141 (0, 0))) (hn : D.ps.length + 1 ≤ 4) : GP C D {D with vP := v', ps := D.ps ++ [p]} W W3 := by
  have hF := fr_row hg hs
  have hsub : ∀ b, GE C {D with vP := v', ps := D.ps ++ [p]} b → GE C D b ∨ W.heap.size ≤ b := by
    intro b hb
    simp only [GE] at hb ⊢
    rcases hv with hv | hv
    · rw [hv] at hb; exact .inl hb
    · rw [hv] at hb
      rcases hb with e | e | e | e | e | e | e
      all_goals first
        | (injection e with e; exact .inr (by omega))
        | exact .inl (by simp [e])
  have hsubk : ∀ b, GK C {D with vP := v', ps := D.ps ++ [p]} b → GK C D b ∨ W.heap.size ≤ b := by
    intro b hb
    simp only [GK] at hb ⊢
    rcases hv with hv | hv
    · rw [hv] at hb; exact .inl hb
    · rw [hv] at hb
      rcases hb with e | e | e | e | e | e
      all_goals first
        | (injection e with e; exact .inr (by omega))
        | exact .inl (by simp [e])
  have hfk : Fr (GK C D) W W3 := hF.sub (by rintro q (rfl | e) <;> simp [GK, *])
  have hf : Fr (GE C D) W W3 := hF.sub (by rintro q (rfl | e) <;> simp [GE, *])
  have hG : Fr (GA C) W W3 := hfk.sub (GK.ga h)
  have hrow := h.out h.oP (by decide) (by decide)
  have hrg : C.gr ≠ C.gg := by have := h.hgr; have := h.hgg; omega
  have no := fun {base e sz n : Nat} {v : Value} {cs : List Value} (ho : W.ownsRow base e sz v n cs) (h1 : e ≠ 141) (h2 : e ≠ 112) (h3 : ∀ k, v.ownBlock = some k → D.vP.ownBlock ≠ some k) => own_fr ho hF (fun k hk => by
    have := h.out ho h1 h2 k hk
    rintro (e | e)
    · exact this.1 e
    · exact h3 k hk e)
  have hrs : RdS C.lo W3 C.gr := by
    have hb : W3.heap[C.gr]? = W.heap[C.gr]? := hF.block _ h.rs.lt (by rintro (e | e); exact hrg e; exact (hrow _ e).2 rfl)
    obtain ⟨h1, A, n, c, p, h2, h3, h4, h5⟩ := h.rs
    refine ⟨h1, A, n, c, p, hb.trans h2, h3, h4, fun i hi => ?_⟩
    obtain ⟨b, off, q, k1, k2, k3, k4, k5⟩ := h5 i hi
    refine ⟨b, off, q, k1, k2, k3, k4, ?_⟩
    rw [← k5]
    have hbl : b < W.heap.size := by
      unfold World.cell? at k5
      split at k5
      · rename_i hh; exact (Array.getElem?_eq_some_iff.1 hh).1
      · cases k5
    refine World.cell?_of_block (hF.block b hbl ?_)
    rintro (e | e)
    · have := h.hgr; have := h.hgg; omega
    · have := own_block_ge h.oP b e; have := h.hgr; omega
  refine ⟨⟨hc, hrs, h.hgr, h.hgg, own_fr ho hs (fun k hk => ?_), no h.oB (by decide) (by decide) (own_two h.oB h.oP (by decide)), no h.oPh (by decide) (by decide) (own_two h.oPh h.oP (by decide)), no h.oIn (by decide) (by decide) (own_two h.oIn h.oP (by decide)),
    h.eB.go hf hsub, h.ePh.go hf hsub, h.eIn.go hf hsub, h.eI.go hf hsub, h.eW.go hf hsub, h.eR.go hG fun _ e => .inl e, h.eA.go hG fun _ e => .inl e, fun q hq => ?_, by simpa using hn, h.wR, h.n0, h.n1, h.n2, h.n3, h.n4, h.n5, h.n6, h.wA, h.nA, fun b e => ⟨(h.hex b e).1, Nat.lt_of_lt_of_le (h.hex b e).2.1 hF.size, (h.hex b e).2.2.1, (fun e' => by
    rcases hv with hv | hv
    · exact (h.hex b e).2.2.2.1 (by rw [← hv]; exact e')
    · have e'' : v'.ownBlock = some b := e'
      rw [hv] at e''; injection e'' with e''; have := (h.hex b e).2.1; omega), (h.hex b e).2.2.2.2⟩⟩, hf, hsub, hfk, hsubk⟩
  · rcases hv with hv | hv
    · rw [hv] at hk; exact (hrow k hk).1
    · rw [hv] at hk; injection hk with hk
      have := (Array.getElem?_eq_some_iff.1 h.cell).1
      omega
  · rcases List.mem_append.1 hq with hq | hq
    · exact h.wP q hq
    · rw [List.mem_singleton.1 hq]; exact hp
theorem appE_at {ops : Array Oper} {rest : List Oper} {o : Oper} {a : Act} {Q : Exit → Act → World → Prop} {W : World} {t e : TypeId} {z : Value} {sz bytes : Nat} (hgd : o.guard = none) (s x : Operand)
    (ho : o.op = .call { callee := .builtin .append, args := #[s, x], argTypes := #[t, t] }) (ht : Tryz.prog.underlying t = some (.slice e)) (hi : (Tryz.prog.info? e).map (fun i => (i.zero, i.size, i.bytes)) = some (some z, sz, bytes)) (hzs : z.cells.size = sz) (hsz : 0 < sz) (hby : bytes ≤ 1000)
    (base : Nat) (v : Value) (n : Nat) (cells : List Value) (hs : a.eval s = v) (hown : W.ownsRow base e sz v n cells) (g c : Nat) (hx : a.eval x = .slice (some ⟨g, 0, none⟩) 1 c) (cs : List Value) (hcl : cs.length = sz) (hnews : ∀ j u, cs[j]? = some u → W.cell? ⟨g, j, none⟩ = some u) (h1 : ∀ u ∈ cs, u.oneCell' = true) (hn : n + 1 ≤ 1000000) (hb : base ≤ W.heap.size)
    (hK : ∀ v' w', w'.ownsRow base e sz v' (n + 1) (cells ++ cs) → W.grownBy w' v.ownBlock → (v'.ownBlock = v.ownBlock ∨ v'.ownBlock = some W.heap.size) → wpList Tryz.prog ops Q rest (a.put o.dst v') w') : wpList Tryz.prog ops Q (o :: rest) a W := by
  refine wpList_plain hgd fun K hK' => ?_
  obtain ⟨i0, hi, hz0, hz1, hz2⟩ := info_parts hi
  have hbb : (n + 1) * bytes ≤ 140737488355328 := Nat.le_trans (Nat.mul_le_mul hn hby) (by decide)
  obtain ⟨v', w', hrun, r1, r2, _, r4⟩ := run_append_own_at (P := Tryz.prog) W base t o.type e i0 z sz bytes ht hi hz0 hz1 hz2 hzs hsz v n cells hown ⟨g, 0, none⟩ 1 c cs (by omega) (fun j u hu => by have ea : (⟨g, 0, none⟩ : Addr).add j = ⟨g, j, none⟩ := (by unfold Addr.add; by_cases h0 : j = 0 <;> simp [h0]); rw [ea]; exact hnews j u hu) h1 (by unfold maxLen; omega) hbb hb
  unfold Oper.wp
  simp [execOp, ho, resolve, invoke, builtin, hs, hx, hrun, Result.andThen]
  exact hK' _ _ (hK v' w' r1 r2 r4)
theorem step_appE_at {ops : Array Oper} {o : Oper} {a : Act} {K : Act → World → Prop} {Q : Exit → Act → World → Prop} {E : Prop} {W : World} {t e : TypeId} {z : Value} {sz bytes : Nat} (hgd : o.guard = none) (s x : Operand)
    (ho : o.op = .call { callee := .builtin .append, args := #[s, x], argTypes := #[t, t] }) (ht : Tryz.prog.underlying t = some (.slice e)) (hi : (Tryz.prog.info? e).map (fun i => (i.zero, i.size, i.bytes)) = some (some z, sz, bytes)) (hzs : z.cells.size = sz) (hsz : 0 < sz) (hby : bytes ≤ 1000)
    (base : Nat) (v : Value) (n : Nat) (cells : List Value) (hs : a.eval s = v) (hown : W.ownsRow base e sz v n cells) (g c : Nat) (hx : a.eval x = .slice (some ⟨g, 0, none⟩) 1 c) (cs : List Value) (hcl : cs.length = sz) (hnews : ∀ j u, cs[j]? = some u → W.cell? ⟨g, j, none⟩ = some u) (h1 : ∀ u ∈ cs, u.oneCell' = true) (hn : n + 1 ≤ 1000000) (hb : base ≤ W.heap.size)
    (hK : ∀ v' w', w'.ownsRow base e sz v' (n + 1) (cells ++ cs) → W.grownBy w' v.ownBlock → (v'.ownBlock = v.ownBlock ∨ v'.ownBlock = some W.heap.size) → K (a.put o.dst v') w') : if Region.wanted o (yielded ops a.tmps) = true then Oper.wp Tryz.prog o a W K Q else E := by
  have hw : Region.wanted o (yielded ops a.tmps) = true := by simp [Region.wanted, hgd]
  rw [if_pos hw]
  obtain ⟨i0, hi, hz0, hz1, hz2⟩ := info_parts hi
  have hbb : (n + 1) * bytes ≤ 140737488355328 := Nat.le_trans (Nat.mul_le_mul hn hby) (by decide)
  obtain ⟨v', w', hrun, r1, r2, _, r4⟩ := run_append_own_at (P := Tryz.prog) W base t o.type e i0 z sz bytes ht hi hz0 hz1 hz2 hzs hsz v n cells hown ⟨g, 0, none⟩ 1 c cs (by omega) (fun j u hu => by have ea : (⟨g, 0, none⟩ : Addr).add j = ⟨g, j, none⟩ := (by unfold Addr.add; by_cases h0 : j = 0 <;> simp [h0]); rw [ea]; exact hnews j u hu) h1 (by unfold maxLen; omega) hbb hb
  unfold Oper.wp
  simp [execOp, ho, resolve, invoke, builtin, hs, hx, hrun, Result.andThen]
  exact hK v' w' r1 r2 r4
theorem GS.at {C : GC} {D : GD} {W : World} (h : GS C D W) (j : Nat) : W.cell? ⟨C.gg, j, none⟩ = (D.cells C)[j]? := by
  rw [(row_facts h.cell).1 j]; simp
theorem GS.fz {C : GC} {D : GD} {W : World} (h : GS C D W) (j : Nat) : W.frozen? ⟨C.gg, j, none⟩ = false := (row_facts h.cell).2 j
theorem GS.lt {C : GC} {D : GD} {W : World} (h : GS C D W) : C.gg < W.heap.size := (Array.getElem?_eq_some_iff.1 h.cell).1
theorem own_one {w : World} {base e sz n : Nat} {v : Value} {cs : List Value} (h : w.ownsRow base e sz v n cs) : v.oneCell' = true := by
  rcases h.2 with ⟨rfl, _⟩ | ⟨g, cap, cur, rfl, _⟩ <;> rfl
theorem RdS.fr {lo g gg fl : Nat} {W W' : World} (h : RdS lo W g) (hF : Fr (fun q => q = gg) W W') (hg : g < fl) (hgg : fl ≤ gg) : RdS lo W' g := by
  obtain ⟨h1, A, n, c, p, h2, h3, h4, h5⟩ := h
  have hlt := (Array.getElem?_eq_some_iff.1 h2).1
  refine ⟨h1, A, n, c, p, (hF.block g hlt (by omega)).trans h2, h3, h4, fun i hi => ?_⟩
  obtain ⟨b, off, q, k1, k2, k3, k4, k5⟩ := h5 i hi
  refine ⟨b, off, q, k1, k2, k3, k4, ?_⟩
  rw [← k5]
  exact World.cell?_of_block (hF.block b (by omega) (by omega))
theorem GS.upd {C : GC} {D : GD} {W W' : World} (h : GS C D W) (tm : XTerm) (ret next : Int) (vids vws : Value) (nid : Nat) (hF : Fr (fun q => q = C.gg) W W')
    (hc : W'.heap[C.gg]? = some (.cells (GD.cells {D with tm := tm, ret := ret, next := next, vids := vids, vws := vws, nid := nid} C).toArray 141 (0, 0)))
    (hi : Bx (GE C D) (QI vids nid) W) (hw : Bx (GE C D) (QI vws nid) W) (hr : isW ret) (b1 : 0 ≤ next) (b2 : next ≤ 900) (b3 : nid ≤ 1000) : GP C D {D with tm := tm, ret := ret, next := next, vids := vids, vws := vws, nid := nid} W W' := by
  have hf : Fr (GE C D) W W' := hF.sub (by rintro q rfl; simp [GE])
  exact h.mem tm ret next vids vws nid (hF.sub fun q e => .inl e) (h.rs.fr hF h.hgr h.hgg) hc (hi.go hf fun _ e => .inl e) (hw.go hf fun _ e => .inl e) hr b1 b2 b3
theorem GS.at' {C : GC} {D : GD} {W W' : World} {r : Option Nat} (h : GS C D W) (hg : W.grownBy W' r) (hr : r ≠ some C.gg) : W'.heap[C.gg]? = some (.cells (D.cells C).toArray 141 (0, 0)) := (hg.block _ h.lt (fun e => hr e.symm)).trans h.cell
set_option maxRecDepth 20000 in
set_option maxHeartbeats 4000000 in
theorem s_close (C : GC) (D : GD) (t : XTerm) (W : World) (h : GS C D W) (hn : D.nB + 1 ≤ 100) : Calls Tryz.prog 159 #[.pointer (some ⟨C.gg, 0, none⟩), .agg #[.int .i64 t.kind, .int .i64 t.a, .int .i64 t.x, .int .i64 t.y]] W (fun e w' => ∃ v', e = .returned (.tuple #[]) ∧ GP C D (closed {D with tm := t} v') W w' ∧ Fr (fun q => q = C.gg ∨ D.vB.ownBlock = some q) W w') := by
  have k6 := h.at 6
  have k7 := h.at 7
  have k8 := h.at 8
  have k9 := h.at 9
  simp [GD.cells] at k6 k7 k8 k9
  have f0 := h.fz
  have hlt := h.lt
  obtain ⟨W1, hW1⟩ : ∃ W1 : World, W1 = (((((W.setCell ⟨C.gg, 6, none⟩ (.int .i64 t.kind)).setCell ⟨C.gg, 7, none⟩ (.int .i64 t.a)).setCell ⟨C.gg, 8, none⟩ (.int .i64 t.x)).setCell ⟨C.gg, 9, none⟩ (.int .i64 t.y)).alloc (.cells #[.int .i64 t.kind, .int .i64 t.a, .int .i64 t.x, .int .i64 t.y] 29)) := ⟨_, rfl⟩
  have hF1 : Fr (fun q => q = C.gg) W W1 := by
    rw [hW1]
    exact ((((Fr.set W _ 6 _).go (Fr.set _ _ 7 _) fun _ e => .inl e).go (Fr.set _ _ 8 _) fun _ e => .inl e).go (Fr.set _ _ 9 _) fun _ e => .inl e).then ((Below.refl _ _).al (Nat.le_refl _) _)
  have g1 : GP C D {D with tm := t} W W1 := h.upd t D.ret D.next D.vids D.vws D.nid hF1 (by
    rw [hW1]
    exact heap_old (heap_set (heap_set (heap_set (heap_set h.cell)))) (by simpa [World.setCell] using hlt)) h.eI h.eW h.wR h.n0 h.n1 h.n4
  have g2 := Hd.mk (g1.trans (g1.gs.mv (W' := W1.drew) (Below.refl _ _).drew))
  have hF1' := Hd.mk hF1
  have hW1' := Hd.mk hW1
  clear hW1 g1 hF1
  have c3 := g2.out.gs.at 3
  have c4 := g2.out.gs.at 4
  have c5 := g2.out.gs.at 5
  have c6 := g2.out.gs.at 6
  have c7 := g2.out.gs.at 7
  have c8 := g2.out.gs.at 8
  have c9 := g2.out.gs.at 9
  simp [GD.cells] at c3 c4 c5 c6 c7 c8 c9
  have hgl : C.gg < W1.heap.size := g2.out.gs.lt
  have hh := Hd.mk h
  clear h
  go_enter Tryz.func159, Tryz.ntmps159
  go_wp2
  rw [← hW1'.out]
  clear k6 k7 k8 k9 f0 hlt
  have hW2 : ∃ W2 : World, W2 = W1.drew := ⟨_, rfl⟩
  obtain ⟨D1, hD1⟩ : ∃ D1 : GD, D1 = {D with tm := t} := ⟨_, rfl⟩
  have g2' : Hd (GP C D D1 W W1.drew) := ⟨by rw [hD1]; exact g2.out⟩
  have hal := Hd.mk fun (o : Obj) => (Below.refl W1.drew.heap.size W1.drew).al (Nat.le_refl _) o
  have hoB : Hd (W1.drew.ownsRow C.fl 32 6 D.vB D.nB D.cB) := ⟨g2.out.gs.oB⟩
  have hone : ∀ u ∈ [D.vPh, D.vIn, .int .i64 t.kind, .int .i64 t.a, .int .i64 t.x, .int .i64 t.y], u.oneCell' = true := by
    have h1 := own_one g2.out.gs.oPh
    have h2 := own_one g2.out.gs.oIn
    intro u hu
    simp only [List.mem_cons, List.not_mem_nil, or_false] at hu
    rcases hu with rfl | rfl | rfl | rfl | rfl | rfl
    · exact h1
    · exact h2
    all_goals rfl
  have hone' := Hd.mk hone
  have hfl : C.fl ≤ W1.heap.size := by have h7 := g2.out.gs.hgg; have h8 : C.gg < W1.heap.size := hgl; omega
  have hrw := g2.out.gs.out g2.out.gs.oB (by decide) (by decide)
  have hrw' := Hd.mk hrw
  clear hone hrw g2
  go_region_law
    ((refine step_appE_at rfl _ _ rfl Tryz.underlying33 infoBlock rfl (by decide) (by decide) C.fl _ D.nB D.cB rfl (own_mv hoB.out (hal.out _)) _ _ rfl [D.vPh, D.vIn, .int .i64 t.kind, .int .i64 t.a, .int .i64 t.x, .int .i64 t.y] rfl (fun j u hu => new_cell _ _ _ (by simp) j u (by simpa using hu)) hone'.out (by omega) (by simp; omega) ?_
      intro v' w4 ho4 hg4 hn4
      obtain ⟨Av, cv, rfl, -, -⟩ := own_shape ho4
      have hgs3 := g2'.out.gs.mv (hal.out (.cells #[D.vPh, D.vIn, .int .i64 t.kind, .int .i64 t.a, .int .i64 t.x, .int .i64 t.y] 32))
      have hg3 := Hd.mk hgs3
      have h4c := hgs3.gs.at' hg4 (fun e => (hrw'.out _ e).1 rfl)
      have c4' := (row_facts h4c).1
      have f4 := (row_facts h4c).2
      have d3 := c4' 3
      have d4 := c4' 4
      have d5 := c4' 5
      have d6 := c4' 6
      have d7 := c4' 7
      have d8 := c4' 8
      have d9 := c4' 9
      have h4' := Hd.mk h4c
      simp [GD.cells, hD1] at d3 d4 d5 d6 d7 d8 d9
      clear c4' h4c c3 c4 c5 c6 c7 c8 c9
      have ho4' := Hd.mk ho4
      have hg4' := Hd.mk hg4
      have hn4' := Hd.mk hn4
      clear ho4 hg4 hn4 hgs3))
  all_goals
    go_wp2
    go_end0
    subst hD1
    have hgp := g2'.out.trans hg3.out
    have hcl := fun W3 hs hc => GS.close (W := (W1.alloc (.cells #[D.vPh, D.vIn, .int .i64 t.kind, .int .i64 t.a, .int .i64 t.x, .int .i64 t.y] 32)).drew) (W3 := W3) hgp.gs _ hg4'.out ho4'.out hn4'.out hs hc (show D.nB + 1 ≤ 100 from hn)
    have hfr := fun W3 (h : Fr (fun q => q = C.gg ∨ D.vB.ownBlock = some q) (W1.alloc (.cells #[D.vPh, D.vIn, .int .i64 t.kind, .int .i64 t.a, .int .i64 t.x, .int .i64 t.y] 32)).drew W3) => ((hF1'.out.sub (fun q e => .inl e)).then ((Below.refl _ _).al (Nat.le_refl _) _).drew).go h fun _ e => .inl e
    refine ⟨rfl, ⟨_, hgp.trans (hcl _ ?hs ?hc).1⟩, hfr _ (hcl _ ?hs ?hc).2⟩
    case hs =>
      repeat (refine Fr.go ?_ (Fr.set _ _ _ _) fun _ e => .inl e)
      exact Fr.refl _ _
    case hc =>
      refine (heap_set (heap_set (heap_set (heap_set (heap_set (heap_set (heap_set h4'.out))))))).trans ?_
      simp [GD.cells, closed]
theorem step_appI {ops : Array Oper} {o : Oper} {a : Act} {W : World} {K : Act → World → Prop} {Q : Exit → Act → World → Prop} {E : Prop} (hgd : o.guard = none) (s x : Operand)
    (ho : o.op = .call { callee := .builtin .append, args := #[s, x], argTypes := #[24, 24] }) (base : Nat) (v : Value) (xs ys : List Int) (hs : a.eval s = v)
    (hown : W.ownsRow base 2 1 v xs.length (xs.map (Value.int .i64))) (A : Option Addr) (n c : Nat) (hx : a.eval x = .slice A n c) (hr : RI lm W (.slice A n c) ys) (hl : xs.length ≤ 1099511627776) (hb : base ≤ W.heap.size)
    (hK : ∀ v' w', w'.ownsRow base 2 1 v' (xs ++ ys).length ((xs ++ ys).map (Value.int .i64)) → W.grownBy w' v.ownBlock → (v'.ownBlock = v.ownBlock ∨ v'.ownBlock = some W.heap.size) → K (a.put o.dst v') w') :
    if Region.wanted o (yielded ops a.tmps) = true then Oper.wp Tryz.prog o a W K Q else E := by
  have hw : Region.wanted o (yielded ops a.tmps) = true := by simp [Region.wanted, hgd]
  rw [if_pos hw]
  obtain ⟨i0, hi, hz0, hz1, hz2⟩ := info_parts infoI
  obtain ⟨rfl, hle, hn, hsrc⟩ := hr.src
  cases A with
  | none =>
    obtain rfl := hn rfl
    obtain ⟨A', c', hv, _, _, hc0, _⟩ := hr
    cases hv
    obtain rfl := hc0 rfl
    have hrun := run_append_owned_none (P := Tryz.prog) (w := W) base 24 o.type 2 i0 1 Tryz.underlying24 hi v xs.length _ hown
    unfold Oper.wp
    simp only [List.length_nil] at hx
    simp [execOp, ho, resolve, invoke, builtin, hs, hx, hrun, Result.andThen]
    exact hK v W (by simpa using hown) ⟨rfl, rfl, rfl, Nat.le_refl _, fun _ _ _ => rfl⟩ (.inl rfl)
  | some ad =>
    obtain ⟨v', w', hrun, r1, r2, _, r4⟩ := run_append_own_at (P := Tryz.prog) W base 24 o.type 2 i0 (.int .i64 0) 1 8 Tryz.underlying24 hi hz0 hz1 hz2 rfl (by decide) v xs.length _ hown ad ys.length c (ys.map (Value.int .i64)) (by simp) (hsrc ad rfl) (by simp [Value.oneCell']) (by unfold maxLen; omega) (by omega) hb
    unfold Oper.wp
    simp [execOp, ho, resolve, invoke, builtin, hs, hx, hrun, Result.andThen]
    exact hK v' w' (by simpa using r1) r2 r4
theorem cell_lt {X : World} {a : Addr} {u : Value} (hc : X.cell? a = some u) : a.block < X.heap.size := by
  unfold World.cell? at hc
  split at hc
  · rename_i hh; exact (Array.getElem?_eq_some_iff.1 hh).1
  · cases hc
theorem rd_one_of {X : World} {g : Nat} {x : Int} (hc : X.cell? ⟨g, 0, none⟩ = some (.int .i64 x)) : RI lm X (.slice (some ⟨g, 0, none⟩) 1 1) [x] :=
  rd_new [x] rfl (show 1 ≤ lm by decide) (cell_lt hc) (fun i hi => by
    have h0 : i = 0 := by simp at hi; omega
    subst h0
    exact ⟨[.int .i64 x], rfl, rfl, fun j hj => by
      have h1 : j = 0 := by simp at hj; omega
      subst h1
      simpa using hc⟩)
theorem gb_fresh {W w1 w2 : World} {v : Value} {base e sz n : Nat} {cs : List Value} (h : Below W.heap.size W w1) (hg : w1.grownBy w2 v.ownBlock) (ho : w1.ownsRow base e sz v n cs) (hb : W.heap.size ≤ base) : Below W.heap.size W w2 :=
  h.grown hg h.size fun k hk => Nat.le_trans hb (own_block_ge ho k (by first | exact hk | exact hk.symm))
theorem bx_ri {E : Nat → Prop} {v : Value} {n : Nat} {W : World} (h : Bx E (QI v n) W) : ∃ A c xs, v = .slice A n c ∧ xs.length = n ∧ ∀ X, Below W.heap.size W X → RI lm X (.slice A n c) xs := by
  obtain ⟨xs, h1, -, h2⟩ := h.out
  obtain ⟨A, c, hv, hr⟩ := h2
  exact ⟨A, c, xs, by rw [hv, h1], h1, fun X hX => by rw [← h1, ← hv]; exact (show RI lm W v xs from ⟨A, c, hv, hr⟩).mv hX⟩
theorem GE.lt {C : GC} {D : GD} {W : World} (h : GS C D W) : ∀ b, GE C D b → b < W.heap.size := by
  rintro b (e | rfl | e | e | e | e | e)
  · have := h.hgg; have := h.lt; omega
  · exact h.lt
  · exact (own_blk h.oP b e).1
  · exact (own_blk h.oB b e).1
  · exact (own_blk h.oPh b e).1
  · exact (own_blk h.oIn b e).1
  · exact (h.hex b e).2.1
theorem row_done {C : GC} {D : GD} {W Wa w2 : World} {v : Value} {ys : List Int} {g : Nat} (h : GS C D W) (hg : g < Wa.heap.size) (ha : W.heap.size ≤ Wa.heap.size) (hb : Below Wa.heap.size Wa w2) (ho : w2.ownsRow Wa.heap.size 2 1 v ys.length (ys.map (.int .i64))) (hl : ys.length ≤ lm) (j : Nat) (u : Value) :
    Fr (fun q => q = g) Wa (w2.setCell ⟨g, j, none⟩ u) ∧ Bx (GE C D) (QI v ys.length) (w2.setCell ⟨g, j, none⟩ u) := by
  refine ⟨(Fr.of _ hb).go (Fr.set w2 g j u) fun _ e => .inl e, fun w' hw' => ?_⟩
  have hk : ∀ k, v.ownBlock = some k → Wa.heap.size ≤ k := own_block_ge ho
  have h1 := own_fr ho (Fr.set w2 g j u) (fun k e => by have := hk k e; omega)
  have h2 := own_fr h1 hw' (fun k e e' => by have := hk k e; have := GE.lt h k e'; omega)
  exact ⟨ys, rfl, trivial, (OwI.of h2).rd hl⟩
set_option maxRecDepth 20000 in
set_option maxHeartbeats 4000000 in
theorem s_add (C : GC) (D : GD) (wd : Int) (W : World) (h : GS C D W) (hn : D.next + 1 ≤ 900) (hi : D.nid + 1 ≤ 1000) : Calls Tryz.prog 113 #[.pointer (some ⟨C.gg, 0, none⟩), .int .i64 wd] W (fun e w' => ∃ q vids vws, e = .returned (.int .i64 q) ∧ GP C D {D with next := D.next + 1, vids := vids, vws := vws, nid := D.nid + 1} W w') := by
  have k10 := h.at 10
  have k11 := h.at 11
  have k12 := h.at 12
  simp [GD.cells] at k10 k11 k12
  have hlt := h.lt
  have f0 := h.fz
  have hn0 := h.n0
  obtain ⟨A1, c1, xs, e1, l1, r1⟩ := bx_ri h.eI
  rw [e1] at k11
  have r1' := Hd.mk r1
  have l1' := Hd.mk l1
  have hh := Hd.mk h
  have hi' := Hd.mk hi
  clear h r1 l1 e1 hi
  go_enter Tryz.func113, Tryz.ntmps113
  go_wp2
  refine wp_via (fun a a' Wa => ∃ (u5 u6 u7 u8 u9 u10 u11 u12 u13 u14 u15 u16 u17 u18 u19 : Value) (V : Value), a' = (((((((((((((((a.put (some 5) u5).put (some 6) u6).put (some 7) u7).put (some 8) u8).put (some 9) u9).put (some 10) u10).put (some 11) u11).put (some 12) u12).put (some 13) u13).put (some 14) u14).put (some 15) u15).put (some 16) u16).put (some 17) u17).put (some 18) u18).put (some 19) u19) ∧ Hd (Fr (fun q => q = C.gg) W Wa) ∧ Hd (Wa.heap[C.gg]? = some (.cells (GD.cells {D with vids := V} C).toArray 141 (0, 0))) ∧ Hd (Bx (GE C D) (QI V (D.nid + 1)) Wa)) ?_ ?_
  · go_region_law
      (first
        | (refine step_appI (by rfl) (.tmp 6) (.tmp 10) (by rfl) W.heap.size (.slice (some ⟨W.heap.size, 0, none⟩) 0 0) [] xs (by rfl) ?_ A1 D.nid c1 (by rfl) ?_ (by simp) ?_ ?_
           · first | exact own_empty _ _ _ _ _ (by first | rfl | simp) (by simp) | exact own_mv (own_empty _ _ _ _ _ (by first | rfl | simp) (by simp)) ((Below.refl _ _).al (Nat.le_refl _) _) | exact own_mv (own_empty _ _ _ _ _ (by first | rfl | simp) (by simp)) ((Below.refl _ _).al (Nat.le_refl _) _).drew
           · exact r1'.out _ (by repeat (first | exact Below.refl _ _ | assumption | refine Below.drew ?_ | refine Below.al ?_ (by first | exact Nat.le_refl _ | assumption | omega | (simp; done) | (simp; omega)) _))
           · first | omega | (simp; done) | (simp; omega)
           intro v1 w1 ho1 hg1 hn1
           have hb1 : Below W.heap.size W w1 := Below.grown (a := W) (by repeat (first | exact Below.refl _ _ | assumption | refine Below.drew ?_ | refine Below.al ?_ (by first | exact Nat.le_refl _ | assumption | omega | (simp; done) | (simp; omega)) _)) hg1 (by first | omega | (simp; done) | (simp; omega)) (fun k hk => by simp [Value.ownBlock] at hk; omega)
           have ho1' : w1.ownsRow W.heap.size 2 1 v1 xs.length (xs.map (.int .i64)) := by simpa using ho1
           have hz1 := hb1.size
           have k10_1 := (bat hb1 C.gg hlt 10).trans k10
           have k11_1 := (bat hb1 C.gg hlt 11).trans k11
           have f_1 := fun j => (fat hb1 C.gg hlt j).trans (f0 j)
           have hgg1 : C.gg < w1.heap.size := by omega)
        | (refine step_appI (by rfl) (.tmp 6) (.tmp 10) (by rfl) W.heap.size (.slice (some ⟨W.heap.size + 1, 0, none⟩) 0 0) [] xs (by rfl) ?_ A1 D.nid c1 (by rfl) ?_ (by simp) ?_ ?_
           · first | exact own_empty _ _ _ _ _ (by first | rfl | simp) (by simp) | exact own_mv (own_empty _ _ _ _ _ (by first | rfl | simp) (by simp)) ((Below.refl _ _).al (Nat.le_refl _) _) | exact own_mv (own_empty _ _ _ _ _ (by first | rfl | simp) (by simp)) ((Below.refl _ _).al (Nat.le_refl _) _).drew
           · exact r1'.out _ (by repeat (first | exact Below.refl _ _ | assumption | refine Below.drew ?_ | refine Below.al ?_ (by first | exact Nat.le_refl _ | assumption | omega | (simp; done) | (simp; omega)) _))
           · first | omega | (simp; done) | (simp; omega)
           intro v1 w1 ho1 hg1 hn1
           have hb1 : Below W.heap.size W w1 := Below.grown (a := W) (by repeat (first | exact Below.refl _ _ | assumption | refine Below.drew ?_ | refine Below.al ?_ (by first | exact Nat.le_refl _ | assumption | omega | (simp; done) | (simp; omega)) _)) hg1 (by first | omega | (simp; done) | (simp; omega)) (fun k hk => by simp [Value.ownBlock] at hk; omega)
           have ho1' : w1.ownsRow W.heap.size 2 1 v1 xs.length (xs.map (.int .i64)) := by simpa using ho1
           have hz1 := hb1.size
           have k10_1 := (bat hb1 C.gg hlt 10).trans k10
           have k11_1 := (bat hb1 C.gg hlt 11).trans k11
           have f_1 := fun j => (fat hb1 C.gg hlt j).trans (f0 j)
           have hgg1 : C.gg < w1.heap.size := by omega)
        | (refine step_appI (by rfl) (.tmp 11) (.tmp 16) (by rfl) W.heap.size v1 xs [D.next] (by rfl) ?_ (some ⟨w1.heap.size, 0, none⟩) 1 1 (by rfl) (rd_one_of ?_) ?_ ?_ ?_
           · first | exact ho1' | exact own_mv ho1' ((Below.refl _ _).al (Nat.le_refl _) _) | exact own_mv ho1' ((Below.refl _ _).al (Nat.le_refl _) _).drew
           · first | exact new_cell _ _ _ (by first | rfl | simp) 0 _ rfl | (rw [World.cell?_of_block (hg1.block _ (by first | omega | (simp; done) | (simp; omega)) (by simp [Value.ownBlock]; try omega))]; first | exact new_cell _ _ _ (by first | rfl | simp) 0 _ rfl | (simp; done))
           · have := l1'.out; have := hi'.out; omega
           · first | omega | (simp; done) | (simp; omega)
           intro v2 w2 ho2 hg2 hn2
           have hb2 : Below W.heap.size W w2 := gb_fresh (by repeat (first | exact Below.refl _ _ | assumption | refine Below.drew ?_ | refine Below.al ?_ (by first | exact Nat.le_refl _ | assumption | omega | (simp; done) | (simp; omega)) _)) hg2 (by first | exact ho1' | exact own_mv ho1' ((Below.refl _ _).al (Nat.le_refl _) _) | exact own_mv ho1' ((Below.refl _ _).al (Nat.le_refl _) _).drew) (Nat.le_refl _)
           obtain ⟨B2, d2, rfl, -, -⟩ := own_shape ho2
           have hz2 := hb2.size
           have k11_2 := (bat hb2 C.gg hlt 11).trans k11
           have f_2 := fun j => (fat hb2 C.gg hlt j).trans (f0 j))
        | (refine step_appI (by rfl) (.tmp 11) (.tmp 16) (by rfl) W.heap.size v1 xs [D.next] (by rfl) ?_ (some ⟨W.heap.size, 0, none⟩) 1 1 (by rfl) (rd_one_of ?_) ?_ ?_ ?_
           · first | exact ho1' | exact own_mv ho1' ((Below.refl _ _).al (Nat.le_refl _) _) | exact own_mv ho1' ((Below.refl _ _).al (Nat.le_refl _) _).drew
           · first | exact new_cell _ _ _ (by first | rfl | simp) 0 _ rfl | (rw [World.cell?_of_block (hg1.block _ (by first | omega | (simp; done) | (simp; omega)) (by simp [Value.ownBlock]; try omega))]; first | exact new_cell _ _ _ (by first | rfl | simp) 0 _ rfl | (simp; done))
           · have := l1'.out; have := hi'.out; omega
           · first | omega | (simp; done) | (simp; omega)
           intro v2 w2 ho2 hg2 hn2
           have hb2 : Below W.heap.size W w2 := gb_fresh (by repeat (first | exact Below.refl _ _ | assumption | refine Below.drew ?_ | refine Below.al ?_ (by first | exact Nat.le_refl _ | assumption | omega | (simp; done) | (simp; omega)) _)) hg2 (by first | exact ho1' | exact own_mv ho1' ((Below.refl _ _).al (Nat.le_refl _) _) | exact own_mv ho1' ((Below.refl _ _).al (Nat.le_refl _) _).drew) (Nat.le_refl _)
           obtain ⟨B2, d2, rfl, -, -⟩ := own_shape ho2
           have hz2 := hb2.size
           have k11_2 := (bat hb2 C.gg hlt 11).trans k11
           have f_2 := fun j => (fat hb2 C.gg hlt j).trans (f0 j))
        | (refine step_appI (by rfl) (.tmp 11) (.tmp 16) (by rfl) W.heap.size v1 xs [D.next] (by rfl) ?_ (some ⟨W.heap.size + 1, 0, none⟩) 1 1 (by rfl) (rd_one_of ?_) ?_ ?_ ?_
           · first | exact ho1' | exact own_mv ho1' ((Below.refl _ _).al (Nat.le_refl _) _) | exact own_mv ho1' ((Below.refl _ _).al (Nat.le_refl _) _).drew
           · first | exact new_cell _ _ _ (by first | rfl | simp) 0 _ rfl | (rw [World.cell?_of_block (hg1.block _ (by first | omega | (simp; done) | (simp; omega)) (by simp [Value.ownBlock]; try omega))]; first | exact new_cell _ _ _ (by first | rfl | simp) 0 _ rfl | (simp; done))
           · have := l1'.out; have := hi'.out; omega
           · first | omega | (simp; done) | (simp; omega)
           intro v2 w2 ho2 hg2 hn2
           have hb2 : Below W.heap.size W w2 := gb_fresh (by repeat (first | exact Below.refl _ _ | assumption | refine Below.drew ?_ | refine Below.al ?_ (by first | exact Nat.le_refl _ | assumption | omega | (simp; done) | (simp; omega)) _)) hg2 (by first | exact ho1' | exact own_mv ho1' ((Below.refl _ _).al (Nat.le_refl _) _) | exact own_mv ho1' ((Below.refl _ _).al (Nat.le_refl _) _).drew) (Nat.le_refl _)
           obtain ⟨B2, d2, rfl, -, -⟩ := own_shape ho2
           have hz2 := hb2.size
           have k11_2 := (bat hb2 C.gg hlt 11).trans k11
           have f_2 := fun j => (fat hb2 C.gg hlt j).trans (f0 j)))
    all_goals
      unfold Exit.then
      go_simp
      refine ⟨⟨?_⟩, ⟨.slice B2 (xs.length + 1) d2, ⟨?_⟩, ⟨?_⟩⟩⟩
      · exact (row_done hh.out hlt (Nat.le_refl _) hb2 ho2 (by have h9 := l1'.out; have h8 := hi'.out; show (xs ++ [D.next]).length ≤ 1048576; simp; omega) 11 _).1
      · exact (heap_set ((hb2.block _ hlt).trans hh.out.cell)).trans (by simp [GD.cells])
      · have h9 := (row_done hh.out hlt (Nat.le_refl _) hb2 ho2 (by have h9 := l1'.out; have h8 := hi'.out; show (xs ++ [D.next]).length ≤ 1048576; simp; omega) 11 (.slice B2 (xs.length + 1) d2)).2
        rw [List.length_append, List.length_singleton] at h9
        rw [← l1'.out]
        exact h9
  · rintro a' Wa ⟨u5, u6, u7, u8, u9, u10, u11, u12, u13, u14, u15, u16, u17, u18, u19, V, rfl, hFa, hca, hba⟩
    obtain ⟨A2, c2, ys, e2, l2, r2⟩ := bx_ri (hh.out.eW.go (hFa.out.sub (E' := GE C D) (by rintro q rfl; simp [GE])) fun _ e => .inl e)
    have k12a := (row_facts hca.out).1 12
    have k10a := (row_facts hca.out).1 10
    have fa := (row_facts hca.out).2
    simp [GD.cells] at k12a k10a
    rw [e2] at k12a
    have hlta : C.gg < Wa.heap.size := (Array.getElem?_eq_some_iff.1 hca.out).1
    have r2' := Hd.mk r2
    have l2' := Hd.mk l2
    have hn9 : (0 : Int) ≤ D.next + 1 := by omega
    clear r1' r2 l2 e2 k10 k11 k12 f0 hlt
    simp only [Act.put, List.setIfInBounds_toArray, List.set_cons_zero, List.set_cons_succ]
    go_wp2_with (at_builtin; refine app_I rfl _ _ rfl Wa.heap.size _ [] ys rfl (own_empty _ _ _ _ _ rfl (by simp)) A2 D.nid c2 rfl (r2'.out _ ((Below.refl _ _).al (Nat.le_refl _) _)) (by simp) (by simp) ?_)
    intro v1 w1 ho1 hg1
    have hb1 : Below Wa.heap.size Wa w1 := Below.grown (a := Wa) ((Below.refl _ _).al (Nat.le_refl _) _) hg1 (by simp) (fun k hk => by simp [Value.ownBlock] at hk; omega)
    have ho1' : w1.ownsRow Wa.heap.size 2 1 v1 ys.length (ys.map (.int .i64)) := by simpa using ho1
    have hz1 := hb1.size
    have hlt1 : C.gg < w1.heap.size := by omega
    have k12_1 := (bat hb1 C.gg hlta 12).trans k12a
    have hal1 := Hd.mk fun (o : Obj) => (Below.refl w1.heap.size w1).al (Nat.le_refl _) o
    clear ho1 hg1
    go_wp2_with (at_builtin; refine app_I rfl _ _ rfl Wa.heap.size v1 ys [wd] rfl (own_mv ho1' (hal1.out _)) _ 1 1 rfl (rd_one _ _) (by have := l2'.out; have := hi'.out; omega) (by simp; omega) ?_)
    intro v2 w2 ho2 hg2
    have hb2 : Below Wa.heap.size Wa w2 := gb_fresh (hb1.then (hal1.out _)) hg2 (own_mv ho1' (hal1.out _)) (Nat.le_refl _)
    obtain ⟨B2, d2, rfl, -, -⟩ := own_shape ho2
    have hz2 := hb2.size
    have k12_2 := (bat hb2 C.gg hlta 12).trans k12a
    have k10_2 := (bat hb2 C.gg hlta 10).trans k10a
    have f_2 := fun j => (fat hb2 C.gg hlta j).trans (fa j)
    have hys : (ys ++ [wd]).length ≤ lm := by have h9 := l2'.out; have h8 := hi'.out; show _ ≤ 1048576; simp; omega
    have hrd := row_done (v := .slice B2 (ys.length + 1) d2) (ys := ys ++ [wd]) hh.out hlta hFa.out.size hb2 (by simpa using ho2) hys 12 (.slice B2 (ys.length + 1) d2)
    have hlen : (ys ++ [wd]).length = D.nid + 1 := by rw [List.length_append, List.length_singleton, l2'.out]
    have hrd1 := Hd.mk hrd.1
    have hrd2 : Hd (Bx (GE C D) (QI (.slice B2 (ys.length + 1) d2) (D.nid + 1)) (w2.setCell ⟨C.gg, 12, none⟩ (.slice B2 (ys.length + 1) d2))) := ⟨by
      have h9 := hrd.2
      rw [List.length_append, List.length_singleton] at h9
      rw [← l2'.out]
      exact h9⟩
    have hc2 := Hd.mk ((hb2.block _ hlta).trans hca.out)
    clear hrd ho2 hg2 hb2 hb1 hlen hys
    go_wp2
    go_ret
    have hF1 := (hFa.out.go hrd1.out fun _ e => .inl e).go (Fr.set _ C.gg 10 (.int .i64 (D.next + 1))) fun _ e => .inl e
    have hf3 : Fr (GE C D) (w2.setCell ⟨C.gg, 12, none⟩ (.slice B2 (ys.length + 1) d2)) ((w2.setCell ⟨C.gg, 12, none⟩ (.slice B2 (ys.length + 1) d2)).setCell ⟨C.gg, 10, none⟩ (.int .i64 (D.next + 1))) := (Fr.set _ C.gg 10 _).sub (by rintro q rfl; simp [GE])
    have hf2 : Fr (GE C D) Wa (w2.setCell ⟨C.gg, 12, none⟩ (.slice B2 (ys.length + 1) d2)) := hrd1.out.sub (by rintro q rfl; simp [GE])
    refine ⟨_, V, .slice B2 (ys.length + 1) d2, rfl, hh.out.mem D.tm D.ret (D.next + 1) V _ (D.nid + 1) (hF1.sub fun q e => .inl e) (hh.out.rs.fr hF1 hh.out.hgr hh.out.hgg) ?_ (hba.out.go (hf2.go hf3 fun _ e => .inl e) fun _ e => .inl e) (hrd2.out.go hf3 fun _ e => .inl e) hh.out.wR hn9 hn hi'.out⟩
    exact (heap_set (heap_set hc2.out)).trans (by simp [GD.cells])
def InsR (k : Int) (D D' : GD) : Prop := ∃ (vIn : Value) (nIn : Nat) (cIn : List Value) (next : Int) (vids vws : Value) (nid : Nat), D' = {D with vIn := vIn, nIn := nIn, cIn := cIn, next := next, vids := vids, vws := vws, nid := nid} ∧ D.next ≤ next ∧ next ≤ D.next + k ∧ (nIn : Int) - D.nIn ≤ next - D.next ∧ (nid : Int) - D.nid ≤ next - D.next
def Nm (D : GD) : Prop := (D.nIn : Int) ≤ D.next ∧ (D.nPh : Int) ≤ D.next ∧ (D.nid : Int) ≤ D.next
theorem InsR.refl (D : GD) : InsR 0 D D := ⟨D.vIn, D.nIn, D.cIn, D.next, D.vids, D.vws, D.nid, rfl, by omega, by omega, by omega, by omega⟩
theorem InsR.trans {k k' : Int} {D D' D'' : GD} (h : InsR k D D') (h' : InsR k' D' D'') : InsR (k + k') D D'' := by
  obtain ⟨vIn, nIn, cIn, next, vids, vws, nid, rfl, h1, h2, h3, h4⟩ := h
  obtain ⟨vIn', nIn', cIn', next', vids', vws', nid', rfl, i1, i2, i3, i4⟩ := h'
  simp only at i1 i2 i3 i4
  exact ⟨vIn', nIn', cIn', next', vids', vws', nid', rfl, by omega, by omega, by omega, by omega⟩
theorem InsR.mono {k k' : Int} {D D' : GD} (h : InsR k D D') (hk : k ≤ k') : InsR k' D D' := by
  obtain ⟨vIn, nIn, cIn, next, vids, vws, nid, rfl, h1, h2, h3, h4⟩ := h
  exact ⟨vIn, nIn, cIn, next, vids, vws, nid, rfl, h1, by omega, h3, h4⟩
theorem InsR.next {k : Int} {D D' : GD} (h : InsR k D D') : D.next ≤ D'.next ∧ D'.next ≤ D.next + k := by
  obtain ⟨vIn, nIn, cIn, next, vids, vws, nid, rfl, h1, h2, h3, h4⟩ := h
  exact ⟨h1, h2⟩
theorem InsR.nm {k : Int} {D D' : GD} (h : InsR k D D') (hn : Nm D) : Nm D' := by
  obtain ⟨vIn, nIn, cIn, next, vids, vws, nid, rfl, h1, h2, h3, h4⟩ := h
  obtain ⟨n1, n2, n3⟩ := hn
  exact ⟨by simp only; omega, by simp only; omega, by simp only; omega⟩
def instC (i : XInst) (v : Value) : List Value := [.int .i64 i.op, .int .i64 i.w, .int .i64 i.a, .int .i64 i.b, .int .i64 i.c, .int .i64 i.imm, v]
def RetG (k : Int) (C : GC) (D : GD) (W : World) (e : Ending) (w' : World) : Prop := ∃ q D', e = .returned (.int .i64 q) ∧ GP C D D' W w' ∧ InsR k D D' ∧ Nm D'
def RetG0 (k : Int) (C : GC) (D : GD) (W : World) (e : Ending) (w' : World) : Prop := ∃ D', e = .returned (.tuple #[]) ∧ GP C D D' W w' ∧ InsR k D D' ∧ Nm D'
set_option maxRecDepth 20000 in
set_option maxHeartbeats 4000000 in
theorem s_put (C : GC) (D : GD) (i : XInst) (A : Option Addr) (n c : Nat) (W : World) (h : GS C D W) (hm : Nm D) (hn : D.next + 1 ≤ 900) (hq : Bx (GE C D) (QInst (instC i (.slice A n c))) W) (h0 : (i.op = 24 ∨ i.op = 25) → i.w = 0) : Calls Tryz.prog 156 #[.pointer (some ⟨C.gg, 0, none⟩), instV i (.slice A n c)] W (RetG 1 C D W) := by
  obtain ⟨hm1, hm2, hm3⟩ := hm
  have hn0 := h.n0
  have hl2 := fun W => s_l2Width i (.slice A n c) W h0
  obtain ⟨Wb, hWb⟩ : ∃ Wb : World, Wb = W.alloc (.cells #[.int .i64 i.op, .int .i64 i.w, .int .i64 i.a, .int .i64 i.b, .int .i64 i.c, .int .i64 i.imm, .slice A n c] 26) := ⟨_, rfl⟩
  have hBb : Below W.heap.size W Wb := by rw [hWb]; exact (Below.refl _ _).al (Nat.le_refl _) _
  have hzb : W.heap.size < Wb.heap.size := by rw [hWb]; simp
  have hbx : Hd (∀ j u, (instC i (.slice A n c))[j]? = some u → Wb.cell? ⟨W.heap.size, j, none⟩ = some u) := ⟨fun j u hu => by rw [hWb]; exact new_cell _ _ _ rfl j u (by simpa [instC] using hu)⟩
  have g1 := Hd.mk (h.mv hBb)
  have g2 := Hd.mk (g1.out.trans (g1.out.gs.mv (W' := Wb.drew) (Below.refl _ _).drew))
  have c5 := g1.out.gs.at 5
  simp [GD.cells] at c5
  have hgl : C.gg < Wb.heap.size := g1.out.gs.lt
  have hqb := Hd.mk (hq.go g1.out.fr fun _ e => .inl e)
  have hWb' := Hd.mk hWb
  have hal := Hd.mk fun (o : Obj) => (Below.refl Wb.drew.heap.size Wb.drew).al (Nat.le_refl _) o
  have hoI : Hd (Wb.drew.ownsRow C.fl 26 7 D.vIn D.nIn D.cIn) := ⟨g2.out.gs.oIn⟩
  have hfl : C.fl ≤ Wb.heap.size := by have h7 := g1.out.gs.hgg; omega
  have hrw := Hd.mk (g2.out.gs.out g2.out.gs.oIn (by decide) (by decide))
  have hone : Hd (∀ u ∈ instC i (.slice A n c), u.oneCell' = true) := ⟨by
    intro u hu
    simp only [instC, List.mem_cons, List.not_mem_nil, or_false] at hu
    rcases hu with rfl | rfl | rfl | rfl | rfl | rfl | rfl <;> rfl⟩
  have b0 := hbx.out 0 _ rfl
  have b1 := hbx.out 1 _ rfl
  have b2 := hbx.out 2 _ rfl
  have b3 := hbx.out 3 _ rfl
  have b4 := hbx.out 4 _ rfl
  have b5 := hbx.out 5 _ rfl
  have b6 := hbx.out 6 _ rfl
  have hnI : D.nIn + 1 ≤ 1000 := by omega
  have hnd : D.nid + 1 ≤ 1000 := by omega
  have hle : W.heap.size < Wb.drew.heap.size := hzb
  have hkI := Hd.mk fun k (hk : D.vIn.ownBlock = some k) => (own_blk h.oIn k hk).1
  have hq' := Hd.mk hq
  have hglw := h.lt
  clear hWb h hq hBb
  unfold instV
  go_enter Tryz.func156, Tryz.ntmps156
  go_wp2
  rw [← hWb'.out]
  refine wp_via (fun a a' Wa => ∃ (u6 u7 u8 u9 u10 u11 u12 u13 u14 u15 u16 u17 v' : Value), a' = ((((((((((((a.put (some 6) u6).put (some 7) u7).put (some 8) u8).put (some 9) u9).put (some 10) u10).put (some 11) u11).put (some 12) u12).put (some 13) u13).put (some 14) u14).put (some 15) u15).put (some 16) u16).put (some 17) u17) ∧ Hd (GP C D {D with vIn := v', nIn := D.nIn + 1, cIn := D.cIn ++ instC i (.slice A n c)} W Wa) ∧ Hd (∀ j, Wa.cell? ⟨W.heap.size, j, none⟩ = Wb.cell? ⟨W.heap.size, j, none⟩) ∧ Hd (W.heap.size < Wa.heap.size)) ?_ ?_
  · go_region_law
      ((refine step_appE_at (by rfl) (.tmp 11) (.tmp 13) (by rfl) Tryz.underlying27 infoInst rfl (by decide) (by decide) C.fl D.vIn D.nIn D.cIn (by rfl) (own_mv hoI.out (hal.out _)) _ _ (by rfl) (instC i (.slice A n c)) rfl (fun j u hu => new_cell Wb.drew #[.int .i64 i.op, .int .i64 i.w, .int .i64 i.a, .int .i64 i.b, .int .i64 i.c, .int .i64 i.imm, .slice A n c] 26 rfl j u (by simpa [instC] using hu)) hone.out (by omega) (by simp; omega) ?_
        intro v' w4 ho4 hg4 hn4
        obtain ⟨Av, cv, rfl, -, -⟩ := own_shape ho4
        have hg3 := g2.out.gs.mv (hal.out (.cells #[.int .i64 i.op, .int .i64 i.w, .int .i64 i.a, .int .i64 i.b, .int .i64 i.c, .int .i64 i.imm, .slice A n c] 26))
        have h4c := hg3.gs.at' hg4 (fun e => (hrw.out _ e).1 rfl)
        have f4 := (row_facts h4c).2
        have d5 := (row_facts h4c).1 5
        simp [GD.cells] at d5
        have hgp := Hd.mk (g2.out.trans hg3)
        have h4' := Hd.mk h4c
        have ho4' := Hd.mk ho4
        have hg4' := Hd.mk hg4
        have hn4' := Hd.mk hn4
        have hx4 : Hd (∀ j, w4.cell? ⟨W.heap.size, j, none⟩ = Wb.cell? ⟨W.heap.size, j, none⟩) := ⟨fun j => (World.cell?_of_block (a := ⟨W.heap.size, j, none⟩) (hg4.block _ (by first | omega | (simp; done) | (simp; omega)) (fun e => absurd (hkI.out _ e.symm) (Nat.lt_irrefl _)))).trans (bat (hal.out _) W.heap.size hle j)⟩
        clear h4c ho4 hg4 hn4 hg3))
    all_goals
      unfold Exit.then
      go_simp
      have hz9 : W.heap.size < w4.heap.size := by
        have h9 := hg4'.out.size
        simp at h9
        omega
      have hx9 := fun j => (World.cell?_of_block (a := ⟨W.heap.size, j, none⟩) (Below.heap_setCell w4 ⟨C.gg, 5, none⟩ (.slice Av (D.nIn + 1) cv) W.heap.size (by show W.heap.size ≠ C.gg; omega))).trans (hx4.out j)
      refine ⟨⟨.slice Av (D.nIn + 1) cv, Hd.mk ?_⟩, by first | exact Hd.mk hz9 | exact ⟨Hd.mk hx9, Hd.mk hz9⟩⟩
      · exact hgp.out.trans (hgp.out.gs.insts _ (instC i (.slice A n c)) hg4'.out ho4'.out hn4'.out (hq'.out.go hgp.out.fr fun _ e => .inl e) rfl (Fr.set _ _ _ _) ((heap_set h4'.out).trans (by simp [GD.cells])) hnI)
  · rintro a' Wa ⟨u6, u7, u8, u9, u10, u11, u12, u13, u14, u15, u16, u17, v', rfl, hga, hxa, hza⟩
    have x0 := (hxa.out 0).trans b0
    have x1 := (hxa.out 1).trans b1
    have x2 := (hxa.out 2).trans b2
    have x3 := (hxa.out 3).trans b3
    have x4 := (hxa.out 4).trans b4
    have x5 := (hxa.out 5).trans b5
    have x6 := (hxa.out 6).trans b6
    have k10 := hga.out.gs.at 10
    simp [GD.cells] at k10
    have fz := hga.out.gs.fz
    have hlta := hga.out.gs.lt
    clear b0 b1 b2 b3 b4 b5 b6 hle c5 hgl hzb hglw hfl
    simp only [Act.put, List.setIfInBounds_toArray, List.set_cons_zero, List.set_cons_succ]
    unfold instV at hl2
    obtain ⟨wt, hwt⟩ : ∃ wt, wt = widthOf i := ⟨_, rfl⟩
    rw [← hwt] at hl2
    clear hwt
    go_wp2_with fail
    refine (hl2 Wa).mono ?_; rintro e w5 ⟨rfl, hb5⟩
    have hg5 := Hd.mk (hga.out.trans (hga.out.gs.mv hb5))
    have k10_5 := hg5.out.gs.at 10
    simp [GD.cells] at k10_5
    have fz5 := hg5.out.gs.fz
    have hlt5 := hg5.out.gs.lt
    clear k10 fz hlta x0 x1 x2 x3 x4 x5 x6 hb5
    by_cases hw : wt = 0
    · subst hw
      go_wp2
      go_ret
      exact ⟨_, {D with vIn := v', nIn := D.nIn + 1, cIn := D.cIn ++ instC i (.slice A n c), next := D.next + 1}, rfl, hg5.out.trans (hg5.out.gs.upd D.tm D.ret (D.next + 1) D.vids D.vws D.nid (Fr.set _ _ _ _) ((heap_set hg5.out.gs.cell).trans (by simp [GD.cells])) hg5.out.gs.eI hg5.out.gs.eW hg5.out.gs.wR (by first | omega | (simp only; omega)) (by omega) (by first | omega | (simp only; omega))), ⟨_, _, _, D.next + 1, _, _, _, rfl, by omega, by omega, by omega, by omega⟩, ⟨by first | omega | (simp only; omega), by first | omega | (simp only; omega), by first | omega | (simp only; omega)⟩⟩
    · have tw := beqF hw
      have hadd := fun W' hW' => s_add C {D with vIn := v', nIn := D.nIn + 1, cIn := D.cIn ++ instC i (.slice A n c)} wt W' hW' (by first | omega | (simp only; omega)) (by first | omega | (simp only; omega))
      go_wp2_with fail
      refine (hadd _ hg5.out.gs).mono ?_; rintro e w6 ⟨q, vids, vws, rfl, hg6⟩
      have hg6' := Hd.mk hg6
      clear hg6 hadd
      go_wp2
      go_ret
      exact ⟨_, {D with vIn := v', nIn := D.nIn + 1, cIn := D.cIn ++ instC i (.slice A n c), next := D.next + 1, vids := vids, vws := vws, nid := D.nid + 1}, rfl, hg5.out.trans hg6'.out, ⟨_, _, _, D.next + 1, _, _, _, rfl, by omega, by omega, by omega, by first | omega | (simp only; omega)⟩, ⟨by first | omega | (simp only; omega), by first | omega | (simp only; omega), by first | omega | (simp only; omega)⟩⟩
set_option maxRecDepth 20000 in
set_option maxHeartbeats 4000000 in
theorem s_phi (C : GC) (D : GD) (wd : Int) (A : Option Addr) (n c : Nat) (W : World) (h : GS C D W) (hm : Nm D) (hn : D.next + 1 ≤ 900) (hq : Bx (GE C D) (QPhi [.int .i64 wd, .slice A n c]) W) : Calls Tryz.prog 160 #[.pointer (some ⟨C.gg, 0, none⟩), .int .i64 wd, .slice A n c] W (fun e w' => ∃ q v' vids vws, e = .returned (.int .i64 q) ∧ GP C D {D with vPh := v', nPh := D.nPh + 1, cPh := D.cPh ++ [.int .i64 wd, .slice A n c], next := D.next + 1, vids := vids, vws := vws, nid := D.nid + 1} W w') := by
  obtain ⟨hm1, hm2, hm3⟩ := hm
  have hn0 := h.n0
  have c4 := h.at 4
  simp [GD.cells] at c4
  have hgl := h.lt
  have hal := Hd.mk fun (o : Obj) => (Below.refl W.heap.size W).al (Nat.le_refl _) o
  have hoP := Hd.mk h.oPh
  have hfl : C.fl ≤ W.heap.size := by have h7 := h.hgg; omega
  have hrw := Hd.mk (h.out h.oPh (by decide) (by decide))
  have hone : Hd (∀ u ∈ [Value.int .i64 wd, .slice A n c], u.oneCell' = true) := ⟨by
    intro u hu
    simp only [List.mem_cons, List.not_mem_nil, or_false] at hu
    rcases hu with rfl | rfl <;> rfl⟩
  have hnP : D.nPh + 1 ≤ 1000 := by omega
  have hh := Hd.mk h
  have hq' := Hd.mk hq
  clear h hq
  go_enter Tryz.func160, Tryz.ntmps160
  go_wp2_with (at_builtin; refine appE_at rfl _ _ rfl Tryz.underlying30 infoPhi rfl (by decide) (by decide) C.fl D.vPh D.nPh D.cPh rfl (own_mv hoP.out (hal.out _)) _ _ rfl [.int .i64 wd, .slice A n c] rfl (fun j u hu => new_cell W #[.int .i64 wd, .slice A n c] 165 rfl j u (by simpa using hu)) hone.out (by omega) (by simp; omega) ?_)
  intro v' w4 ho4 hg4 hn4
  obtain ⟨Av, cv, rfl, -, -⟩ := own_shape ho4
  have hg3 := hh.out.mv (hal.out (.cells #[.int .i64 wd, .slice A n c] 165))
  have h4c := hg3.gs.at' hg4 (fun e => (hrw.out _ e).1 rfl)
  have f4 := (row_facts h4c).2
  have d4 := (row_facts h4c).1 4
  simp [GD.cells] at d4
  have hgp := Hd.mk (hg3.trans (hg3.gs.phis _ [.int .i64 wd, .slice A n c] hg4 ho4 (by rw [World.size_alloc]; exact hn4) (hq'.out.go hg3.fr fun _ e => .inl e) rfl (Fr.set _ C.gg 4 (.slice Av (D.nPh + 1) cv)) ((heap_set h4c).trans (by simp [GD.cells])) hnP))
  clear h4c ho4 hg4 hn4 hg3
  have hadd := fun W' hW' => s_add C {D with vPh := .slice Av (D.nPh + 1) cv, nPh := D.nPh + 1, cPh := D.cPh ++ [.int .i64 wd, .slice A n c]} wd W' hW' (by first | omega | (simp only; omega)) (by first | omega | (simp only; omega))
  go_wp2_with fail
  refine (hadd _ hgp.out.gs).mono ?_; rintro e w6 ⟨q, vids, vws, rfl, hg6⟩
  have hg6' := Hd.mk hg6
  clear hg6 hadd
  go_wp2
  go_ret
  exact ⟨_, _, vids, vws, rfl, hgp.out.trans hg6'.out⟩
set_option maxHeartbeats 1000000 in
theorem s_belowN (lo g : Nat) (n : Int) (w : World) (h : RdS lo w g) (hn : 1 ≤ n ∧ n ≤ 60000) : Calls Tryz.prog 52 #[.pointer (some ⟨g, 0, none⟩), .int .i64 n] w (RetRd lo g (fun v => ∃ q : Int, v = .int .i64 q ∧ 0 ≤ q ∧ q < n) w) := by
  by_cases h256 : n ≤ 256
  · exact s_below lo g n w h ⟨hn.1, h256⟩
  obtain ⟨n1, n2⟩ := hn
  have hx := s_next lo g w h
  have hm : ∀ q : Int, 0 ≤ q → 0 ≤ q % n ∧ q % n < n := fun q hq => ⟨Int.emod_nonneg _ (by omega), Int.emod_lt_of_pos _ (by omega)⟩
  have hm' := Hd.mk hm
  have hd : ¬ n ≤ 1 := by omega
  clear h hm
  go_enter Tryz.func52, Tryz.ntmps52
  go_wp2_with fail
  refine hx.mono ?_; rintro e w1 ⟨v, rfl, ⟨q, rfl, q1, q2⟩, hr, hg⟩
  have hy := s_next lo g w1 hr
  have hg' := Hd.mk hg
  clear hr hg
  go_wp2_with fail
  refine hy.mono ?_; rintro e w2 ⟨v, rfl, ⟨p, rfl, p1, p2⟩, hr, hg⟩
  have hg2 := Hd.mk (gb_trans hg'.out hg)
  have hr2 := Hd.mk hr
  have hm2 := Hd.mk (hm'.out (q * 256 + p) (by omega))
  clear hr hg
  go_wp2
  go_ret
  exact ⟨_, rfl, ⟨_, rfl, hm2.out.1, hm2.out.2⟩, hr2.out, hg2.out⟩
theorem no24 {o w : Int} (h : o ≠ 24) (h' : o ≠ 25) : (o = 24 ∨ o = 25) → w = 0 := fun e => by
  rcases e with e | e
  · exact absurd e h
  · exact absurd e h'
theorem kinst_nil (op wd a b c imm : Int) (E : Nat → Prop) (W : World) : Bx E (QInst (instC ⟨op, wd, a, b, c, imm, []⟩ (.slice none 0 0))) W := fun _ _ => ⟨⟨op, wd, a, b, c, imm, []⟩, trivial, _, rfl, rd_nilK⟩
set_option maxRecDepth 20000 in
set_option maxHeartbeats 4000000 in
theorem s_pick (C : GC) (D : GD) (wd : Int) (W : World) (h : GS C D W) (hm : Nm D) (hn : D.next + 1 ≤ 900) (hw : isW wd) : Calls Tryz.prog 157 #[.pointer (some ⟨C.gg, 0, none⟩), .int .i64 wd] W (RetG 1 C D W) := by
  have hn0 := h.n0
  have hh := Hd.mk h
  obtain ⟨A1, c1, xs, e1, l1, r1⟩ := bx_ri h.eI
  obtain ⟨A2, c2, ys, e2, l2, r2⟩ := bx_ri h.eW
  have hi9 : D.nid ≤ 1000 := h.n4
  have k0 := h.at 0
  have k11 := h.at 11
  have k12 := h.at 12
  simp [GD.cells] at k0 k11 k12
  rw [e1] at k11
  rw [e2] at k12
  have r1' := Hd.mk r1
  have r2' := Hd.mk r2
  have l1' := Hd.mk l1
  have l2' := Hd.mk l2
  have hlt := h.lt
  clear h e1 e2 r1 r2 l1 l2
  go_enter Tryz.func157, Tryz.ntmps157
  go_wp2
  go_loopw [5, 6] (fun s5 s6 wr => ∃ (k : Nat) (fs : List Int), k ≤ D.nid ∧ s6 = .int .i64 k ∧ Hd (wr.ownsRow W.heap.size 2 1 s5 fs.length (fs.map (.int .i64))) ∧ Hd (fs.length ≤ k) ∧ Hd (Below W.heap.size W wr)) (fun _ s6 _ => D.nid - (intOf s6).toNat)
  case atStart => exact ⟨0, [], Nat.zero_le _, rfl, ⟨own_empty _ _ _ _ _ rfl (Nat.le_refl _)⟩, ⟨Nat.le_refl _⟩, ⟨(Below.refl _ _).al (Nat.le_refl _) _⟩⟩
  case round =>
    obtain ⟨k, fs, hk, rfl, ho, hfk, hbr⟩ := hrel
    have j11 := (bat hbr.out C.gg hlt 11).trans k11
    have j12 := (bat hbr.out C.gg hlt 12).trans k12
    have j0 := (bat hbr.out C.gg hlt 0).trans k0
    have hltr : C.gg < wr.heap.size := Nat.lt_of_lt_of_le hlt hbr.out.size
    by_cases hlk : k < D.nid
    · obtain ⟨b, off, cs, hA, hbl, hk1, hat⟩ := (r2'.out _ hbr.out).in0 (Below.refl _ _) k (by have := l2'.out; omega)
      cases hA
      cases hk1
      have g0 := hat 0 _ rfl
      simp at g0
      clear hat
      obtain ⟨b2, off2, cs, hA, hbl2, hk1, hat⟩ := (r1'.out _ hbr.out).in0 (Below.refl _ _) k (by have := l1'.out; omega)
      cases hA
      cases hk1
      have f0 := hat 0 _ rfl
      simp at f0
      clear hat
      have hzk : (k : Int) < (D.nid : Int) := by omega
      have hz0 : (0 : Int) ≤ (k : Int) := by omega
      generalize xs[k]'_ = x at *
      generalize ys[k]'_ = y at *
      have hal := Hd.mk fun (o : Obj) => (Below.refl wr.heap.size wr).al (Nat.le_refl _) o
      by_cases he : y = wd
      · have d : (y == wd) = true := by simpa using he
        go_wp2_with (at_builtin; refine app_I rfl _ _ rfl W.heap.size _ fs [x] rfl (own_mv ho.out (hal.out _)) _ 1 1 rfl (rd_one _ _) (by have := hfk.out; omega) (by have := hbr.out.size; simp; omega) ?_)
        intro v' w' ho' hg'
        have hb' := Hd.mk (gb_fresh (hbr.out.then (hal.out _)) hg' (own_mv ho.out (hal.out _)) (Nat.le_refl _))
        have ho2 := Hd.mk ho'
        clear ho' hg'
        go_wp2
        go_roundw
        case rel => exact ⟨k + 1, fs ++ [x], by omega, by go_num, ⟨by simpa using ho2.out⟩, ⟨by have := hfk.out; simp; omega⟩, hb'⟩
        case measure => simp [intOf]; omega
      · have d := beqF he
        go_wp2
        go_roundw
        case rel => exact ⟨k + 1, fs, by omega, by go_num, ho, ⟨by have := hfk.out; omega⟩, hbr⟩
        case measure => simp [intOf]; omega
    · have hlk' : ¬ (k : Int) < (D.nid : Int) := by omega
      have hgw := Hd.mk (hh.out.mv hbr.out)
      obtain ⟨A5, c5, rfl, -, -, -, hA5⟩ := own_shape ho.out
      have hri := Hd.mk (fun X (hX : Below wr.heap.size wr X) => ((OwI.of ho.out).rd (by have := hfk.out; show _ ≤ 1048576; omega)).mv hX)
      have hm9 : fs.length ≤ 1000 := by have := hfk.out; omega
      have hm' := Hd.mk hm
      have hgr9 : C.gr < W.heap.size := hh.out.rs.lt
      clear j12 hA5 k0 k11 k12 r1' r2' hbr hm
      by_cases hz : fs.length = 0
      · have d : ((fs.length : Int) == 0) = true := by simp [hz]
        have hrs := hgw.out.gs.rs
        have j0x := hgw.out.gs.at 0
        simp [GD.cells] at j0x
        clear j0 hrs
        have hval := s_value C.lo C.gr wd _ hgw.out.gs.rs hw
        rcases hw with rfl | rfl | rfl | rfl
        all_goals
          go_wp2_with fail
          refine hval.mono ?_; rintro e w8 ⟨v, rfl, ⟨x, rfl⟩, hr8, hg8⟩
          have hg9 := Hd.mk (hgw.out.trans (hgw.out.gs.rd hg8 hr8))
          clear hr8 hg8 hval
          go_wp2_with fail
          refine (s_put C D ⟨21, _, 0, 0, 0, _, []⟩ none 0 0 _ hg9.out.gs hm'.out hn (kinst_nil _ _ _ _ _ _ _ _) (no24 (show (21 : Int) ≠ 24 by decide) (show (21 : Int) ≠ 25 by decide))).mono ?_
          rintro e w9 ⟨q, D', rfl, hgp, hin, hnm⟩
          have hgp' := Hd.mk (hg9.out.trans hgp)
          have hin' := Hd.mk hin
          have hnm' := Hd.mk hnm
          clear hgp hin hnm
          go_wp2
          go_ret
          exact ⟨_, D', rfl, hgp'.out, hin'.out, hnm'.out⟩
      · have d : ((fs.length : Int) == 0) = false := by simpa using hz
        have honce := s_once C.lo C.gr 5 wr hgw.out.gs.rs (by omega)
        go_wp2_with fail
        refine honce.mono ?_; rintro e w2 ⟨v, rfl, ⟨bb, rfl⟩, hr2, hg2⟩
        have hgx := Hd.mk (hgw.out.trans (hgw.out.gs.rd hg2 hr2))
        have ho2 := Hd.mk (own_fr ho.out (Fr.gb hg2) (fun k' e e' => by have := own_block_ge ho.out k' e; injection e' with e'; omega))
        clear hr2 hg2 honce
        cases bb with
        | true =>
          have hrs := hgx.out.gs.rs
          have j0x := hgx.out.gs.at 0
          simp [GD.cells] at j0x
          clear j0 hrs
          have hval := s_value C.lo C.gr wd _ hgx.out.gs.rs hw
          rcases hw with rfl | rfl | rfl | rfl
          all_goals
            go_wp2_with fail
            refine hval.mono ?_; rintro e w8 ⟨v, rfl, ⟨x, rfl⟩, hr8, hg8⟩
            have hg9 := Hd.mk (hgx.out.trans (hgx.out.gs.rd hg8 hr8))
            clear hr8 hg8 hval
            go_wp2_with fail
            refine (s_put C D ⟨21, _, 0, 0, 0, _, []⟩ none 0 0 _ hg9.out.gs hm'.out hn (kinst_nil _ _ _ _ _ _ _ _) (no24 (show (21 : Int) ≠ 24 by decide) (show (21 : Int) ≠ 25 by decide))).mono ?_
            rintro e w9 ⟨q, D', rfl, hgp, hin, hnm⟩
            have hgp' := Hd.mk (hg9.out.trans hgp)
            have hin' := Hd.mk hin
            have hnm' := Hd.mk hnm
            clear hgp hin hnm
            go_wp2
            go_ret
            exact ⟨_, D', rfl, hgp'.out, hin'.out, hnm'.out⟩
        | false =>
          have hrs := s_belowN C.lo C.gr ((fs.length : Int) + 2) w2 hgx.out.gs.rs (by omega)
          have j0x := hgx.out.gs.at 0
          simp [GD.cells] at j0x
          clear j0
          go_wp2_with fail
          refine hrs.mono ?_; rintro e w3 ⟨v, rfl, ⟨q, rfl, q1, q2⟩, hr3, hg3⟩
          have ho3 := own_fr ho2.out (Fr.gb hg3) (fun k' e e' => by have := own_block_ge ho.out k' e; injection e' with e'; omega)
          have hgy := Hd.mk (hgx.out.trans (hgx.out.gs.rd hg3 hr3))
          obtain ⟨A6, c6, hv6, -, -, -, hA6⟩ := own_shape ho3
          cases hv6
          obtain ⟨b6, rfl, hb6, hc6⟩ := hA6 (by omega)
          have hc6' := Hd.mk hc6
          have hin : InsR 1 D D := (InsR.refl D).mono (by omega)
          have hin' := Hd.mk hin
          clear hr3 hg3 ho3 hc6 hA6 hrs hri ho ho2 hfk hk l1' l2' hin
          by_cases hq : (fs.length : Int) ≤ q
          · obtain ⟨p, hp⟩ : ∃ p, fs.length = p + 1 := ⟨fs.length - 1, by omega⟩
            have g6 := hc6'.out p (.int .i64 (fs[p]'(by omega))) (by simp)
            generalize fs[p]'_ = y6 at *
            have hwp : IntKind.i64.wrap (p : Int) = p := IntWalk.i64_in _ (by omega)
            rw [hp] at hq d q2 hm9 ⊢
            have i0 : (0 : Int) ≤ (p : Int) := by omega
            have i1 : (p : Int) < (p : Int) + 1 := by omega
            have i2 : p < p + 1 := by omega
            go_wp2
            go_ret
            exact ⟨_, D, rfl, hgy.out, hin'.out, hm'.out⟩
          · obtain ⟨j, rfl⟩ : ∃ j : Nat, q = j := ⟨q.toNat, by omega⟩
            have hj : j < fs.length := by omega
            have g6 := hc6'.out j (.int .i64 (fs[j]'hj)) (by simp)
            generalize fs[j]'_ = y6 at *
            have i1 : (j : Int) < (fs.length : Int) := by omega
            have i0 : (0 : Int) ≤ (j : Int) := by omega
            go_wp2
            go_ret
            exact ⟨_, D, rfl, hgy.out, hin'.out, hm'.out⟩
end Go.Proofs.YtkcgejbnhpccdaaGreat
