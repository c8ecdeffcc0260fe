import Derived.Test.YtkcgejbnhpccdaaGreatT20
import Derived.StillTailTactics
set_option linter.unusedSimpArgs false
set_option linter.unusedVariables false
namespace Go.Proofs.YtkcgejbnhpccdaaGreat
open Go.RowKit
theorem appE_at {ops : Array Oper} {rest : List Oper} {o : Oper} {a : Act} {Q : Exit → Act → World → Prop} {W : World} {t e : TypeId} {z : Value} {sz bytes : Nat} (hgd : o.guard = none) (s x : Operand)
    (ho : o.op = .call { callee := .builtin .append, args := #[s, x], argTypes := #[t, t] }) (ht : Tryz.prog.underlying t = some (.slice e)) (hi : (Tryz.prog.info? e).map (fun i => (i.zero, i.size, i.bytes)) = some (some z, sz, bytes)) (hzs : z.cells.size = sz) (hsz : 0 < sz) (hby : bytes ≤ 1000)
    (base : Nat) (v : Value) (n : Nat) (cells : List Value) (hs : a.eval s = v) (hown : W.ownsRow base e sz v n cells) (g c : Nat) (hx : a.eval x = .slice (some ⟨g, 0, none⟩) 1 c) (cs : List Value) (hcl : cs.length = sz) (hnews : ∀ j u, cs[j]? = some u → W.cell? ⟨g, j, none⟩ = some u) (h1 : ∀ u ∈ cs, u.oneCell' = true) (hn : n + 1 ≤ 1000000) (hb : base ≤ W.heap.size)
    (hK : ∀ v' w', w'.ownsRow base e sz v' (n + 1) (cells ++ cs) → W.grownBy w' v.ownBlock → (v'.ownBlock = v.ownBlock ∨ v'.ownBlock = some W.heap.size) → wpList Tryz.prog ops Q rest (a.put o.dst v') w') : wpList Tryz.prog ops Q (o :: rest) a W := by
  refine wpList_plain hgd fun K hK' => ?_
  obtain ⟨i0, hi, hz0, hz1, hz2⟩ := info_parts hi
  have hbb : (n + 1) * bytes ≤ 140737488355328 := Nat.le_trans (Nat.mul_le_mul hn hby) (by decide)
  obtain ⟨v', w', hrun, r1, r2, _, r4⟩ := run_append_own_at (P := Tryz.prog) W base t o.type e i0 z sz bytes ht hi hz0 hz1 hz2 hzs hsz v n cells hown ⟨g, 0, none⟩ 1 c cs (by omega) (fun j u hu => by have ea : (⟨g, 0, none⟩ : Addr).add j = ⟨g, j, none⟩ := (by unfold Addr.add; by_cases h0 : j = 0 <;> simp [h0]); rw [ea]; exact hnews j u hu) h1 (by unfold maxLen; omega) hbb hb
  unfold Oper.wp
  simp [execOp, ho, resolve, invoke, builtin, hs, hx, hrun, Result.andThen]
  exact hK' _ _ (hK v' w' r1 r2 r4)
theorem step_appE_at {ops : Array Oper} {o : Oper} {a : Act} {K : Act → World → Prop} {Q : Exit → Act → World → Prop} {E : Prop} {W : World} {t e : TypeId} {z : Value} {sz bytes : Nat} (hgd : o.guard = none) (s x : Operand)
    (ho : o.op = .call { callee := .builtin .append, args := #[s, x], argTypes := #[t, t] }) (ht : Tryz.prog.underlying t = some (.slice e)) (hi : (Tryz.prog.info? e).map (fun i => (i.zero, i.size, i.bytes)) = some (some z, sz, bytes)) (hzs : z.cells.size = sz) (hsz : 0 < sz) (hby : bytes ≤ 1000)
    (base : Nat) (v : Value) (n : Nat) (cells : List Value) (hs : a.eval s = v) (hown : W.ownsRow base e sz v n cells) (g c : Nat) (hx : a.eval x = .slice (some ⟨g, 0, none⟩) 1 c) (cs : List Value) (hcl : cs.length = sz) (hnews : ∀ j u, cs[j]? = some u → W.cell? ⟨g, j, none⟩ = some u) (h1 : ∀ u ∈ cs, u.oneCell' = true) (hn : n + 1 ≤ 1000000) (hb : base ≤ W.heap.size)
    (hK : ∀ v' w', w'.ownsRow base e sz v' (n + 1) (cells ++ cs) → W.grownBy w' v.ownBlock → (v'.ownBlock = v.ownBlock ∨ v'.ownBlock = some W.heap.size) → K (a.put o.dst v') w') : if Region.wanted o (yielded ops a.tmps) = true then Oper.wp Tryz.prog o a W K Q else E := by
  have hw : Region.wanted o (yielded ops a.tmps) = true := by simp [Region.wanted, hgd]
  rw [if_pos hw]
  obtain ⟨i0, hi, hz0, hz1, hz2⟩ := info_parts hi
  have hbb : (n + 1) * bytes ≤ 140737488355328 := Nat.le_trans (Nat.mul_le_mul hn hby) (by decide)
  obtain ⟨v', w', hrun, r1, r2, _, r4⟩ := run_append_own_at (P := Tryz.prog) W base t o.type e i0 z sz bytes ht hi hz0 hz1 hz2 hzs hsz v n cells hown ⟨g, 0, none⟩ 1 c cs (by omega) (fun j u hu => by have ea : (⟨g, 0, none⟩ : Addr).add j = ⟨g, j, none⟩ := (by unfold Addr.add; by_cases h0 : j = 0 <;> simp [h0]); rw [ea]; exact hnews j u hu) h1 (by unfold maxLen; omega) hbb hb
  unfold Oper.wp
  simp [execOp, ho, resolve, invoke, builtin, hs, hx, hrun, Result.andThen]
  exact hK v' w' r1 r2 r4
theorem GS.at {C : GC} {D : GD} {W : World} (h : GS C D W) (j : Nat) : W.cell? ⟨C.gg, j, none⟩ = (D.cells C)[j]? := by
  rw [(row_facts h.cell).1 j]; simp
theorem GS.fz {C : GC} {D : GD} {W : World} (h : GS C D W) (j : Nat) : W.frozen? ⟨C.gg, j, none⟩ = false := (row_facts h.cell).2 j
theorem GS.lt {C : GC} {D : GD} {W : World} (h : GS C D W) : C.gg < W.heap.size := (Array.getElem?_eq_some_iff.1 h.cell).1
theorem own_one {w : World} {base e sz n : Nat} {v : Value} {cs : List Value} (h : w.ownsRow base e sz v n cs) : v.oneCell' = true := by
  rcases h.2 with ⟨rfl, _⟩ | ⟨g, cap, cur, rfl, _⟩ <;> rfl
theorem RdS.fr {lo g gg fl : Nat} {W W' : World} (h : RdS lo W g) (hF : Fr (fun q => q = gg) W W') (hg : g < fl) (hgg : fl ≤ gg) : RdS lo W' g := by
  obtain ⟨h1, A, n, c, p, h2, h3, h4, h5⟩ := h
  have hlt := (Array.getElem?_eq_some_iff.1 h2).1
  refine ⟨h1, A, n, c, p, (hF.block g hlt (by omega)).trans h2, h3, h4, fun i hi => ?_⟩
  obtain ⟨b, off, q, k1, k2, k3, k4, k5⟩ := h5 i hi
  refine ⟨b, off, q, k1, k2, k3, k4, ?_⟩
  rw [← k5]
  exact World.cell?_of_block (hF.block b (by omega) (by omega))
theorem GS.upd {C : GC} {D : GD} {W W' : World} (h : GS C D W) (tm : XTerm) (ret next : Int) (vids vws : Value) (nid : Nat) (hF : Fr (fun q => q = C.gg) W W')
    (hc : W'.heap[C.gg]? = some (.cells (GD.cells {D with tm := tm, ret := ret, next := next, vids := vids, vws := vws, nid := nid} C).toArray 141 (0, 0)))
    (hi : Bx (GE C D) (QI vids nid) W) (hw : Bx (GE C D) (QI vws nid) W) (hr : isW ret) (b1 : 0 ≤ next) (b2 : next ≤ 900) (b3 : nid ≤ 1000) : GP C D {D with tm := tm, ret := ret, next := next, vids := vids, vws := vws, nid := nid} W W' := by
  have hf : Fr (GE C D) W W' := hF.sub (by rintro q rfl; simp [GE])
  exact h.mem tm ret next vids vws nid (hF.sub fun q e => .inl e) (h.rs.fr hF h.hgr h.hgg) hc (hi.go hf fun _ e => .inl e) (hw.go hf fun _ e => .inl e) hr b1 b2 b3
theorem GS.at' {C : GC} {D : GD} {W W' : World} {r : Option Nat} (h : GS C D W) (hg : W.grownBy W' r) (hr : r ≠ some C.gg) : W'.heap[C.gg]? = some (.cells (D.cells C).toArray 141 (0, 0)) := (hg.block _ h.lt (fun e => hr e.symm)).trans h.cell
set_option maxRecDepth 20000 in
set_option maxHeartbeats 4000000 in
theorem s_close (C : GC) (D : GD) (t : XTerm) (W : World) (h : GS C D W) (hn : D.nB + 1 ≤ 100) : Calls Tryz.prog 159 #[.pointer (some ⟨C.gg, 0, none⟩), .agg #[.int .i64 t.kind, .int .i64 t.a, .int .i64 t.x, .int .i64 t.y]] W (fun e w' => ∃ v', e = .returned (.tuple #[]) ∧ GP C D (closed {D with tm := t} v') W w' ∧ Fr (fun q => q = C.gg ∨ D.vB.ownBlock = some q) W w') := by
  have k6 := h.at 6
  have k7 := h.at 7
  have k8 := h.at 8
  have k9 := h.at 9
  simp [GD.cells] at k6 k7 k8 k9
  have f0 := h.fz
  have hlt := h.lt
  obtain ⟨W1, hW1⟩ : ∃ W1 : World, W1 = (((((W.setCell ⟨C.gg, 6, none⟩ (.int .i64 t.kind)).setCell ⟨C.gg, 7, none⟩ (.int .i64 t.a)).setCell ⟨C.gg, 8, none⟩ (.int .i64 t.x)).setCell ⟨C.gg, 9, none⟩ (.int .i64 t.y)).alloc (.cells #[.int .i64 t.kind, .int .i64 t.a, .int .i64 t.x, .int .i64 t.y] 29)) := ⟨_, rfl⟩
  have hF1 : Fr (fun q => q = C.gg) W W1 := by
    rw [hW1]
    exact ((((Fr.set W _ 6 _).go (Fr.set _ _ 7 _) fun _ e => .inl e).go (Fr.set _ _ 8 _) fun _ e => .inl e).go (Fr.set _ _ 9 _) fun _ e => .inl e).then ((Below.refl _ _).al (Nat.le_refl _) _)
  have g1 : GP C D {D with tm := t} W W1 := h.upd t D.ret D.next D.vids D.vws D.nid hF1 (by
    rw [hW1]
    exact heap_old (heap_set (heap_set (heap_set (heap_set h.cell)))) (by simpa [World.setCell] using hlt)) h.eI h.eW h.wR h.n0 h.n1 h.n4
  have g2 := Hd.mk (g1.trans (g1.gs.mv (W' := W1.drew) (Below.refl _ _).drew))
  have hF1' := Hd.mk hF1
  have hW1' := Hd.mk hW1
  clear hW1 g1 hF1
  have c3 := g2.out.gs.at 3
  have c4 := g2.out.gs.at 4
  have c5 := g2.out.gs.at 5
  have c6 := g2.out.gs.at 6
  have c7 := g2.out.gs.at 7
  have c8 := g2.out.gs.at 8
  have c9 := g2.out.gs.at 9
  simp [GD.cells] at c3 c4 c5 c6 c7 c8 c9
  have hgl : C.gg < W1.heap.size := g2.out.gs.lt
  have hh := Hd.mk h
  clear h
  go_enter Tryz.func159, Tryz.ntmps159
  go_wp2
  rw [← hW1'.out]
  clear k6 k7 k8 k9 f0 hlt
  have hW2 : ∃ W2 : World, W2 = W1.drew := ⟨_, rfl⟩
  obtain ⟨D1, hD1⟩ : ∃ D1 : GD, D1 = {D with tm := t} := ⟨_, rfl⟩
  have g2' : Hd (GP C D D1 W W1.drew) := ⟨by rw [hD1]; exact g2.out⟩
  have hal := Hd.mk fun (o : Obj) => (Below.refl W1.drew.heap.size W1.drew).al (Nat.le_refl _) o
  have hoB : Hd (W1.drew.ownsRow C.fl 32 6 D.vB D.nB D.cB) := ⟨g2.out.gs.oB⟩
  have hone : ∀ u ∈ [D.vPh, D.vIn, .int .i64 t.kind, .int .i64 t.a, .int .i64 t.x, .int .i64 t.y], u.oneCell' = true := by
    have h1 := own_one g2.out.gs.oPh
    have h2 := own_one g2.out.gs.oIn
    intro u hu
    simp only [List.mem_cons, List.not_mem_nil, or_false] at hu
    rcases hu with rfl | rfl | rfl | rfl | rfl | rfl
    · exact h1
    · exact h2
    all_goals rfl
  have hone' := Hd.mk hone
  have hfl : C.fl ≤ W1.heap.size := by have h7 := g2.out.gs.hgg; have h8 : C.gg < W1.heap.size := hgl; omega
  have hrw := g2.out.gs.out g2.out.gs.oB (by decide) (by decide)
  have hrw' := Hd.mk hrw
  clear hone hrw g2
  go_region_law
    ((refine step_appE_at rfl _ _ rfl Tryz.underlying33 infoBlock rfl (by decide) (by decide) C.fl _ D.nB D.cB rfl (own_mv hoB.out (hal.out _)) _ _ rfl [D.vPh, D.vIn, .int .i64 t.kind, .int .i64 t.a, .int .i64 t.x, .int .i64 t.y] rfl (fun j u hu => new_cell _ _ _ (by simp) j u (by simpa using hu)) hone'.out (by omega) (by simp; omega) ?_
      intro v' w4 ho4 hg4 hn4
      obtain ⟨Av, cv, rfl, -, -⟩ := own_shape ho4
      have hgs3 := g2'.out.gs.mv (hal.out (.cells #[D.vPh, D.vIn, .int .i64 t.kind, .int .i64 t.a, .int .i64 t.x, .int .i64 t.y] 32))
      have hg3 := Hd.mk hgs3
      have h4c := hgs3.gs.at' hg4 (fun e => (hrw'.out _ e).1 rfl)
      have c4' := (row_facts h4c).1
      have f4 := (row_facts h4c).2
      have d3 := c4' 3
      have d4 := c4' 4
      have d5 := c4' 5
      have d6 := c4' 6
      have d7 := c4' 7
      have d8 := c4' 8
      have d9 := c4' 9
      have h4' := Hd.mk h4c
      simp [GD.cells, hD1] at d3 d4 d5 d6 d7 d8 d9
      clear c4' h4c c3 c4 c5 c6 c7 c8 c9
      have ho4' := Hd.mk ho4
      have hg4' := Hd.mk hg4
      have hn4' := Hd.mk hn4
      clear ho4 hg4 hn4 hgs3))
  all_goals
    go_wp2
    go_end0
    subst hD1
    have hgp := g2'.out.trans hg3.out
    have hcl := fun W3 hs hc => GS.close (W := (W1.alloc (.cells #[D.vPh, D.vIn, .int .i64 t.kind, .int .i64 t.a, .int .i64 t.x, .int .i64 t.y] 32)).drew) (W3 := W3) hgp.gs _ hg4'.out ho4'.out hn4'.out hs hc (show D.nB + 1 ≤ 100 from hn)
    have hfr := fun W3 (h : Fr (fun q => q = C.gg ∨ D.vB.ownBlock = some q) (W1.alloc (.cells #[D.vPh, D.vIn, .int .i64 t.kind, .int .i64 t.a, .int .i64 t.x, .int .i64 t.y] 32)).drew W3) => ((hF1'.out.sub (fun q e => .inl e)).then ((Below.refl _ _).al (Nat.le_refl _) _).drew).go h fun _ e => .inl e
    refine ⟨rfl, ⟨_, hgp.trans (hcl _ ?hs ?hc).1⟩, hfr _ (hcl _ ?hs ?hc).2⟩
    case hs =>
      repeat (refine Fr.go ?_ (Fr.set _ _ _ _) fun _ e => .inl e)
      exact Fr.refl _ _
    case hc =>
      refine (heap_set (heap_set (heap_set (heap_set (heap_set (heap_set (heap_set h4'.out))))))).trans ?_
      simp [GD.cells, closed]
end Go.Proofs.YtkcgejbnhpccdaaGreat
