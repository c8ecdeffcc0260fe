import Derived.Test.YtkcgejbnhpccdaaGreatP40
import Derived.Test.YtkcgejbnhpccdaaGreatP39
set_option linter.unusedSimpArgs false
set_option linter.unusedVariables false
namespace Go.Proofs.YtkcgejbnhpccdaaGreat
open Go.RowKit
def BlkR (k : Nat) (j : Int) (D D' : GD) : Prop := D'.ps = D.ps ∧ D'.ret = D.ret ∧ D'.ex = D.ex ∧ D'.nB = D.nB + k ∧ Nm D' ∧ D.next ≤ D'.next ∧ D'.next ≤ D.next + j
theorem BlkR.ins {k : Nat} {j i : Int} {D D' D'' : GD} (h : BlkR k j D D') (h' : InsR i D' D'') : BlkR k (j + i) D D'' := by
  obtain ⟨h1, h2, h3, h4, h5, h6, h7⟩ := h
  have hn := h'.nm h5
  obtain ⟨vIn, nIn, cIn, next, vids, vws, nid, rfl, i1, i2, i3, i4⟩ := h'
  exact ⟨h1, h2, h3, h4, hn, by simp only; omega, by simp only; omega⟩
theorem InsR.blk {i : Int} {D D' : GD} (h : InsR i D D') (hn : Nm D) : BlkR 0 i D D' := by
  have hn' := h.nm hn
  obtain ⟨vIn, nIn, cIn, next, vids, vws, nid, rfl, i1, i2, i3, i4⟩ := h
  exact ⟨rfl, rfl, rfl, rfl, hn', i1, i2⟩
theorem BlkR.cls {k : Nat} {j : Int} {D D' : GD} (h : BlkR k j D D') (t : XTerm) (v' : Value) : BlkR (k + 1) j D (closed {D' with tm := t} v') := by
  obtain ⟨h1, h2, h3, h4, ⟨h5, h5', h5''⟩, h6, h7⟩ := h
  exact ⟨h1, h2, h3, by show D'.nB + 1 = _; omega, ⟨by show ((0 : Nat) : Int) ≤ D'.next; omega, by show ((0 : Nat) : Int) ≤ D'.next; omega, h5''⟩, h6, h7⟩
theorem BlkR.mono {k : Nat} {j j' : Int} {D D' : GD} (h : BlkR k j D D') (hj : j ≤ j') : BlkR k j' D D' := by
  obtain ⟨h1, h2, h3, h4, h5, h6, h7⟩ := h
  exact ⟨h1, h2, h3, h4, h5, h6, by omega⟩
def RetB (k : Nat) (j : Int) (C : GC) (D : GD) (W : World) (e : Ending) (w' : World) : Prop := ∃ D', e = .returned (.tuple #[]) ∧ GP C D D' W w' ∧ BlkR k j D D'
set_option maxRecDepth 20000 in
set_option maxHeartbeats 4000000 in
theorem s_ends (C : GC) (D : GD) (W : World) (h : GS C D W) (hm : Nm D) (hn : D.next + 1 ≤ 900) (hb : D.nB + 1 ≤ 100) : Calls Tryz.prog 117 #[.pointer (some ⟨C.gg, 0, none⟩)] W (RetB 1 1 C D W) := by
  have hh := Hd.mk h
  have k0 := h.at 0
  simp [GD.cells] at k0
  have honce := s_once C.lo C.gr 14 W h.rs (by omega)
  have hm' := Hd.mk hm
  clear h hm
  go_enter Tryz.func117, Tryz.ntmps117
  go_wp2_with fail
  refine honce.mono ?_; rintro e w1 ⟨v, rfl, ⟨bb, rfl⟩, hr1, hg1⟩
  have hg := Hd.mk (hh.out.rd hg1 hr1)
  clear hr1 hg1 honce k0
  cases bb with
  | true =>
    go_wp2_with fail
    refine (s_close C D ⟨4, 0, 0, 0⟩ _ hg.out.gs hb).mono ?_; rintro e w2 ⟨v', rfl, hgp, -⟩
    have hgp' := Hd.mk (hg.out.trans hgp)
    clear hgp
    go_wp2
    (try simp only [Exit.inBlock, Exit.then])
    refine bodyPost_ret (results_none rfl _ _ _) rfl ?_
    exact ⟨_, rfl, hgp'.out, (((InsR.refl D).blk hm'.out).cls ⟨4, 0, 0, 0⟩ v').mono (by omega)⟩
  | false =>
    have k2 := hg.out.gs.at 2
    simp [GD.cells] at k2
    have hp := s_pick C D D.ret w1 hg.out.gs hm'.out hn hg.out.gs.wR
    go_wp2_with fail
    refine hp.mono ?_; rintro e w2 ⟨q, D', rfl, hgp, hin, hnm⟩
    have hgp2 := Hd.mk (hg.out.trans hgp)
    have hblk := Hd.mk (hin.blk hm'.out)
    have hcl := s_close C D' ⟨1, q, 0, 0⟩ w2 hgp.gs (by have := (hin.blk hm'.out).2.2.2.1; omega)
    clear hgp hin hnm hp k2
    go_wp2_with fail
    refine hcl.mono ?_; rintro e w3 ⟨v', rfl, hgp, -⟩
    have hgp' := Hd.mk (hgp2.out.trans hgp)
    clear hgp
    go_wp2
    go_end0
    exact ⟨_, rfl, hgp'.out, (hblk.out.cls ⟨1, q, 0, 0⟩ v').mono (by omega)⟩
def RetP (lo g : Nat) (most : Nat) (w : World) (e : Ending) (w' : World) : Prop := ∃ (v : Value) (l : List Int), e = .returned v ∧ l.length ≤ most ∧ w'.ownsRow w.heap.size 2 1 v l.length (l.map (Value.int .i64)) ∧ RdS lo w' g ∧ w.grownBy w' (some g)
set_option maxRecDepth 20000 in
set_option maxHeartbeats 4000000 in
theorem s_args (lo g : Nat) (A : Option Addr) (c : Nat) (ret : Int) (vB : Value) (ps : List Int) (w : World) (h : RdS lo w g) (hp : Bx (fun q => q = g) (fun w => RI lm w (.slice A ps.length c) ps) w) (hw : ∀ p ∈ ps, isW p) (hl4 : ps.length ≤ 4) : Calls Tryz.prog 53 #[.pointer (some ⟨g, 0, none⟩), .agg #[.slice A ps.length c, .int .i64 ret, vB]] w (RetP lo g 5 w) := by
  have h' := Hd.mk h
  have hgl := h.lt
  have hp' := Hd.mk hp
  have hw' := Hd.mk hw
  clear h hp hw
  obtain ⟨n, hn⟩ : ∃ n, n = ps.length := ⟨_, rfl⟩
  rw [← hn] at hp' hl4 ⊢
  have hn' := Hd.mk hn
  clear hn
  obtain ⟨wb, hwb⟩ : ∃ wb : World, wb = w.alloc (.cells #[.slice A n c, .int .i64 ret, vB] 35) := ⟨_, rfl⟩
  have hbb : Below w.heap.size w wb := by rw [hwb]; exact (Below.refl _ _).al (Nat.le_refl _) _
  have hzb : wb.heap.size = w.heap.size + 1 := by rw [hwb]; simp
  have b0 : wb.cell? ⟨w.heap.size, 0, none⟩ = some (.slice A n c) := by rw [hwb]; exact new_cell _ _ _ rfl 0 _ rfl
  have hwb' := Hd.mk hwb
  have hrb : RdS lo wb g := h'.out.mv (row := none) ⟨hbb.os, hbb.tape, hbb.output, hbb.size, fun k hk _ => hbb.block k hk⟩ (by simp) (fun k hk => by cases hk)
  have hGb : w.grownBy wb (some g) := ⟨hbb.os, hbb.tape, hbb.output, hbb.size, fun k hk _ => hbb.block k hk⟩
  have hG0 := Hd.mk (gb_al hGb (.cells #[] 2))
  have hr0 := Hd.mk (hrb.al (.cells #[] 2))
  have ho0 : Hd ((wb.alloc (.cells #[] 2)).ownsRow (w.heap.size + 1) 2 1 (.slice (some ⟨w.heap.size + 1, 0, none⟩) 0 0) 0 []) := ⟨own_empty wb (w.heap.size + 1) (w.heap.size + 1) 2 1 hzb.symm (by omega)⟩
  have c0 : (wb.alloc (.cells #[] 2)).cell? ⟨w.heap.size, 0, none⟩ = some (.slice A n c) := (bat ((Below.refl wb.heap.size wb).al (Nat.le_refl _) _) w.heap.size (by omega) 0).trans b0
  have c0' := Hd.mk c0
  have hzz : Hd (w.heap.size < (wb.alloc (.cells #[] 2)).heap.size) := ⟨by simp; omega⟩
  clear hwb hbb hrb hGb c0
  go_enter Tryz.func53, Tryz.ntmps53
  go_wp2
  rw [← hwb'.out]
  go_loopw [5, 6] (fun s5 s6 wr => ∃ (i : Nat) (l : List Int) (A5 : Option Addr) (c5 : Nat), i ≤ n ∧ l.length ≤ i ∧ s6 = .int .i64 i ∧ s5 = .slice A5 l.length c5 ∧ Hd (wr.ownsRow (w.heap.size + 1) 2 1 (.slice A5 l.length c5) l.length (l.map (Value.int .i64))) ∧ Hd (RdS lo wr g) ∧ Hd (w.grownBy wr (some g)) ∧ Hd (wr.cell? ⟨w.heap.size, 0, none⟩ = some (.slice A n c)) ∧ Hd (w.heap.size < wr.heap.size)) (fun _ s6 _ => n - (intOf s6).toNat)
  case atStart => exact ⟨0, [], some ⟨w.heap.size + 1, 0, none⟩, 0, Nat.zero_le _, Nat.le_refl _, rfl, rfl, ho0, hr0, hG0, c0', hzz⟩
  case round =>
    clear ho0 hr0 hG0 c0' hzz
    obtain ⟨i, l, A5, c5, hi, hl, rfl, rfl, ho, hr, hG, hc, hz⟩ := hrel
    have hzr := hG.out.size
    have j0 := hc.out
    by_cases hlt : i < n
    · have hri := hp'.out wr ((Fr.gb hG.out).sub (by rintro q e; injection e with e; exact e.symm))
      rw [hn'.out] at hri
      obtain ⟨b, off, cs, hA, hbl, hk1, hat⟩ := hri.in0 (Below.refl _ _) i (by have := hn'.out; omega)
      cases hA
      cases hk1
      have g0 := hat 0 _ rfl
      simp at g0
      clear hat hri
      have hwd := hw'.out _ (List.getElem_mem (l := ps) (n := i) (by have := hn'.out; omega))
      generalize ps[i]'_ = wd at *
      have hx := s_value lo g wd wr hr.out hwd
      have i0 : (0 : Int) ≤ (i : Int) := by omega
      have i1 : (i : Int) < (n : Int) := by omega
      go_wp2_with fail
      refine hx.mono ?_; rintro e w2 ⟨v, rfl, ⟨q, rfl⟩, hr2, hg2⟩
      have ho2 := Hd.mk (own_gb ho.out hg2 (.inr (RdS.ne hr.out ho.out)))
      have hG2 := Hd.mk (gb_trans hG.out hg2)
      have hc2 := Hd.mk ((World.cell?_of_block (a := ⟨w.heap.size, 0, none⟩) (hg2.block w.heap.size hz.out (by simp; omega))).trans hc.out)
      have hr2' := Hd.mk hr2
      have hz2 := hg2.size
      have hz9 : w.heap.size < w2.heap.size := by have := hz.out; omega
      clear hr2 hg2 hx ho hr hG hc j0 g0
      go_wp2_with (at_builtin; refine app_I rfl _ _ rfl (w.heap.size + 1) _ l [q] rfl ?h1 _ 1 1 rfl (rd_one _ _) ?h2 ?h3 ?h4)
      case h1 => exact own_mv ho2.out ((Below.refl _ _).al (Nat.le_refl _) _)
      case h2 => omega
      case h3 => simp; omega
      case h4 =>
        intro v' w4 ho4 hg4
        have hal := (Below.refl w2.heap.size w2).al (Nat.le_refl _) (.cells #[.int .i64 q] 2)
        have ho3 := own_mv ho2.out hal
        have hr3 := hr2'.out.al (.cells #[.int .i64 q] 2)
        have hr4 : RdS lo w4 g := hr3.mv hg4 (fun e => RdS.ne hr3 ho3 e.symm) (fun k hk => by have := own_block_ge ho3 k hk; have := hr2'.out.1; omega)
        have hG4 := gb_own (gb_al hG2.out (.cells #[.int .i64 q] 2)) hg4 (fun k hk => by have := own_block_ge ho3 k hk; omega)
        have hc4 := (World.cell?_of_block (a := ⟨w.heap.size, 0, none⟩) (hg4.block w.heap.size (by simp; omega) (fun e => by have := own_block_ge ho3 _ e.symm; omega))).trans ((bat hal w.heap.size hz9 0).trans hc2.out)
        have hz4 : w.heap.size < w4.heap.size := by have := hg4.size; simp at this; omega
        obtain ⟨A2, c2, rfl, -, -⟩ := own_shape ho4
        have ho5 := Hd.mk ho4
        have hr5 := Hd.mk hr4
        have hG5 := Hd.mk hG4
        have hc5 := Hd.mk hc4
        have hz5 := Hd.mk hz4
        clear ho4 hg4 ho3 hr3 hr4 hG4 ho2 hG2 hr2' hc4 hal
        go_wp2
        go_roundw
        case rel => exact ⟨i + 1, l ++ [q], A2, c2, by omega, by simp; omega, by go_num, by simp, ⟨by simpa using ho5.out⟩, hr5, hG5, hc5, hz5⟩
        case measure => simp [intOf]; omega
    · have hlt' : ¬ (i : Int) < (n : Int) := by omega
      have hx := s_once lo g 40 wr hr.out (by omega)
      go_wp2_with fail
      refine hx.mono ?_; rintro e w2 ⟨v, rfl, ⟨b, rfl⟩, hr2, hg2⟩
      have ho2 := Hd.mk (own_gb ho.out hg2 (.inr (RdS.ne hr.out ho.out)))
      have hG2 := Hd.mk (gb_trans hG.out hg2)
      have hr2' := Hd.mk hr2
      have hz2 := hg2.size
      have hz9 : w.heap.size < w2.heap.size := by have := hz.out; omega
      clear hr2 hg2 hx ho hr hG hc j0
      cases b
      · go_wp2
        go_ret
        exact ⟨_, l, rfl, by omega, own_lower ho2.out (by omega), hr2'.out, hG2.out⟩
      · go_wp2_with (at_builtin; refine app_I rfl _ _ rfl (w.heap.size + 1) _ l [0] rfl ?h1 _ 1 1 rfl (rd_one _ _) ?h2 ?h3 ?h4)
        case h1 => exact own_mv ho2.out ((Below.refl _ _).al (Nat.le_refl _) _)
        case h2 => omega
        case h3 => simp; omega
        case h4 =>
          intro v' w4 ho4 hg4
          have ho3 := own_mv ho2.out ((Below.refl w2.heap.size w2).al (Nat.le_refl _) (.cells #[.int .i64 0] 2))
          have hr3 := hr2'.out.al (.cells #[.int .i64 0] 2)
          have hr4 : RdS lo w4 g := hr3.mv hg4 (fun e => RdS.ne hr3 ho3 e.symm) (fun k hk => by have := own_block_ge ho3 k hk; have := hr2'.out.1; omega)
          have hG4 := gb_own (gb_al hG2.out (.cells #[.int .i64 0] 2)) hg4 (fun k hk => by have := own_block_ge ho3 k hk; omega)
          have ho5 := Hd.mk ho4
          have hr5 := Hd.mk hr4
          have hG5 := Hd.mk hG4
          clear ho4 hg4 ho3 hr3 hr4 hG4 ho2 hG2 hr2'
          go_wp2
          go_ret
          exact ⟨_, l ++ [0], rfl, by simp; omega, own_lower (by simpa using ho5.out) (by omega), hr5.out, hG5.out⟩
end Go.Proofs.YtkcgejbnhpccdaaGreat
