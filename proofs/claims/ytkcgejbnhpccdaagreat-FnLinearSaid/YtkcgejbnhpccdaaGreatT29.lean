import Derived.Test.YtkcgejbnhpccdaaGreatT24
import Derived.Test.YtkcgejbnhpccdaaGreatT21
import Derived.Test.YtkcgejbnhpccdaaGreatT28
import Derived.Defers
import Derived.Recover
import Derived.Test.YtkcgejbnhpccdaaGreatT10
import Derived.Deep.QuietTactic
import Derived.BigQuiet
set_option linter.unusedSimpArgs false
set_option linter.unusedVariables false
namespace Go.Proofs.YtkcgejbnhpccdaaGreat
open Go.RowKit
def BlkR (k : Nat) (j : Int) (D D' : GD) : Prop := D'.ps = D.ps ∧ D'.ret = D.ret ∧ D'.ex = D.ex ∧ D'.nB = D.nB + k ∧ Nm D' ∧ D.next ≤ D'.next ∧ D'.next ≤ D.next + j
theorem BlkR.ins {k : Nat} {j i : Int} {D D' D'' : GD} (h : BlkR k j D D') (h' : InsR i D' D'') : BlkR k (j + i) D D'' := by
  obtain ⟨h1, h2, h3, h4, h5, h6, h7⟩ := h
  have hn := h'.nm h5
  obtain ⟨vIn, nIn, cIn, next, vids, vws, nid, rfl, i1, i2, i3, i4⟩ := h'
  exact ⟨h1, h2, h3, h4, hn, by simp only; omega, by simp only; omega⟩
theorem InsR.blk {i : Int} {D D' : GD} (h : InsR i D D') (hn : Nm D) : BlkR 0 i D D' := by
  have hn' := h.nm hn
  obtain ⟨vIn, nIn, cIn, next, vids, vws, nid, rfl, i1, i2, i3, i4⟩ := h
  exact ⟨rfl, rfl, rfl, rfl, hn', i1, i2⟩
theorem BlkR.cls {k : Nat} {j : Int} {D D' : GD} (h : BlkR k j D D') (t : XTerm) (v' : Value) : BlkR (k + 1) j D (closed {D' with tm := t} v') := by
  obtain ⟨h1, h2, h3, h4, ⟨h5, h5', h5''⟩, h6, h7⟩ := h
  exact ⟨h1, h2, h3, by show D'.nB + 1 = _; omega, ⟨by show ((0 : Nat) : Int) ≤ D'.next; omega, by show ((0 : Nat) : Int) ≤ D'.next; omega, h5''⟩, h6, h7⟩
theorem BlkR.mono {k : Nat} {j j' : Int} {D D' : GD} (h : BlkR k j D D') (hj : j ≤ j') : BlkR k j' D D' := by
  obtain ⟨h1, h2, h3, h4, h5, h6, h7⟩ := h
  exact ⟨h1, h2, h3, h4, h5, h6, by omega⟩
def RetB (k : Nat) (j : Int) (C : GC) (D : GD) (W : World) (e : Ending) (w' : World) : Prop := ∃ D', e = .returned (.tuple #[]) ∧ GP C D D' W w' ∧ BlkR k j D D'
set_option maxRecDepth 20000 in
set_option maxHeartbeats 4000000 in
theorem s_ends (C : GC) (D : GD) (W : World) (h : GS C D W) (hm : Nm D) (hn : D.next + 1 ≤ 900) (hb : D.nB + 1 ≤ 100) : Calls Tryz.prog 117 #[.pointer (some ⟨C.gg, 0, none⟩)] W (RetB 1 1 C D W) := by
  have hh := Hd.mk h
  have k0 := h.at 0
  simp [GD.cells] at k0
  have honce := s_once C.lo C.gr 14 W h.rs (by omega)
  have hm' := Hd.mk hm
  clear h hm
  go_enter Tryz.func117, Tryz.ntmps117
  go_wp2_with fail
  refine honce.mono ?_; rintro e w1 ⟨v, rfl, ⟨bb, rfl⟩, hr1, hg1⟩
  have hg := Hd.mk (hh.out.rd hg1 hr1)
  clear hr1 hg1 honce k0
  cases bb with
  | true =>
    go_wp2_with fail
    refine (s_close C D ⟨4, 0, 0, 0⟩ _ hg.out.gs hb).mono ?_; rintro e w2 ⟨v', rfl, hgp, -⟩
    have hgp' := Hd.mk (hg.out.trans hgp)
    clear hgp
    go_wp2
    (try simp only [Exit.inBlock, Exit.then])
    refine bodyPost_ret (results_none rfl _ _ _) rfl ?_
    exact ⟨_, rfl, hgp'.out, (((InsR.refl D).blk hm'.out).cls ⟨4, 0, 0, 0⟩ v').mono (by omega)⟩
  | false =>
    have k2 := hg.out.gs.at 2
    simp [GD.cells] at k2
    have hp := s_pick C D D.ret w1 hg.out.gs hm'.out hn hg.out.gs.wR
    go_wp2_with fail
    refine hp.mono ?_; rintro e w2 ⟨q, D', rfl, hgp, hin, hnm⟩
    have hgp2 := Hd.mk (hg.out.trans hgp)
    have hblk := Hd.mk (hin.blk hm'.out)
    have hcl := s_close C D' ⟨1, q, 0, 0⟩ w2 hgp.gs (by have := (hin.blk hm'.out).2.2.2.1; omega)
    clear hgp hin hnm hp k2
    go_wp2_with fail
    refine hcl.mono ?_; rintro e w3 ⟨v', rfl, hgp, -⟩
    have hgp' := Hd.mk (hgp2.out.trans hgp)
    clear hgp
    go_wp2
    go_end0
    exact ⟨_, rfl, hgp'.out, (hblk.out.cls ⟨1, q, 0, 0⟩ v').mono (by omega)⟩
theorem conv_own (W : World) (g cap : Nat) (m : List Int) (h : ∀ j (hj : j < m.length), W.cell? ⟨g, j, none⟩ = some (.int .u8 m[j])) (hr : ∀ i (h : i < m.length), 0 ≤ m[i] ∧ m[i] < 256) (n : Nat) (hn : n = m.length) : (convert 22 9 (.slice (some ⟨g, 0, none⟩) n cap)).run Tryz.prog W = .ok (.string (toBytes m)) W := by
  subst hn
  have := run_convert_bytes_back (P := Tryz.prog) W 22 9 5 ⟨g, 0, none⟩ cap (m.map fun n => UInt8.ofNat n.toNat) Tryz.underlying22 Tryz.underlying5 Tryz.underlying9 (fun j hj => by
    have hj' : j < m.length := by simpa using hj
    have hx := hr j hj'
    have hc := h j hj'
    simp only [List.getElem_map]
    have e : ((UInt8.ofNat m[j].toNat).toNat : Int) = m[j] := by
      have : m[j].toNat < 256 := by omega
      rw [UInt8.toNat_ofNat_of_lt' (by simpa using this)]
      omega
    rw [e]
    have ea : (⟨g, 0, none⟩ : Addr).add j = ⟨g, j, none⟩ := by unfold Addr.add; by_cases h0 : j = 0 <;> simp [h0]
    rw [ea]; exact hc)
  have hl : (m.map fun n => UInt8.ofNat n.toNat).length = m.length := by simp
  rw [hl] at this
  exact this
theorem toBytes_size (m : List Int) : (toBytes m).size = m.length := by simp [toBytes, ByteArray.size]
set_option maxRecDepth 20000 in
set_option maxHeartbeats 4000000 in
theorem s_mem (lo g : Nat) (w : World) (h : RdS lo w g) : Calls Tryz.prog 54 #[.pointer (some ⟨g, 0, none⟩)] w (fun e w' => ∃ s : ByteArray, e = .returned (.string s) ∧ s.size = 32 ∧ RdS lo w' g ∧ w.grownBy w' (some g)) := by
  have hmk := mk32 w
  have hgl := h.lt
  have ho0 : Hd ((w.alloc (.cells (madeCells #[.int .u8 0] 32) 5)).ownsRow w.heap.size 5 1 (.slice (some ⟨w.heap.size, 0, none⟩) 32 32) 32 ((List.replicate 32 (0 : Int)).map (.int .u8))) := ⟨by
    have := mk_own w w.heap.size 5 1 32 #[.int .u8 0] (Nat.le_refl _) (by unfold maxLen; omega)
    rw [Nat.mul_one, toList_madeCells_one] at this
    rwa [List.map_replicate]⟩
  have hr0 := Hd.mk (h.al (.cells (madeCells #[.int .u8 0] 32) 5))
  have hG0 := Hd.mk (gb_al (World.grownBy.refl w (some g)) (.cells (madeCells #[.int .u8 0] 32) 5))
  clear h
  go_enter Tryz.func54, Tryz.ntmps54
  go_wp2
  clear hmk
  generalize hmc : madeCells #[.int .u8 0] 32 = mc at *
  clear hmc
  go_loopw [4] (fun s4 wr => ∃ (i : Nat) (bs : List Int), i ≤ 4 ∧ s4 = .int .i64 i ∧ bs.length = 32 ∧ Hd (∀ x ∈ bs, 0 ≤ x ∧ x < 256) ∧ Hd (wr.ownsRow w.heap.size 5 1 (.slice (some ⟨w.heap.size, 0, none⟩) 32 32) 32 (bs.map (.int .u8))) ∧ Hd (RdS lo wr g) ∧ Hd (w.grownBy wr (some g))) (fun s4 _ => 4 - (intOf s4).toNat)
  case atStart => exact ⟨0, List.replicate 32 0, by omega, rfl, rfl, ⟨fun x hx => by rw [(List.mem_replicate.1 hx).2]; omega⟩, ho0, hr0, hG0⟩
  case round =>
    clear ho0 hr0 hG0
    obtain ⟨i, bs, hi, rfl, hl, hb, ho, hr, hG⟩ := hrel
    by_cases hlt : i < 4
    · have hx := s_below lo g 256 wr hr.out (by omega)
      have i1 : (i : Int) < 4 := by omega
      have i2 : (i : Int) < 32 := by omega
      have i0 : (0 : Int) ≤ (i : Int) := by omega
      go_wp2_with fail
      refine hx.mono ?_; rintro e w2 ⟨v, rfl, ⟨q, rfl, q1, q2⟩, hr2, hg2⟩
      have ho2 := own_gb ho.out hg2 (.inr (by simp [Value.ownBlock]; omega))
      obtain ⟨u0, q0⟩ := own_cell ho2 i (by omega)
      have fz := World.ownsRow.frozenAt ho2 i
      have ho2' := Hd.mk ho2
      have hr2' := Hd.mk hr2
      have hG2 := Hd.mk (gb_trans hG.out hg2)
      have hl' := Hd.mk hl
      have hwq : IntKind.u8.wrap q = q := by rw [IntKind.wrap_u8]; omega
      clear hr2 hg2 ho2 hx ho hr hG hl
      go_wp2
      go_roundw
      case rel =>
        refine ⟨i + 1, bs.set i q, by omega, by go_num, by simpa using hl'.out, ⟨fun x hx => ?_⟩, ⟨?_⟩, ⟨hr2'.out.fr (fl := w.heap.size) (gg := w.heap.size) (Fr.set _ _ _ _) hgl (Nat.le_refl _)⟩, ⟨hG2.out.os, hG2.out.tape, hG2.out.output, by rw [setCell_size]; exact hG2.out.size, fun k hk hne => (Below.heap_setCell _ _ _ _ (by show k ≠ w.heap.size; omega)).trans (hG2.out.block k hk hne)⟩⟩
        · rcases List.mem_or_eq_of_mem_set hx with hx | rfl
          · exact hb.out x hx
          · exact ⟨q1, q2⟩
        · rw [List.map_set]
          exact (World.ownsRow.stored ho2'.out i (.int .u8 q)).1
      case measure => simp [intOf]; omega
    · have i1 : ¬ (i : Int) < 4 := by omega
      have hcv := conv_own wr w.heap.size 32 bs (fun j hj => by
        have := World.ownsRow.cellAt ho.out j (by omega)
        rw [this]; simp) (fun j hj => hb.out _ (List.getElem_mem hj)) 32 hl.symm
      have hsz : (toBytes bs).size = 32 := by rw [toBytes_size, hl]
      have hl' := Hd.mk hl
      have hsz' := Hd.mk hsz
      clear hl hsz
      go_wp2
      go_ret
      exact ⟨_, rfl, hsz'.out, hr.out, hG.out⟩
structure Kp (g gm : Nat) (o : Option Nat) (b : Nat) (h : Option Obj) (W : World) : Prop where
  asd : Asd g gm o b W
  eq : W.heap[b]? = h
theorem Asd.below {g gm b : Nat} {o : Option Nat} {W W' : World} (h : Asd g gm o b W) (hb : Below W.heap.size W W') : Asd g gm o b W' := h.mv hb.size (.inl rfl)
theorem Kp.below {g gm b : Nat} {o : Option Nat} {x : Option Obj} {W W' : World} (h : Kp g gm o b x W) (hb : Below W.heap.size W W') : Kp g gm o b x W' := ⟨h.asd.below hb, (hb.block b h.asd.lt).trans h.eq⟩
theorem Kp.call {g gm b : Nat} {o o' : Option Nat} {x : Option Obj} {W W' : World} (h : Kp g gm o b x W) (hf : Off g gm o W W') (hn : Nxt W o o') : Kp g gm o' b x W' := ⟨h.asd.mv hf.size hn, (hf.at h.asd).trans h.eq⟩
theorem Kp.far {g gm b gv : Nat} {o : Option Nat} {x : Option Obj} {W W' : World} (h : Kp g gm o b x W) (hf : Off gv gv none W W') (hne : b ≠ gv) : Kp g gm o b x W' := ⟨h.asd.mv hf.size (.inl rfl), (hf.block b h.asd.lt hne hne (by simp)).trans h.eq⟩
theorem Off.self {gv k : Nat} {W : World} (u : Value) : Off gv gv none W (W.setCell ⟨gv, k, none⟩ u) := (Off.refl gv gv none W).set (.inl rfl) u
theorem Kp.cells {g gm b : Nat} {o : Option Nat} {arr : Array Value} {e : Nat} {W : World} (h : Kp g gm o b (some (.cells arr e (0, 0))) W) : (∀ j, W.cell? ⟨b, j, none⟩ = arr[j]?) ∧ b < W.heap.size := ⟨(row_facts h.eq).1, h.asd.lt⟩
theorem SI.fresh {mv : Value} {fuel g gm lo : Nat} {d : Int} {s : RS} {A : Option Addr} {c : Nat} {W W' : World} (h : SI mv fuel g gm lo d s A c W) {b : Nat} (hb : W.heap.size ≤ b) (hlt : b < W'.heap.size) : Asd g gm (Go.Proofs.YtkcgejbnhpccdaaGreat.blk A) b W' := by
  obtain ⟨cm, -, -, -, -, -, -, -, kg, kgm, -⟩ := h.cells
  exact ⟨hlt, by omega, by omega, fun e => by have := (h.blk b e).2; omega⟩
structure Env (mv : Value) (fuel g gm lo : Nat) (d : Int) (B : World) (pv bv : Value) (ret : Int) (gx gv n b0 b1 : Nat) (A0 : Option Addr) (Wb : World) (vals : List Int) (s : RS) (A : Option Addr) (c : Nat) (W : World) : Prop where
  si : SI mv fuel g gm lo d s A c W
  fr : FR pv bv ret gx gv n vals W
  v : VOk n vals
  s : ROk fuel s
  k0 : Kp g gm (blk A) b0 (some (.cells #[.pointer (some ⟨g, 0, none⟩)] 101 (0, 0))) W
  k1 : Kp g gm (blk A) b1 (some (.cells #[pv, .int .i64 ret, bv] 35 (0, 0))) W
  kx : Asd g gm (blk A) gx W
  kv : Asd g gm (blk A) gv W
  off : Off g gm (blk A0) Wb W
  nxt : Nxt Wb (blk A0) (blk A)
  bel : Below B.heap.size B W
  n0 : b0 ≠ gv
  n1 : b1 ≠ gv
  gB : B.heap.size ≤ g ∧ B.heap.size ≤ gm ∧ B.heap.size ≤ lo
  vB : Wb.heap.size ≤ gv ∧ B.heap.size ≤ Wb.heap.size
section
variable {mv : Value} {fuel g gm lo : Nat} {d : Int} {B : World} {pv bv : Value} {ret : Int} {gx gv n b0 b1 : Nat} {A0 : Option Addr} {Wb : World} {vals : List Int} {s : RS} {A : Option Addr} {c : Nat} {W W' : World}
theorem Env.below (h : Env mv fuel g gm lo d B pv bv ret gx gv n b0 b1 A0 Wb vals s A c W) (hb : Below W.heap.size W W') : Env mv fuel g gm lo d B pv bv ret gx gv n b0 b1 A0 Wb vals s A c W' :=
  ⟨h.si.mv hb, h.fr.mv hb, h.v, h.s, h.k0.below hb, h.k1.below hb, h.kx.below hb, h.kv.below hb, h.off.then hb, h.nxt, h.bel.then hb, h.n0, h.n1, h.gB, h.vB⟩
theorem Env.drewN (h : Env mv fuel g gm lo d B pv bv ret gx gv n b0 b1 A0 Wb vals s A c W) (k : Nat) : Env mv fuel g gm lo d B pv bv ret gx gv n b0 b1 A0 Wb vals s A c (W.drewN k) := h.below (drewN_below (Below.refl _ _) k)
theorem Env.call (h : Env mv fuel g gm lo d B pv bv ret gx gv n b0 b1 A0 Wb vals s A c W) {s' : RS} {A' : Option Addr} {c' : Nat} (hs : SI mv fuel g gm lo d s' A' c' W') (hr : ROk fuel s') (hf : Off g gm (blk A) W W') (hn : Nxt W (blk A) (blk A')) : Env mv fuel g gm lo d B pv bv ret gx gv n b0 b1 A0 Wb vals s' A' c' W' :=
  ⟨hs, h.fr.off hf h.kx h.kv, h.v, hr, h.k0.call hf hn, h.k1.call hf hn, h.kx.mv hf.size hn, h.kv.mv hf.size hn, h.off.trans h.nxt hf, h.nxt.trans h.off.size hn,
    h.bel.trans (hf.below h.gB.1 h.gB.2.1 (fun b hb => Nat.le_trans h.gB.2.2 (h.si.blk b hb).1) h.bel.size), h.n0, h.n1, h.gB, h.vB⟩
theorem Env.far (h : Env mv fuel g gm lo d B pv bv ret gx gv n b0 b1 A0 Wb vals s A c W) {vals' : List Int} (hf : Off gv gv none W W') (hr : FR pv bv ret gx gv n vals' W') (hv : VOk n vals') : Env mv fuel g gm lo d B pv bv ret gx gv n b0 b1 A0 Wb vals' s A c W' :=
  ⟨h.si.far hf h.kv, hr, hv, h.s, h.k0.far hf h.n0, h.k1.far hf h.n1, h.kx.mv hf.size (.inl rfl), h.kv.mv hf.size (.inl rfl),
    ⟨hf.os.trans h.off.os, hf.tape.trans h.off.tape, hf.output.trans h.off.output, Nat.le_trans h.off.size hf.size, fun b hb h1 h2 h3 => (hf.block b (Nat.lt_of_lt_of_le hb h.off.size) (by have := h.vB.1; omega) (by have := h.vB.1; omega) (by simp)).trans (h.off.block b hb h1 h2 h3)⟩,
    h.nxt, h.bel.trans ⟨hf.os, hf.tape, hf.output, hf.size, fun b hb => hf.block b (by have := h.bel.size; omega) (by have := h.vB; omega) (by have := h.vB; omega) (by simp)⟩, h.n0, h.n1, h.gB, h.vB⟩
theorem Env.set (h : Env mv fuel g gm lo d B pv bv ret gx gv n b0 b1 A0 Wb vals s A c W) (k : Nat) (v : Int) (hv : 0 ≤ v ∧ v ≤ 4294967295) : Env mv fuel g gm lo d B pv bv ret gx gv n b0 b1 A0 Wb (vals.set k v) s A c (W.setCell ⟨gv, k, none⟩ (.int .i64 v)) :=
  h.far (Off.self _) (h.fr.set k v) (h.v.set k v hv)
theorem Env.done (h : Env mv fuel g gm lo d B pv bv ret gx gv n b0 b1 A0 Wb vals s A c W) (d' : Int) (hd : d' = d - 1) (R : (Int × Int) × RS) (hR : R.2 = s) : DoneR mv fuel g gm lo d' R A0 Wb (.returned (.tuple #[.int .i64 R.1.1, .int .i64 R.1.2])) (W.setCell ⟨g, 5, none⟩ (.int .i64 (d - 1))) := by
  subst hd
  refine ⟨A, c, rfl, ?_, h.off.set (.inl rfl) _, h.nxt⟩
  rw [hR]
  exact h.si.setDeep (d - 1)
theorem Env.deep (h : Env mv fuel g gm lo d B pv bv ret gx gv n b0 b1 A0 Wb vals s A c W) : W.cell? ⟨b0, 0, none⟩ = some (.pointer (some ⟨g, 0, none⟩)) ∧ W.cell? ⟨g, 5, none⟩ = some (.int .i64 d) ∧ W.frozen? ⟨g, 5, none⟩ = false := by
  obtain ⟨cm, -, -, -, -, -, k5, kf, -⟩ := h.si.cells
  exact ⟨h.k0.cells.1 0, k5, kf 5⟩
end
theorem RI.set {W : World} {va : Value} {xs : List Int} {g j : Nat} {u : Value} (h : RI lm W va xs) (hb : 0 < xs.length → ∀ b, va.ownBlock = some b → b ≠ g) : RI lm (W.setCell ⟨g, j, none⟩ u) va xs := by
  obtain ⟨A, c, rfl, h1, h2, hz, h3⟩ := h
  refine ⟨A, c, rfl, h1, h2, hz, fun h0 => ?_⟩
  obtain ⟨b, off, rfl, hlt, hat⟩ := h3 h0
  refine ⟨b, off, rfl, by rw [setCell_size]; exact hlt, fun i hi => ?_⟩
  obtain ⟨cs, hk, hl, hc⟩ := hat i hi
  exact ⟨cs, hk, hl, fun j' hj => (World.cell?_of_block (a := ⟨b, _, none⟩) (Below.heap_setCell _ _ _ _ (hb h0 b rfl))).trans (hc j' hj)⟩
theorem run1 (b0 g : Nat) (d : Int) (u : FrameMode) (W : World) (h0 : W.cell? ⟨b0, 0, none⟩ = some (.pointer (some ⟨g, 0, none⟩)) ∧ W.cell? ⟨g, 5, none⟩ = some (.int .i64 d) ∧ W.frozen? ⟨g, 5, none⟩ = false) (hd : 1 ≤ d ∧ d ≤ 7) :
    CallsD Tryz.prog 93 #[.pointer (some ⟨b0, 0, none⟩)] u W fun e u' w' => u' = u ∧ (e = .returned (.tuple #[]) ∧ w' = W.setCell ⟨g, 5, none⟩ (.int .i64 (d - 1))) := by
  obtain ⟨h0, h5, hz⟩ := h0
  have ew : IntKind.i64.wrap (d - 1) = d - 1 := IntWalk.i64_in _ (by omega)
  go_enter_d Tryz.func93, Tryz.ntmps93
  go_wp2
  go_end0
  exact ⟨rfl, rfl⟩
def SX (mv : Value) (fuel : Nat) (g gm lo : Nat) (d : Int) (s : RS) (A : Option Addr) (c : Nat) (W : World) : Prop := ∃ cm,
  W.heap[g]? = some (.cells #[mv, .slice (some ⟨gm, 0, none⟩) 32 cm, .slice A s.out.length c, .int .i64 fuel, .int .i64 s.steps, .int .i64 d] 109 (0, 0)) ∧
  ByR W gm s.mem ∧ W.ownsRow lo 2 1 (.slice A s.out.length c) s.out.length (s.out.map (Value.int .i64)) ∧ g < lo ∧ gm < lo ∧ lo ≤ W.heap.size ∧ g ≠ gm
theorem SX.mv {mv : Value} {fuel g gm lo : Nat} {d : Int} {s : RS} {A : Option Addr} {c : Nat} {W W' : World} (h : SX mv fuel g gm lo d s A c W) (hb : Below W.heap.size W W') : SX mv fuel g gm lo d s A c W' := by
  obtain ⟨cm, h1, h2, h3, i1, i2, i3, h4⟩ := h
  exact ⟨cm, (hb.block g (Array.getElem?_eq_some_iff.1 h1).1).trans h1, h2.mv (hb.block gm h2.lt), own_mv h3 hb, i1, i2, Nat.le_trans i3 hb.size, h4⟩
theorem SX.drew {mv : Value} {fuel g gm lo : Nat} {d : Int} {s : RS} {A : Option Addr} {c : Nat} {W : World} (h : SX mv fuel g gm lo d s A c W) : SX mv fuel g gm lo d s A c W.drew := h
theorem SX.drewN {mv : Value} {fuel g gm lo : Nat} {d : Int} {s : RS} {A : Option Addr} {c : Nat} {W : World} (h : SX mv fuel g gm lo d s A c W) (n : Nat) : SX mv fuel g gm lo d s A c (W.drewN n) := h
theorem SX.blkOf {mv : Value} {fuel g gm lo : Nat} {d : Int} {s : RS} {A : Option Addr} {c : Nat} {W : World} (h : SX mv fuel g gm lo d s A c W) : ∀ b, blk A = some b → lo ≤ b ∧ b < W.heap.size := by
  obtain ⟨cm, h1, h2, h3, i1, i2, i3, h4⟩ := h
  intro b hb
  have hk := own_block_ge h3
  refine ⟨hk b (by rw [blk_eq]; exact hb), ?_⟩
  rcases h3.2 with ⟨e, _⟩ | ⟨g', cap, cur, hv, hl, hx, h''⟩
  · injection e with e1 e2 e3; subst e1; cases hb
  · injection hv with e1 e2 e3; subst e1; cases hb; exact (Array.getElem?_eq_some_iff.1 hx).1
theorem SX.cells {mv : Value} {fuel g gm lo : Nat} {d : Int} {s : RS} {A : Option Addr} {c : Nat} {W : World} (h : SX mv fuel g gm lo d s A c W) : ∃ cm, W.cell? ⟨g, 0, none⟩ = some mv ∧ W.cell? ⟨g, 1, none⟩ = some (.slice (some ⟨gm, 0, none⟩) 32 cm) ∧ W.cell? ⟨g, 2, none⟩ = some (.slice A s.out.length c) ∧
    W.cell? ⟨g, 3, none⟩ = some (.int .i64 fuel) ∧ W.cell? ⟨g, 4, none⟩ = some (.int .i64 s.steps) ∧ W.cell? ⟨g, 5, none⟩ = some (.int .i64 d) ∧ (∀ j, W.frozen? ⟨g, j, none⟩ = false) ∧ g < W.heap.size ∧ gm < W.heap.size ∧ g ≠ gm := by
  obtain ⟨cm, h1, h2, h3, i1, i2, i3, h4⟩ := h
  obtain ⟨c0, f0⟩ := row_facts h1
  exact ⟨cm, c0 0, c0 1, c0 2, c0 3, c0 4, c0 5, f0, (Array.getElem?_eq_some_iff.1 h1).1, h2.lt, h4⟩
theorem SX.setSteps {mv : Value} {fuel g gm lo : Nat} {d : Int} {s : RS} {A : Option Addr} {c : Nat} {W : World} (h : SX mv fuel g gm lo d s A c W) (k : Nat) : SX mv fuel g gm lo d ⟨s.mem, s.out, k⟩ A c (W.setCell ⟨g, 4, none⟩ (.int .i64 k)) := by
  obtain ⟨cm, h1, h2, h3, i1, i2, i3, h4⟩ := h
  exact ⟨cm, by simpa using heap_set (j := 4) (u := .int .i64 k) h1, h2.mv (Below.heap_setCell _ _ _ _ h4.symm), own_far h3 i1, i1, i2, by rw [setCell_size]; exact i3, h4⟩
theorem SX.setCode {mv : Value} {fuel g gm lo : Nat} {d : Int} {s : RS} {A : Option Addr} {c : Nat} {W : World} (h : SX mv fuel g gm lo d s A c W) (k : Int) : SX mv fuel g gm lo k s A c (W.setCell ⟨g, 5, none⟩ (.int .i64 k)) := by
  obtain ⟨cm, h1, h2, h3, i1, i2, i3, h4⟩ := h
  exact ⟨cm, by simpa using heap_set (j := 5) (u := .int .i64 k) h1, h2.mv (Below.heap_setCell _ _ _ _ h4.symm), own_far h3 i1, i1, i2, by rw [setCell_size]; exact i3, h4⟩
theorem SX.setMem {mv : Value} {fuel g gm lo : Nat} {d : Int} {s : RS} {A : Option Addr} {c : Nat} {W : World} (h : SX mv fuel g gm lo d s A c W) (k : Nat) (v : Int) : SX mv fuel g gm lo d ⟨s.mem.set k v, s.out, s.steps⟩ A c (W.setCell ⟨gm, k, none⟩ (.int .u8 v)) := by
  obtain ⟨cm, h1, h2, h3, i1, i2, i3, h4⟩ := h
  exact ⟨cm, heap_off h1 h4, h2.set k v, own_far h3 i2, i1, i2, by rw [setCell_size]; exact i3, h4⟩
theorem SX.setOff {mv : Value} {fuel g gm lo b j : Nat} {d : Int} {s : RS} {A : Option Addr} {c : Nat} {W : World} (h : SX mv fuel g gm lo d s A c W) (hb : Asd g gm (blk A) b W) (u : Value) : SX mv fuel g gm lo d s A c (W.setCell ⟨b, j, none⟩ u) := by
  obtain ⟨cm, h1, h2, h3, i1, i2, i3, h4⟩ := h
  refine ⟨cm, heap_off h1 hb.g.symm, h2.mv (Below.heap_setCell _ _ _ _ hb.gm.symm), ?_, i1, i2, by rw [setCell_size]; exact i3, h4⟩
  refine ⟨h3.1, ?_⟩
  rcases h3.2 with h' | ⟨g', cap, cur, hv, hl', hx, h''⟩
  · exact .inl h'
  · exact .inr ⟨g', cap, cur, hv, hl', heap_off hx (fun e => hb.o (by injection hv with e1 e2 e3; subst e1; rw [← e]; rfl)), h''⟩
theorem SX.setOut {mv v' : Value} {fuel g gm lo n : Nat} {d : Int} {s : RS} {A : Option Addr} {c : Nat} {W W' : World} {xs : List Int} (h : SX mv fuel g gm lo d s A c W) (hg : W.grownBy W' (Value.slice A s.out.length c).ownBlock) (h' : W'.ownsRow lo 2 1 v' n (xs.map (Value.int .i64))) (hn : n = xs.length) :
    ∃ A' c', v' = .slice A' xs.length c' ∧ SX mv fuel g gm lo d ⟨s.mem, xs, s.steps⟩ A' c' (W'.setCell ⟨g, 2, none⟩ v') := by
  subst hn
  obtain ⟨cm, h1, h2, h3, i1, i2, i3, h4⟩ := h
  have hk := own_block_ge h3
  have old : ∀ b, b < lo → b < W.heap.size → W'.heap[b]? = W.heap[b]? := fun b hb hw => hg.block b hw (fun e => by
    have := hk b (by first | exact e | exact e.symm)
    omega)
  obtain ⟨A2, c2, rfl, -, -⟩ := own_shape h'
  refine ⟨A2, c2, rfl, cm, ?_, ?_, own_far h' i1, i1, i2, by rw [setCell_size]; exact Nat.le_trans i3 hg.size, h4⟩
  · have := heap_set (j := 2) (u := .slice A2 xs.length c2) ((old g i1 (by omega)).trans h1)
    simpa using this
  · exact (h2.mv (old gm i2 (by omega))).mv (Below.heap_setCell _ _ _ _ (fun e => h4 e.symm))
theorem SX.far {mv : Value} {fuel g gm lo gv : Nat} {d : Int} {s : RS} {A : Option Addr} {c : Nat} {W W' : World} (h : SX mv fuel g gm lo d s A c W) (hb : Off gv gv none W W') (hv : Asd g gm (blk A) gv W) : SX mv fuel g gm lo d s A c W' := by
  obtain ⟨cm, h1, h2, h3, i1, i2, i3, h4⟩ := h
  refine ⟨cm, (hb.block g (Array.getElem?_eq_some_iff.1 h1).1 hv.g.symm hv.g.symm (by simp)).trans h1, h2.mv (hb.block gm h2.lt hv.gm.symm hv.gm.symm (by simp)), ?_, i1, i2, Nat.le_trans i3 hb.size, h4⟩
  refine ⟨h3.1, ?_⟩
  rcases h3.2 with h' | ⟨g', cap, cur, hv', hl', hx, h''⟩
  · exact .inl h'
  · have hne : g' ≠ gv := fun e => hv.o (by injection hv' with e1 e2 e3; subst e1; rw [← e]; rfl)
    exact .inr ⟨g', cap, cur, hv', hl', (hb.block g' (Array.getElem?_eq_some_iff.1 hx).1 hne hne (by simp)).trans hx, h''⟩
theorem SX.fresh {mv : Value} {fuel g gm lo : Nat} {d : Int} {s : RS} {A : Option Addr} {c : Nat} {W W' : World} (h : SX mv fuel g gm lo d s A c W) {b : Nat} (hb : W.heap.size ≤ b) (hlt : b < W'.heap.size) : Asd g gm (blk A) b W' := by
  obtain ⟨cm, -, -, -, -, -, -, -, kg, kgm, -⟩ := h.cells
  exact ⟨hlt, by omega, by omega, fun e => by have := (h.blkOf b e).2; omega⟩
def VX (g gm : Nat) (o : Option Nat) (gv : Nat) (Av : Option Addr) (n : Nat) (vals : List Int) (W : World) : Prop := vals.length = n ∧ (0 < n → Av = some ⟨gv, 0, none⟩ ∧ Asd g gm o gv W ∧ ∃ arr, W.heap[gv]? = some (.cells arr 2 (0, 0)) ∧ ∀ i (h : i < vals.length), arr[i]? = some (.int .i64 vals[i]))
theorem VX.call {g gm gv n : Nat} {o o' : Option Nat} {Av : Option Addr} {vals : List Int} {W W' : World} (h : VX g gm o gv Av n vals W) (hf : Off g gm o W W') (hn : Nxt W o o') : VX g gm o' gv Av n vals W' := by
  refine ⟨h.1, fun h0 => ?_⟩
  obtain ⟨h1, h2, arr, h3, h4⟩ := h.2 h0
  exact ⟨h1, h2.mv hf.size hn, arr, (hf.at h2).trans h3, h4⟩
theorem VX.below {g gm gv n : Nat} {o : Option Nat} {Av : Option Addr} {vals : List Int} {W W' : World} (h : VX g gm o gv Av n vals W) (hb : Below W.heap.size W W') : VX g gm o gv Av n vals W' := h.call (.of hb) (.inl rfl)
theorem VX.val {g gm gv n : Nat} {o : Option Nat} {Av : Option Addr} {vals : List Int} {W : World} (h : VX g gm o gv Av n vals W) (k : Int) (h0 : 0 ≤ k) (h1 : k < n) : W.cell? ⟨gv, k.toNat, none⟩ = some (.int .i64 (vl vals k)) ∧ W.frozen? ⟨gv, k.toNat, none⟩ = false := by
  obtain ⟨e1, e2, arr, e3, e4⟩ := h.2 (by omega)
  obtain ⟨c0, f0⟩ := row_facts e3
  have hl := h.1
  refine ⟨?_, f0 _⟩
  rw [c0, e4 k.toNat (by omega)]
  unfold vl
  rw [List.getD_eq_getElem?_getD, List.getElem?_eq_getElem (by omega)]; rfl
theorem VX.set {g gm gv n : Nat} {o : Option Nat} {Av : Option Addr} {vals : List Int} {W : World} (h : VX g gm o gv Av n vals W) (k : Nat) (v : Int) : VX g gm o gv Av n (vals.set k v) (W.setCell ⟨gv, k, none⟩ (.int .i64 v)) := by
  refine ⟨by simpa using h.1, fun h0 => ?_⟩
  obtain ⟨e1, e2, arr, e3, e4⟩ := h.2 h0
  refine ⟨e1, ⟨by rw [setCell_size]; exact e2.lt, e2.g, e2.gm, e2.o⟩, _, heap_set (j := k) (u := .int .i64 v) e3, fun i hi => ?_⟩
  have hi' : i < vals.length := by simpa using hi
  have hs : i < arr.size := (Array.getElem?_eq_some_iff.1 (e4 i hi')).1
  rw [Array.getElem?_setIfInBounds, List.getElem_set]
  by_cases e : k = i
  · subst e; rw [if_pos rfl, if_pos hs, if_pos rfl]
  · rw [if_neg e, if_neg e]; exact e4 i hi'
theorem VX.own {g gm lo n : Nat} {o : Option Nat} {v : Value} {vals : List Int} {W : World} (h : W.ownsRow lo 2 1 v n (vals.map (Value.int .i64))) (hn : vals.length = n) (hg : g < lo) (hgm : gm < lo) (ho : ∀ b, o = some b → b < lo) : ∃ Av c gv, v = .slice Av n c ∧ lo ≤ gv ∧ VX g gm o gv Av n vals W ∧ n ≤ c ∧ (Av = none → c = 0) := by
  rcases h.2 with ⟨e1, e2⟩ | ⟨gv, cap, cur, e1, e2, e3, e4, e5, e6, e7⟩
  · subst e1; subst e2; exact ⟨none, 0, lo, rfl, Nat.le_refl _, ⟨hn, fun h0 => by omega⟩, Nat.le_refl _, fun _ => rfl⟩
  · refine ⟨_, cap, gv, e1, e2, ⟨hn, fun h0 => ⟨rfl, ⟨(Array.getElem?_eq_some_iff.1 e3).1, by omega, by omega, fun e => by have := ho gv e; omega⟩, cur, e3, fun i hi => ?_⟩⟩, e4, fun h => by cases h⟩
    have h8 : (cur.toList.take (n * 1))[i]? = (vals.map (Value.int .i64))[i]? := by rw [e7]
    rw [List.getElem?_take_of_lt (by omega), Array.getElem?_toList, List.getElem?_map, List.getElem?_eq_getElem hi] at h8
    exact h8
theorem VX.rd {g gm gv n c : Nat} {o : Option Nat} {Av : Option Addr} {vals : List Int} {W : World} (h : VX g gm o gv Av n vals W) (h1 : n ≤ c) (h2 : Av = none → c = 0) (hl : n ≤ 1048576) : RI lm W (.slice Av n c) vals := by
  have e := h.1
  subst e
  refine ⟨Av, c, rfl, h1, hl, h2, fun h0 => ?_⟩
  obtain ⟨e1, e2, arr, e3, e4⟩ := h.2 h0
  refine ⟨gv, 0, e1, e2.lt, fun i hi => ⟨_, rfl, rfl, fun j hj => ?_⟩⟩
  obtain ⟨c0, -⟩ := row_facts e3
  have hj0 : j = 0 := by simp at hj; omega
  subst hj0
  rw [c0]
  simpa using e4 i hi
theorem own_off2 {W W' : World} {lo b e sz n : Nat} {v : Value} {cs : List Value} (h : W.ownsRow lo e sz v n cs) (hb : Off b b none W W') (hl : ∀ k, v.ownBlock = some k → k ≠ b) : W'.ownsRow lo e sz v n cs := by
  refine ⟨h.1, ?_⟩
  rcases h.2 with h' | ⟨g, cap, cur, hv, h1, h2, h3⟩
  · exact .inl h'
  · have hne : g ≠ b := hl g (by rw [hv]; rfl)
    exact .inr ⟨g, cap, cur, hv, h1, (hb.block g (Array.getElem?_eq_some_iff.1 h2).1 hne hne (by simp)).trans h2, h3⟩
theorem own_blk_lt {W : World} {lo e sz n : Nat} {v : Value} {cs : List Value} (h : W.ownsRow lo e sz v n cs) : ∀ k, v.ownBlock = some k → k < W.heap.size := by
  intro k hk
  rcases h.2 with ⟨rfl, -⟩ | ⟨g, cap, cur, rfl, h1, h2, h3⟩
  · cases hk
  · simp [Value.ownBlock] at hk; subst hk; exact (Array.getElem?_eq_some_iff.1 h2).1
theorem idx_at (x : Int) : ∀ l : List Int, x ∈ l → ∃ (k : Nat) (h : k < l.length), idx (fun y => x == y) l = k ∧ l[k] = x
  | [], h => by cases h
  | y :: r, h => by
    unfold idx
    by_cases e : x = y
    · exact ⟨0, by simp, by simp [e], by simp [e]⟩
    · obtain ⟨k, hk, hi, hx⟩ := idx_at x r (by rcases List.mem_cons.1 h with h | h; exact absurd h e; exact h)
      refine ⟨k + 1, by simp; omega, ?_, by simpa using hx⟩
      rw [if_neg (by simpa using e), hi, if_neg (by omega)]; rfl
theorem preds_inj (f : XFunc) (b : Int) (i j : Nat) (hi : i < (predsOf f b).length) (hj : j < (predsOf f b).length) (h : (predsOf f b)[i] = (predsOf f b)[j]) : i = j := by
  have hn : (predsOf f b).Nodup := by
    unfold predsOf upTo
    refine List.Pairwise.filter _ ?_
    exact List.Pairwise.map _ (fun a b h => by omega) List.nodup_range
  exact (List.getElem_inj hn).1 h
theorem putAt_snoc (x : Int) (xs : List Int) : ∀ (l : List Int) (k : Nat), putAt l k (xs ++ [x]) = (putAt l k xs).set (k + xs.length) x := by
  induction xs with
  | nil => intro l k; simp [putAt]
  | cons y r ih =>
    intro l k
    simp only [List.cons_append, putAt, List.length_cons]
    rw [ih, show k + 1 + r.length = k + (r.length + 1) by omega]
def AfterX (mv : Value) (fuel g gm lo : Nat) (d : Int) (s : RS) (A : Option Addr) (c : Nat) (v : Value) (w : World) (e : Ending) (w' : World) : Prop := e = .returned v ∧ SX mv fuel g gm lo d s A c w' ∧ Off g gm (blk A) w w'
set_option maxHeartbeats 1000000 in
theorem s_fail (mv : Value) (fuel g gm lo : Nat) (s : RS) (A : Option Addr) (c : Nat) (W : World) (q : Int) (h : SX mv fuel g gm lo 0 s A c W) :
    Calls Tryz.prog 107 #[.pointer (some ⟨g, 0, none⟩), .int .i64 q] W (AfterX mv fuel g gm lo q s A c (.tuple #[]) W) := by
  have h' := Hd.mk h
  obtain ⟨cm, k0, k1, k2, k3, k4, k5, kf, kg, kgm, kne⟩ := h.cells
  have f5 := kf 5
  clear h kf k0 k1 k2 k3 k4
  go_enter Tryz.func107, Tryz.ntmps107
  go_wp2
  go_end0
  exact ⟨rfl, h'.out.setCode q, (Off.refl _ _ _ _).set (.inl rfl) _⟩
set_option maxHeartbeats 1000000 in
theorem burn_dead (mv : Value) (fuel g gm lo : Nat) (d : Int) (s : RS) (A : Option Addr) (c : Nat) (W : World) (h : SX mv fuel g gm lo d s A c W) (hd : d ≠ 0) :
    Calls Tryz.prog 110 #[.pointer (some ⟨g, 0, none⟩)] W (AfterX mv fuel g gm lo d s A c (.bool false) W) := by
  have h' := Hd.mk h
  obtain ⟨cm, k0, k1, k2, k3, k4, k5, kf, kg, kgm, kne⟩ := h.cells
  have d1 := bneT hd
  clear h kf k0 k1 k2 k3 k4
  go_enter Tryz.func110, Tryz.ntmps110
  go_wp2
  go_ret
  exact ⟨rfl, h'.out, Off.refl _ _ _ _⟩
set_option maxHeartbeats 1000000 in
theorem burn_no (mv : Value) (fuel g gm lo : Nat) (s : RS) (A : Option Addr) (c : Nat) (W : World) (h : SX mv fuel g gm lo 0 s A c W) (hs : s.steps = fuel) :
    Calls Tryz.prog 110 #[.pointer (some ⟨g, 0, none⟩)] W (AfterX mv fuel g gm lo 4 s A c (.bool false) W) := by
  have h' := Hd.mk h
  obtain ⟨cm, k0, k1, k2, k3, k4, k5, kf, kg, kgm, kne⟩ := h.cells
  have hf := fun nq => s_fail mv fuel g gm lo s A c (W.drewN nq) 4 (h.drewN nq)
  have hle : fuel ≤ s.steps := by omega
  clear h kf k0 k1 k2 hs
  go_enter Tryz.func110, Tryz.ntmps110
  go_wp2
  go_quiet (fail)
  go_wp2_with fail
  refine (hf _).mono ?_; rintro e w1 ⟨rfl, hS, hO⟩
  have hS' := Hd.mk hS
  have hO' := Hd.mk hO
  clear hS hO hf
  go_wp2
  go_ret
  exact ⟨rfl, hS'.out, ((Off.refl _ _ _ _).drewN _).trans (.inl rfl) hO'.out⟩
set_option maxHeartbeats 1000000 in
theorem burn_yes (mv : Value) (fuel g gm lo : Nat) (s : RS) (A : Option Addr) (c : Nat) (W : World) (h : SX mv fuel g gm lo 0 s A c W) (hs : s.steps ≤ fuel) (hn : ¬ s.steps = fuel) (hfu : fuel ≤ 2000) :
    Calls Tryz.prog 110 #[.pointer (some ⟨g, 0, none⟩)] W (AfterX mv fuel g gm lo 0 ⟨s.mem, s.out, s.steps + 1⟩ A c (.bool true) W) := by
  have h' := Hd.mk h
  obtain ⟨cm, k0, k1, k2, k3, k4, k5, kf, kg, kgm, kne⟩ := h.cells
  have f4 := kf 4
  have hle : ¬ fuel ≤ s.steps := by omega
  have ew : IntKind.i64.wrap ((s.steps : Int) + 1) = ((s.steps + 1 : Nat) : Int) := by rw [IntWalk.i64_in _ (by omega)]; simp
  have ew' := ew
  simp only [Int.natCast_add, Int.cast_ofNat_Int] at ew'
  clear h kf k0 k1 k2 hs hn
  go_enter Tryz.func110, Tryz.ntmps110
  go_wp2
  go_quiet (fail)
  go_wp2
  have hst := Hd.mk ((h'.out.drewN nq).setSteps (s.steps + 1))
  go_ret
  exact ⟨rfl, hst.out, ((Off.refl _ _ _ _).drewN _).set (.inl rfl) _⟩
end Go.Proofs.YtkcgejbnhpccdaaGreat
