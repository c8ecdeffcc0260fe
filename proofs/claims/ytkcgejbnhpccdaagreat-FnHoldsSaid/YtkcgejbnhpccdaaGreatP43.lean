import Derived.Test.YtkcgejbnhpccdaaGreatP41
import Derived.Test.YtkcgejbnhpccdaaGreatP42
set_option linter.unusedSimpArgs false
set_option linter.unusedVariables false
namespace Go.Proofs.YtkcgejbnhpccdaaGreat
open Go.RowKit
theorem BlkR.upd {k : Nat} {j : Int} {D D' : GD} (h : BlkR k j D D') (vids vws : Value) (nid : Nat) (hn : (nid : Int) ≤ D'.next) : BlkR k j D {D' with vids := vids, vws := vws, nid := nid} := by
  obtain ⟨h1, h2, h3, h4, ⟨h5, h5', h5''⟩, h6, h7⟩ := h
  exact ⟨h1, h2, h3, h4, ⟨h5, h5', hn⟩, h6, h7⟩
theorem BlkR.phi {k : Nat} {j : Int} {D D' : GD} (h : BlkR k j D D') (v' : Value) (c : List Value) (vids vws : Value) : BlkR k (j + 1) D {D' with vPh := v', nPh := D'.nPh + 1, cPh := c, next := D'.next + 1, vids := vids, vws := vws, nid := D'.nid + 1} := by
  obtain ⟨h1, h2, h3, h4, ⟨h5, h5', h5''⟩, h6, h7⟩ := h
  exact ⟨h1, h2, h3, h4, ⟨by show (D'.nIn : Int) ≤ D'.next + 1; omega, by show ((D'.nPh + 1 : Nat) : Int) ≤ D'.next + 1; omega, by show ((D'.nid + 1 : Nat) : Int) ≤ D'.next + 1; omega⟩, by show D.next ≤ D'.next + 1; omega, by show D'.next + 1 ≤ D.next + (j + 1); omega⟩
theorem phi_new {C : GC} {D : GD} {W : World} (h : GS C D W) (wd x y : Int) : Bx (GE C D) (QPhi [.int .i64 wd, .slice (some ⟨W.heap.size, 0, none⟩) 2 2]) (W.alloc (.cells #[.int .i64 x, .int .i64 y] 2)) := by
  have ho : (W.alloc (.cells #[.int .i64 x, .int .i64 y] 2)).ownsRow W.heap.size 2 1 (.slice (some ⟨W.heap.size, 0, none⟩) 2 2) [x, y].length ([x, y].map (.int .i64)) := World.ownsRow_lit W _ 2 (Nat.le_refl _) (by unfold maxLen; omega) rfl
  intro w' hF
  exact ⟨⟨wd, [x, y]⟩, trivial, _, rfl, (OwI.of (own_fr ho hF fun k hk e => by have := own_block_ge ho k hk; have := GE.lt h k e; omega)).rd (show 2 ≤ 1048576 by omega)⟩
set_option maxRecDepth 20000 in
set_option maxHeartbeats 20000000 in
theorem s_fork (C : GC) (D : GD) (W : World) (h : GS C D W) (hm : Nm D) (hn : D.next ≤ 700) (hb : D.nB ≤ 50) : Calls Tryz.prog 115 #[.pointer (some ⟨C.gg, 0, none⟩)] W (RetB 3 40 C D W) := by
  have hd0 := h.n0
  obtain ⟨w1, rfl⟩ : ∃ w1 : World, w1 = W := ⟨_, rfl⟩
  obtain ⟨D1, hD1⟩ : ∃ D1 : GD, D1 = D := ⟨_, rfl⟩
  have g1 : Hd (GP C D D1 w1 w1) := ⟨by rw [hD1]; exact GP.refl h⟩
  have b1 : Hd (BlkR 0 0 D D1) := ⟨by rw [hD1]; exact (InsR.refl D).blk hm⟩
  have k3 := h.at 3
  simp [GD.cells] at k3
  obtain ⟨Ab, cb, hvb, -, -, -, -⟩ := own_shape h.oB
  rw [hvb] at k3
  clear h hm hD1
  go_enter Tryz.func115, Tryz.ntmps115
  have hwb : IntKind.i64.wrap (D.nB : Int) = D.nB := IntWalk.i64_in _ (by omega)
  have hp := s_pick C D1 1 w1 g1.out.gs b1.out.2.2.2.2.1 (by obtain ⟨-, -, -, h4, -, h6, h7⟩ := b1.out; omega) (.inl rfl)
  go_wp2_with fail
  refine hp.mono ?_; rintro e w2 ⟨xc, D2, rfl, hg, hi, hn'⟩
  have s2 := Hd.mk hg
  have g2 := Hd.mk (g1.out.trans hg)
  have b2 := Hd.mk (b1.out.ins hi)
  clear hg hi hn' hp
  clear k3
  have hp := s_close C D2 ⟨3, xc, (D.nB : Int) + 1, (D.nB : Int) + 2⟩ w2 g2.out.gs (by obtain ⟨-, -, -, h4, -, h6, h7⟩ := b2.out; omega)
  go_wp2_with fail
  refine hp.mono ?_; rintro e w3 ⟨v', rfl, hg, -⟩
  obtain ⟨D3, hD⟩ : ∃ D' : GD, D' = closed {D2 with tm := ⟨3, xc, (D.nB : Int) + 1, (D.nB : Int) + 2⟩} v' := ⟨_, rfl⟩
  have b3 := Hd.mk (b2.out.cls ⟨3, xc, (D.nB : Int) + 1, (D.nB : Int) + 2⟩ v')
  rw [← hD] at hg b3
  have s3 := Hd.mk hg
  have g3 := Hd.mk (g2.out.trans hg)
  clear hg hp hD
  have j11 := g3.out.gs.at 11
  have j12 := g3.out.gs.at 12
  simp [GD.cells] at j11 j12
  obtain ⟨As, cs, xs, es, ls, rs⟩ := bx_ri g3.out.gs.eI
  obtain ⟨At, ct, ys, et, lt, rt⟩ := bx_ri g3.out.gs.eW
  rw [es] at j11
  rw [et] at j12
  clear rs rt ls lt
  have hsn := Hd.mk b3.out.2.2.2.2.1.2.2
  have nx0 : Hd (D3.next ≤ D3.next) := ⟨Int.le_refl _⟩
  have j0 := g3.out.gs.at 0
  simp [GD.cells] at j0
  have hp := s_below C.lo C.gr 3 w3 g3.out.gs.rs (by omega)
  go_wp2_with fail
  refine hp.mono ?_; rintro e w4 ⟨v, rfl, ⟨q, rfl, q1, q2⟩, hr, hg⟩
  have s4 := Hd.mk (g3.out.gs.rd hg hr)
  have g4 := Hd.mk (g3.out.trans s4.out)
  clear hr hg hp j0
  have hp := s_some C D3 q w4 g4.out.gs b3.out.2.2.2.2.1 (by obtain ⟨-, -, -, h4, -, h6, h7⟩ := b3.out; omega) (by omega)
  go_wp2_with fail
  refine hp.mono ?_; rintro e w5 ⟨D4, rfl, hg, hi, hn'⟩
  have nx1 := Hd.mk (Int.le_trans nx0.out (hi.next.1))
  have s5 := Hd.mk hg
  have g5 := Hd.mk (g4.out.trans hg)
  have b4 := Hd.mk (b3.out.ins (hi.mono (show 5 * q ≤ 10 by omega)))
  clear hg hi hn' hp q1 q2
  have j0 := g5.out.gs.at 0
  simp [GD.cells] at j0
  have hp := s_width C.lo C.gr w5 g5.out.gs.rs
  go_wp2_with fail
  refine hp.mono ?_; rintro e w6 ⟨v, rfl, ⟨wd, rfl, hwd⟩, hr, hg⟩
  have s6 := Hd.mk (g5.out.gs.rd hg hr)
  have g6 := Hd.mk (g5.out.trans s6.out)
  clear hr hg hp j0
  have hwd' := Hd.mk hwd
  clear hwd j11 j12
  have hp := s_pick C D4 wd w6 g6.out.gs b4.out.2.2.2.2.1 (by obtain ⟨-, -, -, h4, -, h6, h7⟩ := b4.out; omega) hwd'.out
  go_wp2_with fail
  refine hp.mono ?_; rintro e w7 ⟨xa, D5, rfl, hg, hi, hn'⟩
  have nx2 := Hd.mk (Int.le_trans nx1.out (hi.next.1))
  have s7 := Hd.mk hg
  have g7 := Hd.mk (g6.out.trans hg)
  have b5 := Hd.mk (b4.out.ins hi)
  clear hg hi hn' hp
  have hp := s_pick C D5 8 w7 g7.out.gs b5.out.2.2.2.2.1 (by obtain ⟨-, -, -, h4, -, h6, h7⟩ := b5.out; omega) (.inr (.inl rfl))
  go_wp2_with fail
  refine hp.mono ?_; rintro e w8 ⟨xv, D6, rfl, hg, hi, hn'⟩
  have nx3 := Hd.mk (Int.le_trans nx2.out (hi.next.1))
  have s8 := Hd.mk hg
  have g8 := Hd.mk (g7.out.trans hg)
  have b6 := Hd.mk (b5.out.ins hi)
  clear hg hi hn' hp
  have hp := s_close C D6 ⟨2, 0, (D.nB : Int) + 3, 0⟩ w8 g8.out.gs (by obtain ⟨-, -, -, h4, -, h6, h7⟩ := b6.out; omega)
  go_wp2_with fail
  refine hp.mono ?_; rintro e w9 ⟨v', rfl, hg, -⟩
  obtain ⟨D7, hD⟩ : ∃ D' : GD, D' = closed {D6 with tm := ⟨2, 0, (D.nB : Int) + 3, 0⟩} v' := ⟨_, rfl⟩
  have nx4 := Hd.mk (Int.le_trans nx3.out (show D6.next ≤ D7.next by rw [hD]; exact Int.le_refl _))
  have b7 := Hd.mk (b6.out.cls ⟨2, 0, (D.nB : Int) + 3, 0⟩ v')
  rw [← hD] at hg b7
  have s9 := Hd.mk hg
  have g9 := Hd.mk (g8.out.trans hg)
  clear hg hp hD
  have hch := (((((s4.out.trans s5.out).trans s6.out).trans s7.out).trans s8.out).trans s9.out)
  have hei := g3.out.gs.eI.go hch.fr hch.sub
  have hew := g3.out.gs.eW.go hch.fr hch.sub
  rw [es] at hei
  rw [et] at hew
  have hu := g9.out.gs.upd (W' := (w9.setCell ⟨C.gg, 11, none⟩ (.slice As D3.nid cs)).setCell ⟨C.gg, 12, none⟩ (.slice At D3.nid ct)) D7.tm D7.ret D7.next (.slice As D3.nid cs) (.slice At D3.nid ct) D3.nid ((Fr.set _ _ _ _).go (Fr.set _ _ _ _) fun _ e => .inl e) ((heap_set (heap_set g9.out.gs.cell)).trans (by simp [GD.cells])) hei hew g9.out.gs.wR g9.out.gs.n0 g9.out.gs.n1 g3.out.gs.n4
  obtain ⟨D8, hD⟩ : ∃ D' : GD, D' = {D7 with vids := .slice As D3.nid cs, vws := .slice At D3.nid ct, nid := D3.nid} := ⟨_, rfl⟩
  have b8 := Hd.mk (b7.out.upd (.slice As D3.nid cs) (.slice At D3.nid ct) D3.nid (Int.le_trans hsn.out nx4.out))
  have j0 := g9.out.gs.at 0
  have j11 := g9.out.gs.at 11
  have j12 := g9.out.gs.at 12
  simp [GD.cells] at j0 j11 j12
  have fz := g9.out.gs.fz
  have hgl := g9.out.gs.lt
  obtain ⟨w10, hw10⟩ : ∃ w' : World, w' = (w9.setCell ⟨C.gg, 11, none⟩ (.slice As D3.nid cs)).setCell ⟨C.gg, 12, none⟩ (.slice At D3.nid ct) := ⟨_, rfl⟩
  have nx5 := Hd.mk (Int.le_trans nx4.out (show D7.next ≤ D8.next by rw [hD]; exact Int.le_refl _))
  have hsz := Hd.mk (show w10.heap.size = w9.heap.size by rw [hw10]; simp [World.setCell])
  rw [← hw10, ← hD] at hu
  rw [← hD] at b8
  have s10 := Hd.mk hu
  have g10 := Hd.mk (g9.out.trans hu)
  have hw10' := Hd.mk hw10
  clear hu hch hei hew hD hw10
  have hp := s_below C.lo C.gr 3 w10 g10.out.gs.rs (by omega)
  go_wp2_with fail
  rw [← hw10'.out]
  clear hw10' j0 j11 j12 fz hgl
  refine hp.mono ?_; rintro e w11 ⟨v, rfl, ⟨q, rfl, q1, q2⟩, hr, hg⟩
  have s11 := Hd.mk (g10.out.gs.rd hg hr)
  have g11 := Hd.mk (g10.out.trans s11.out)
  clear hr hg hp
  have hp := s_some C D8 q w11 g11.out.gs b8.out.2.2.2.2.1 (by obtain ⟨-, -, -, h4, -, h6, h7⟩ := b8.out; omega) (by omega)
  go_wp2_with fail
  refine hp.mono ?_; rintro e w12 ⟨D9, rfl, hg, hi, hn'⟩
  have nx6 := Hd.mk (Int.le_trans nx5.out (hi.next.1))
  have s12 := Hd.mk hg
  have g12 := Hd.mk (g11.out.trans hg)
  have b9 := Hd.mk (b8.out.ins (hi.mono (show 5 * q ≤ 10 by omega)))
  clear hg hi hn' hp q1 q2
  have hp := s_pick C D9 wd w12 g12.out.gs b9.out.2.2.2.2.1 (by obtain ⟨-, -, -, h4, -, h6, h7⟩ := b9.out; omega) hwd'.out
  go_wp2_with fail
  refine hp.mono ?_; rintro e w13 ⟨xb, D10, rfl, hg, hi, hn'⟩
  have nx7 := Hd.mk (Int.le_trans nx6.out (hi.next.1))
  have s13 := Hd.mk hg
  have g13 := Hd.mk (g12.out.trans hg)
  have b10 := Hd.mk (b9.out.ins hi)
  clear hg hi hn' hp
  have hp := s_pick C D10 8 w13 g13.out.gs b10.out.2.2.2.2.1 (by obtain ⟨-, -, -, h4, -, h6, h7⟩ := b10.out; omega) (.inr (.inl rfl))
  go_wp2_with fail
  refine hp.mono ?_; rintro e w14 ⟨xu, D11, rfl, hg, hi, hn'⟩
  have nx8 := Hd.mk (Int.le_trans nx7.out (hi.next.1))
  have s14 := Hd.mk hg
  have g14 := Hd.mk (g13.out.trans hg)
  have b11 := Hd.mk (b10.out.ins hi)
  clear hg hi hn' hp
  have hp := s_close C D11 ⟨2, 0, (D.nB : Int) + 3, 0⟩ w14 g14.out.gs (by obtain ⟨-, -, -, h4, -, h6, h7⟩ := b11.out; omega)
  go_wp2_with fail
  refine hp.mono ?_; rintro e w15 ⟨v', rfl, hg, -⟩
  obtain ⟨D12, hD⟩ : ∃ D' : GD, D' = closed {D11 with tm := ⟨2, 0, (D.nB : Int) + 3, 0⟩} v' := ⟨_, rfl⟩
  have nx9 := Hd.mk (Int.le_trans nx8.out (show D11.next ≤ D12.next by rw [hD]; exact Int.le_refl _))
  have b12 := Hd.mk (b11.out.cls ⟨2, 0, (D.nB : Int) + 3, 0⟩ v')
  rw [← hD] at hg b12
  have s15 := Hd.mk hg
  have g15 := Hd.mk (g14.out.trans hg)
  clear hg hp hD
  have hch := (((((((((((s4.out.trans s5.out).trans s6.out).trans s7.out).trans s8.out).trans s9.out).trans s10.out).trans s11.out).trans s12.out).trans s13.out).trans s14.out).trans s15.out)
  have hei := g3.out.gs.eI.go hch.fr hch.sub
  have hew := g3.out.gs.eW.go hch.fr hch.sub
  rw [es] at hei
  rw [et] at hew
  have hu := g15.out.gs.upd (W' := (w15.setCell ⟨C.gg, 11, none⟩ (.slice As D3.nid cs)).setCell ⟨C.gg, 12, none⟩ (.slice At D3.nid ct)) D12.tm D12.ret D12.next (.slice As D3.nid cs) (.slice At D3.nid ct) D3.nid ((Fr.set _ _ _ _).go (Fr.set _ _ _ _) fun _ e => .inl e) ((heap_set (heap_set g15.out.gs.cell)).trans (by simp [GD.cells])) hei hew g15.out.gs.wR g15.out.gs.n0 g15.out.gs.n1 g3.out.gs.n4
  obtain ⟨D13, hD⟩ : ∃ D' : GD, D' = {D12 with vids := .slice As D3.nid cs, vws := .slice At D3.nid ct, nid := D3.nid} := ⟨_, rfl⟩
  have b13 := Hd.mk (b12.out.upd (.slice As D3.nid cs) (.slice At D3.nid ct) D3.nid (Int.le_trans hsn.out nx9.out))
  have j0 := g15.out.gs.at 0
  have j11 := g15.out.gs.at 11
  have j12 := g15.out.gs.at 12
  simp [GD.cells] at j0 j11 j12
  have fz := g15.out.gs.fz
  have hgl := g15.out.gs.lt
  obtain ⟨w16, hw16⟩ : ∃ w' : World, w' = (w15.setCell ⟨C.gg, 11, none⟩ (.slice As D3.nid cs)).setCell ⟨C.gg, 12, none⟩ (.slice At D3.nid ct) := ⟨_, rfl⟩
  have nx10 := Hd.mk (Int.le_trans nx9.out (show D12.next ≤ D13.next by rw [hD]; exact Int.le_refl _))
  have hsz := Hd.mk (show w16.heap.size = w15.heap.size by rw [hw16]; simp [World.setCell])
  rw [← hw16, ← hD] at hu
  rw [← hD] at b13
  have s16 := Hd.mk hu
  have g16 := Hd.mk (g15.out.trans hu)
  have hw16' := Hd.mk hw16
  clear hu hch hei hew hD hw16
  have hal := (Below.refl w16.heap.size w16).al (Nat.le_refl _) (.cells #[.int .i64 xa, .int .i64 xb] 2)
  have sa := g16.out.gs.mv hal
  have hp := s_phi C D13 wd (some ⟨w16.heap.size, 0, none⟩) 2 2 _ sa.gs b13.out.2.2.2.2.1 (by obtain ⟨-, -, -, h4, -, h6, h7⟩ := b13.out; omega) (phi_new g16.out.gs wd xa xb)
  rw [hsz.out] at hp
  clear hsz
  go_wp2_with fail
  rw [← hw16'.out]
  clear hw16' j0 j11 j12 fz hgl
  refine hp.mono ?_; rintro e w17 ⟨q, v', vids, vws, rfl, hg⟩
  obtain ⟨D14, hD⟩ : ∃ D' : GD, D' = {D13 with vPh := v', nPh := D13.nPh + 1, cPh := D13.cPh ++ [.int .i64 wd, .slice (some ⟨w15.heap.size, 0, none⟩) 2 2], next := D13.next + 1, vids := vids, vws := vws, nid := D13.nid + 1} := ⟨_, rfl⟩
  have nx11 := Hd.mk (Int.le_trans nx10.out (show D13.next ≤ D14.next by rw [hD]; exact Int.le_add_of_nonneg_right (by decide)))
  have b14 := Hd.mk (b13.out.phi v' (D13.cPh ++ [.int .i64 wd, .slice (some ⟨w15.heap.size, 0, none⟩) 2 2]) vids vws)
  rw [← hD] at hg b14
  have s17 := Hd.mk (sa.trans hg)
  have g17 := Hd.mk (g16.out.trans s17.out)
  clear hg hp hD sa hal
  have hal := (Below.refl w17.heap.size w17).al (Nat.le_refl _) (.cells #[.int .i64 xv, .int .i64 xu] 2)
  have sa := g17.out.gs.mv hal
  have hp := s_phi C D14 8 (some ⟨w17.heap.size, 0, none⟩) 2 2 _ sa.gs b14.out.2.2.2.2.1 (by obtain ⟨-, -, -, h4, -, h6, h7⟩ := b14.out; omega) (phi_new g17.out.gs 8 xv xu)
  go_wp2_with fail
  refine hp.mono ?_; rintro e w18 ⟨q, v', vids, vws, rfl, hg⟩
  obtain ⟨D15, hD⟩ : ∃ D' : GD, D' = {D14 with vPh := v', nPh := D14.nPh + 1, cPh := D14.cPh ++ [.int .i64 8, .slice (some ⟨w17.heap.size, 0, none⟩) 2 2], next := D14.next + 1, vids := vids, vws := vws, nid := D14.nid + 1} := ⟨_, rfl⟩
  have nx12 := Hd.mk (Int.le_trans nx11.out (show D14.next ≤ D15.next by rw [hD]; exact Int.le_add_of_nonneg_right (by decide)))
  have b15 := Hd.mk (b14.out.phi v' (D14.cPh ++ [.int .i64 8, .slice (some ⟨w17.heap.size, 0, none⟩) 2 2]) vids vws)
  rw [← hD] at hg b15
  have s18 := Hd.mk (sa.trans hg)
  have g18 := Hd.mk (g17.out.trans s18.out)
  clear hg hp hD sa hal
  go_wp2
  go_end0
  exact ⟨D15, rfl, g18.out, b15.out.mono (by omega)⟩
structure Num (w w' : World) : Prop where
  size : w'.heap.size = w.heap.size
  cell : ∀ b o, w'.cell? ⟨b, o, none⟩ = w.cell? ⟨b, o, none⟩ ∨ ((∃ i, w.cell? ⟨b, o, none⟩ = some (.int .i64 i)) ∧ ∃ i, w'.cell? ⟨b, o, none⟩ = some (.int .i64 i))
class KX {α : Type} (K : World → α → List Value → Prop) : Prop where
  num : ∀ {w w' : World} {x : α} {cs cs' : List Value}, K w x cs → Num w w' → cs'.length = cs.length → (∀ (j : Nat) (u : Value), cs[j]? = some u → cs'[j]? = some u ∨ ((∃ i, u = .int .i64 i) ∧ ∃ i, cs'[j]? = some (.int .i64 i))) → ∃ x', K w' x' cs'
theorem Rd.num {α : Type} [Inhabited α] {L sz : Nat} {K : World → α → List Value → Prop} [KX K] {w w' : World} {v : Value} {xs : List α} (h : Rd L sz K w v xs) (hn : Num w w') : ∃ xs' : List α, xs'.length = xs.length ∧ Rd L sz K w' v xs' := by
  obtain ⟨A, c, rfl, h1, h2, hz, h3⟩ := h
  by_cases h0 : 0 < xs.length
  · obtain ⟨b, off, rfl, hlt, hat⟩ := h3 h0
    have hx : ∀ i, i < xs.length → ∃ x : α, ∃ cs, K w' x cs ∧ cs.length = sz ∧ ∀ j (hj : j < cs.length), w'.cell? ⟨b, off + i * sz + j, none⟩ = some cs[j] := fun i hi => by
      obtain ⟨cs, hk, hcl, hc⟩ := hat i hi
      have hget : ∀ j, j < sz → ∃ u, w'.cell? ⟨b, off + i * sz + j, none⟩ = some u ∧ ∀ q, cs[j]? = some q → u = q ∨ ((∃ i, q = .int .i64 i) ∧ ∃ i, u = .int .i64 i) := fun j hj => by
        have hq := hc j (by omega)
        have hq' : cs[j]? = some cs[j] := List.getElem?_eq_getElem (by omega)
        rcases hn.cell b (off + i * sz + j) with h4 | ⟨⟨p, h4⟩, q, h5⟩
        · exact ⟨_, h4.trans hq, fun q hq2 => by rw [hq'] at hq2; cases hq2; exact .inl rfl⟩
        · rw [hq] at h4
          injection h4 with h4
          exact ⟨_, h5, fun q' hq2 => by rw [hq'] at hq2; cases hq2; exact .inr ⟨⟨p, h4⟩, q, rfl⟩⟩
      obtain ⟨x', hx'⟩ := KX.num (cs' := (List.range sz).map fun j => (w'.cell? ⟨b, off + i * sz + j, none⟩).getD (.bool false)) hk hn (by simp [hcl]) (fun j u hu => by
        have hj : j < sz := by have := (List.getElem?_eq_some_iff.1 hu).1; omega
        obtain ⟨u', h4, h5⟩ := hget j hj
        have e : ((List.range sz).map fun j => (w'.cell? ⟨b, off + i * sz + j, none⟩).getD (.bool false))[j]? = some u' := by simp [hj, h4]
        rw [e]
        rcases h5 u hu with rfl | ⟨h6, i', rfl⟩
        · exact .inl rfl
        · exact .inr ⟨h6, _, rfl⟩)
      refine ⟨x', _, hx', by simp, fun j hj => ?_⟩
      have hj' : j < sz := by simpa using hj
      obtain ⟨u', h4, -⟩ := hget j hj'
      simp [h4]
    obtain ⟨f, hf⟩ := Go.Deep.choose_lt hx
    refine ⟨(List.range xs.length).map f, by simp, some ⟨b, off, none⟩, c, by simp, by simpa using h1, by simpa using h2, hz, fun _ => ⟨b, off, rfl, by rw [hn.size]; exact hlt, fun i hi => ?_⟩⟩
    have hi' : i < xs.length := by simpa using hi
    simpa using hf i hi'
  · obtain rfl : xs = [] := List.eq_nil_of_length_eq_zero (by omega)
    exact ⟨[], rfl, A, c, rfl, h1, h2, hz, fun h => absurd h (by simp)⟩
instance : KX KInt := ⟨fun h _ hl hc => by
  unfold KInt at h ⊢
  subst h
  obtain ⟨i', h'⟩ := int1 (hc 0 _ rfl) ⟨_, rfl⟩
  exact ⟨i', cs1 hl h'⟩⟩
theorem Rd.ni {α : Type} {L sz : Nat} {K : World → α → List Value → Prop} {w : World} {v : Value} {xs : List α} (h : Rd L sz K w v xs) (i : Int) : v ≠ .int .i64 i := by
  obtain ⟨A, c, rfl, _⟩ := h; simp
instance {L : Nat} : KX (KPhi L) := ⟨fun {_ w' _ _ cs'} ⟨v, h, r⟩ hn hl hc => by
  subst h
  obtain ⟨i', h0⟩ := int1 (hc 0 _ rfl) ⟨_, rfl⟩
  obtain ⟨ys, -, hr⟩ := r.num hn
  exact ⟨⟨i', ys⟩, v, cs2 hl h0 (fix1 (hc 1 _ rfl) r.ni), hr⟩⟩
instance {L : Nat} : KX (KInst L) := ⟨fun ⟨v, h, r⟩ hn hl hc => by
  subst h
  obtain ⟨i0, h0⟩ := int1 (hc 0 _ rfl) ⟨_, rfl⟩
  obtain ⟨i1, h1⟩ := int1 (hc 1 _ rfl) ⟨_, rfl⟩
  obtain ⟨i2, h2⟩ := int1 (hc 2 _ rfl) ⟨_, rfl⟩
  obtain ⟨i3, h3⟩ := int1 (hc 3 _ rfl) ⟨_, rfl⟩
  obtain ⟨i4, h4⟩ := int1 (hc 4 _ rfl) ⟨_, rfl⟩
  obtain ⟨i5, h5⟩ := int1 (hc 5 _ rfl) ⟨_, rfl⟩
  obtain ⟨ys, -, hr⟩ := r.num hn
  exact ⟨⟨i0, i1, i2, i3, i4, i5, ys⟩, v, cs7 hl h0 h1 h2 h3 h4 h5 (fix1 (hc 6 _ rfl) r.ni), hr⟩⟩
theorem QI.num {v : Value} {n : Nat} {w w' : World} (h : QI v n w) (hn : Num w w') : QI v n w' := by
  obtain ⟨xs, h1, -, h2⟩ := h
  obtain ⟨ys, h3, h4⟩ := h2.num hn
  exact ⟨ys, h3.trans h1, trivial, h4⟩
theorem same_cs (cs : List Value) : ∀ (j : Nat) (u : Value), cs[j]? = some u → cs[j]? = some u ∨ ((∃ i, u = .int .i64 i) ∧ ∃ i, cs[j]? = some (.int .i64 i)) := fun _ _ h => .inl h
theorem QInst.num {cs : List Value} {w w' : World} (h : QInst cs w) (hn : Num w w') : QInst cs w' := by
  obtain ⟨x, -, h2⟩ := h
  obtain ⟨y, h3⟩ := KX.num h2 hn rfl (same_cs cs)
  exact ⟨y, trivial, h3⟩
theorem QPhi.num {cs : List Value} {w w' : World} (h : QPhi cs w) (hn : Num w w') : QPhi cs w' := by
  obtain ⟨x, -, h2⟩ := h
  obtain ⟨y, h3⟩ := KX.num h2 hn rfl (same_cs cs)
  exact ⟨y, trivial, h3⟩
theorem QBlock.num {cs : List Value} {w w' : World} (h : QBlock cs w) (hn : Num w w') : QBlock cs w' := by
  obtain ⟨x, ⟨s1, s2⟩, v, v', rfl, h1, h2⟩ := h
  obtain ⟨ps, h3, h4⟩ := h1.num hn
  obtain ⟨is, h5, h6⟩ := h2.num hn
  exact ⟨⟨ps, is, x.term⟩, ⟨by show ps.length ≤ 1000; omega, by show is.length ≤ 1000; omega⟩, v, v', rfl, h4, h6⟩
theorem set_back {α : Type} (a : Array α) (j : Nat) (x y : α) (h : a[j]? = some x) : (a.setIfInBounds j y).setIfInBounds j x = a := by
  apply Array.ext_getElem?
  intro k
  by_cases hk : j = k
  · subst hk
    obtain ⟨h1, h2⟩ := Array.getElem?_eq_some_iff.1 h
    simp [h1, h2]
  · simp [Array.getElem?_setIfInBounds, hk]
theorem Bx.num {E : Nat → Prop} {Q : World → Prop} {W : World} (h : Bx E Q W) (hQ : ∀ w w', Q w → Num w w' → Q w') {g j e : Nat} {arr : Array Value} {i i' : Int} (hg : ¬ E g) (hb : W.heap[g]? = some (.cells arr e (0, 0))) (ho : arr[j]? = some (.int .i64 i)) : Bx E Q (W.setCell ⟨g, j, none⟩ (.int .i64 i')) := by
  intro w' hF
  have h1 := (hF.block g (by have := (Array.getElem?_eq_some_iff.1 hb).1; simpa [World.setCell] using this) hg).trans (heap_set (u := .int .i64 i') (j := j) hb)
  have h2 : (w'.setCell ⟨g, j, none⟩ (.int .i64 i)).heap[g]? = W.heap[g]? := by rw [heap_set h1, set_back _ _ _ _ ho, hb]
  have h3 : Fr E W (w'.setCell ⟨g, j, none⟩ (.int .i64 i)) := by
    refine ⟨hF.os, hF.tape, hF.output, ?_, fun b hb1 hb2 => ?_⟩
    · have := hF.size; simpa [World.setCell] using this
    · by_cases hbg : b = g
      · subst hbg; exact h2
      · rw [Below.heap_setCell w' ⟨g, j, none⟩ _ b hbg, hF.block b (by simpa [World.setCell] using hb1) hb2, Below.heap_setCell W ⟨g, j, none⟩ _ b hbg]
  refine hQ _ _ (h _ h3) ⟨by simp [World.setCell], fun b o => ?_⟩
  by_cases hbg : b = g
  · subst hbg
    rw [(row_facts h1).1 o, (row_facts (h2.trans hb)).1 o]
    by_cases hj : j = o
    · subst hj
      have := (Array.getElem?_eq_some_iff.1 ho).1
      exact .inr ⟨⟨i, ho⟩, i', by simp [Array.getElem?_setIfInBounds, this]⟩
    · exact .inl (by simp [Array.getElem?_setIfInBounds, hj])
  · exact .inl (World.cell?_of_block (a := ⟨b, o, none⟩) (Below.heap_setCell w' ⟨g, j, none⟩ _ b hbg)).symm
theorem GP.num {C : GC} {D0 D : GD} {W0 W : World} (h : GP C D0 D W0 W) {g j : Nat} {arr : Array Value} {i : Int} (i' : Int) (h0 : W0.heap.size ≤ g) (hge : ¬ GE C D g) (hfl : C.fl ≤ g) (hb : W.heap[g]? = some (.cells arr 2 (0, 0))) (ho : arr[j]? = some (.int .i64 i)) : GP C D0 D W0 (W.setCell ⟨g, j, none⟩ (.int .i64 i')) := by
  have hF : Fr (fun q => q = g) W (W.setCell ⟨g, j, none⟩ (.int .i64 i')) := Fr.set _ _ _ _
  have hG : Fr (GA C) W (W.setCell ⟨g, j, none⟩ (.int .i64 i')) := hF.sub fun q e => .inr (by subst e; exact hfl)
  have hs := h.gs
  have no := fun {base e sz n : Nat} {v : Value} {cs : List Value} (ho : W.ownsRow base e sz v n cs) (hv : ∀ k, v.ownBlock = some k → GE C D k) => own_fr ho hF (fun k hk e => by subst e; exact hge (hv _ hk))
  refine ⟨⟨(hF.block _ hs.lt fun e => hge (by rw [← e]; exact .inr (.inl rfl))).trans hs.cell, RdS.fr hs.rs hF hs.hgr hfl, hs.hgr, hs.hgg, no hs.oP (fun k e => by simp [GE, e]), no hs.oB (fun k e => by simp [GE, e]), no hs.oPh (fun k e => by simp [GE, e]), no hs.oIn (fun k e => by simp [GE, e]),
    fun p hp => ?_, fun p hp => ?_, fun p hp => ?_, hs.eI.num (fun _ _ => QI.num) hge hb ho, hs.eW.num (fun _ _ => QI.num) hge hb ho, hs.eR.go hG fun _ e => .inl e, hs.eA.go hG fun _ e => .inl e, hs.wP, hs.lP, hs.wR, hs.n0, hs.n1, hs.n2, hs.n3, hs.n4, hs.n5, hs.n6, hs.wA, hs.nA, fun b e => ⟨(hs.hex b e).1, Nat.lt_of_lt_of_le (hs.hex b e).2.1 hF.size, (hs.hex b e).2.2⟩⟩,
    h.fr.go hF fun q e => .inr (by subst e; exact h0), h.sub, h.fk.go hF fun q e => .inr (by subst e; exact h0), h.subk⟩
  · obtain ⟨cs, h1, h2, h3⟩ := hs.eB p hp
    exact ⟨cs, h1, h2, h3.num (fun _ _ => QBlock.num) hge hb ho⟩
  · obtain ⟨cs, h1, h2, h3⟩ := hs.ePh p hp
    exact ⟨cs, h1, h2, h3.num (fun _ _ => QPhi.num) hge hb ho⟩
  · obtain ⟨cs, h1, h2, h3⟩ := hs.eIn p hp
    exact ⟨cs, h1, h2, h3.num (fun _ _ => QInst.num) hge hb ho⟩
structure Bs (C : GC) (D : GD) (W : World) (g e : Nat) (arr : Array Value) : Prop where
  heap : W.heap[g]? = some (.cells arr e (0, 0))
  ge : ¬ GE C D g
  fl : C.fl ≤ g
theorem Bs.mv {C : GC} {D D' : GD} {W W' : World} {g e : Nat} {arr : Array Value} (h : Bs C D W g e arr) (hp : GP C D D' W W') : Bs C D' W' g e arr := by
  have hlt := (Array.getElem?_eq_some_iff.1 h.heap).1
  exact ⟨(hp.fr.block g hlt h.ge).trans h.heap, fun hg => by
    rcases hp.sub g hg with h' | h'
    · exact h.ge h'
    · omega, h.fl⟩
theorem Bs.new {C : GC} {D : GD} {W : World} (h : GS C D W) (arr : Array Value) (e : Nat) : Bs C D (W.alloc (.cells arr e)) W.heap.size e arr :=
  ⟨heap_new W arr e _ rfl, fun hg => absurd (GE.lt h _ hg) (Nat.lt_irrefl _), by have := h.hgg; have := h.lt; omega⟩
theorem Bs.phis {C : GC} {D D' : GD} {t : XTerm} {W W' : World} (h : GS C D W) (hF : Fr (fun q => q = C.gg ∨ D.vB.ownBlock = some q) W W') {v' : Value} (hD' : D' = closed {D with tm := t} v') (hs : GS C D' W') {n : Nat} (hn : D.nPh = n + 1) : ∃ (gp cap : Nat) (arr : Array Value), D.vPh = .slice (some ⟨gp, 0, none⟩) (n + 1) cap ∧ Bs C D' W' gp 165 arr ∧ ∀ (j : Nat) (u : Value), D.cPh[j]? = some u → arr[j]? = some u := by
  obtain ⟨hl, ⟨-, h'⟩ | ⟨g, cap, cur, hv, h1, h2, h3, h4, h5, h6⟩⟩ := h.oPh
  · omega
  have hx := h.out h.oPh (by decide) (by decide) g (by rw [hv]; rfl)
  have h7 : W'.heap[g]? = some (.cells cur 165 (0, 0)) := (hF.block g (Array.getElem?_eq_some_iff.1 h2).1 (by
    rintro (e | e)
    · exact hx.1 e
    · exact own_two h.oB h.oPh (by decide) g e (by rw [hv]; rfl))).trans h2
  refine ⟨g, cap, cur, by rw [hv, hn], ⟨h7, ?_, h1⟩, fun j u hu => ?_⟩
  · rintro (e | e | e | e | e | e | e)
    · omega
    · exact hx.1 e
    · obtain ⟨-, -, c, h8⟩ := own_blk hs.oP g e
      exact ne_of_cells h7 h8 (by decide) rfl
    · obtain ⟨-, -, c, h8⟩ := own_blk hs.oB g e
      exact ne_of_cells h7 h8 (by decide) rfl
    · rw [hD'] at e; cases e
    · rw [hD'] at e; cases e
    · have e' : D.ex g := by rw [hD'] at e; exact e
      exact (h.hex g e').2.2.2.2.2.1 (by rw [hv]; rfl)
  · have hj : j < D.nPh * 2 := by have := (List.getElem?_eq_some_iff.1 hu).1; omega
    rw [← h6, List.getElem?_take_of_lt hj] at hu
    simpa using hu
theorem InsR.same {k : Int} {D D' : GD} (h : InsR k D D') : D'.vPh = D.vPh ∧ D'.nPh = D.nPh ∧ D'.cPh = D.cPh ∧ D'.vB = D.vB ∧ D'.nB = D.nB ∧ D'.cB = D.cB := by
  obtain ⟨vIn, nIn, cIn, next, vids, vws, nid, rfl, -⟩ := h
  exact ⟨rfl, rfl, rfl, rfl, rfl, rfl⟩
set_option maxRecDepth 20000 in
set_option maxHeartbeats 20000000 in
theorem s_loop (C : GC) (D : GD) (W : World) (h : GS C D W) (hm : Nm D) (hn : D.next ≤ 700) (hb : D.nB ≤ 50) : Calls Tryz.prog 116 #[.pointer (some ⟨C.gg, 0, none⟩)] W (RetB 3 40 C D W) := by
  have hd0 := h.n0
  obtain ⟨w1, rfl⟩ : ∃ w1 : World, w1 = W := ⟨_, rfl⟩
  obtain ⟨D1, hD1⟩ : ∃ D1 : GD, D1 = D := ⟨_, rfl⟩
  have g1 : Hd (GP C D D1 w1 w1) := ⟨by rw [hD1]; exact GP.refl h⟩
  have b1 : Hd (BlkR 0 0 D D1) := ⟨by rw [hD1]; exact (InsR.refl D).blk hm⟩
  have k3 := h.at 3
  simp [GD.cells] at k3
  obtain ⟨Ab, cb, hvb, -, -, -, -⟩ := own_shape h.oB
  rw [hvb] at k3
  clear h hm hD1
  go_enter Tryz.func116, Tryz.ntmps116
  have hwb : IntKind.i64.wrap (D.nB : Int) = D.nB := IntWalk.i64_in _ (by omega)
  have hwc : IntKind.i64.wrap ((D.nB : Int) + 1) = (D.nB : Int) + 1 := IntWalk.i64_in _ (by omega)
  have j0 := g1.out.gs.at 0
  simp [GD.cells] at j0
  have hp := s_below C.lo C.gr 5 w1 g1.out.gs.rs (by omega)
  go_wp2_with fail
  refine hp.mono ?_; rintro e w2 ⟨v, rfl, ⟨q, rfl, q1, q2⟩, hr, hg⟩
  have s2 := Hd.mk (g1.out.gs.rd hg hr)
  have g2 := Hd.mk (g1.out.trans s2.out)
  clear hr hg hp j0
  have hp := s_put C D1 ⟨21, 8, 0, 0, 0, q, []⟩ none 0 0 w2 g2.out.gs b1.out.2.2.2.2.1 (by obtain ⟨-, -, -, h4, -, h6, h7⟩ := b1.out; omega) (kinst_nil _ _ _ _ _ _ _ _) (no24n (show (21 : Int) < 24 by decide))
  go_wp2_with fail
  refine hp.mono ?_; rintro e w3 ⟨xn, D2, rfl, hg, hi, hn'⟩
  have s3 := Hd.mk hg
  have g3 := Hd.mk (g2.out.trans hg)
  have b2 := Hd.mk (b1.out.ins hi)
  clear hg hi hn' hp
  clear q1 q2
  have j0 := g3.out.gs.at 0
  simp [GD.cells] at j0
  have hp := s_width C.lo C.gr w3 g3.out.gs.rs
  go_wp2_with fail
  refine hp.mono ?_; rintro e w4 ⟨v, rfl, ⟨wd, rfl, hwd⟩, hr, hg⟩
  have s4 := Hd.mk (g3.out.gs.rd hg hr)
  have g4 := Hd.mk (g3.out.trans s4.out)
  clear hr hg hp j0
  have hwd' := Hd.mk hwd
  clear hwd
  have hp := s_pick C D2 wd w4 g4.out.gs b2.out.2.2.2.2.1 (by obtain ⟨-, -, -, h4, -, h6, h7⟩ := b2.out; omega) hwd'.out
  go_wp2_with fail
  refine hp.mono ?_; rintro e w5 ⟨xa, D3, rfl, hg, hi, hn'⟩
  have s5 := Hd.mk hg
  have g5 := Hd.mk (g4.out.trans hg)
  have b3 := Hd.mk (b2.out.ins hi)
  clear hg hi hn' hp
  clear k3
  have hp := s_close C D3 ⟨2, 0, (D.nB : Int) + 1, 0⟩ w5 g5.out.gs (by obtain ⟨-, -, -, h4, -, h6, h7⟩ := b3.out; omega)
  go_wp2_with fail
  refine hp.mono ?_; rintro e w6 ⟨v', rfl, hg, hfr⟩
  have fx4 := Hd.mk (show (closed {D3 with tm := ⟨2, 0, (D.nB : Int) + 1, 0⟩} v').nPh = 0 ∧ (closed {D3 with tm := ⟨2, 0, (D.nB : Int) + 1, 0⟩} v').cPh = [] from ⟨rfl, rfl⟩)
  obtain ⟨D4, hD⟩ : ∃ D' : GD, D' = closed {D3 with tm := ⟨2, 0, (D.nB : Int) + 1, 0⟩} v' := ⟨_, rfl⟩
  have b4 := Hd.mk (b3.out.cls ⟨2, 0, (D.nB : Int) + 1, 0⟩ v')
  rw [← hD] at hg b4 fx4
  have s6 := Hd.mk hg
  have g6 := Hd.mk (g5.out.trans hg)
  clear hg hp hD hfr
  have hal := (Below.refl w6.heap.size w6).al (Nat.le_refl _) (.cells #[.int .i64 xn, .int .i64 0] 2)
  have sa := g6.out.gs.mv hal
  have hp := s_phi C D4 8 (some ⟨w6.heap.size, 0, none⟩) 2 2 _ sa.gs b4.out.2.2.2.2.1 (by obtain ⟨-, -, -, h4, -, h6, h7⟩ := b4.out; omega) (phi_new g6.out.gs 8 xn 0)
  go_wp2_with fail
  refine hp.mono ?_; rintro e w7 ⟨q1, v', vids, vws, rfl, hg⟩
  have hbs := (Bs.new g6.out.gs #[.int .i64 xn, .int .i64 0] 2).mv hg
  have hle1 := Hd.mk (Nat.le_trans (g6.out.fr.size) (Nat.le_refl w6.heap.size))
  have fx5 := Hd.mk (show D4.nPh + 1 = 1 ∧ D4.cPh ++ [.int .i64 8, .slice (some ⟨w6.heap.size, 0, none⟩) 2 2] = [.int .i64 8, .slice (some ⟨w6.heap.size, 0, none⟩) 2 2] by rw [fx4.out.1, fx4.out.2]; exact ⟨rfl, rfl⟩)
  obtain ⟨D5, hD⟩ : ∃ D' : GD, D' = {D4 with vPh := v', nPh := D4.nPh + 1, cPh := D4.cPh ++ [.int .i64 8, .slice (some ⟨w6.heap.size, 0, none⟩) 2 2], next := D4.next + 1, vids := vids, vws := vws, nid := D4.nid + 1} := ⟨_, rfl⟩
  have b5 := Hd.mk (b4.out.phi v' (D4.cPh ++ [.int .i64 8, .slice (some ⟨w6.heap.size, 0, none⟩) 2 2]) vids vws)
  rw [← hD] at hg b5 hbs
  have fx5 := Hd.mk (show D5.nPh = 1 ∧ D5.cPh = _ by rw [hD]; exact fx5.out)
  have s7 := Hd.mk (sa.trans hg)
  have g7 := Hd.mk (g6.out.trans s7.out)
  have t1 := Hd.mk hbs
  clear hg hp hD sa hal hbs
  obtain ⟨p1, hp1⟩ : ∃ p, p = w6.heap.size := ⟨_, rfl⟩
  rw [← hp1] at t1 hle1 fx5
  clear hp1
  have hal := (Below.refl w7.heap.size w7).al (Nat.le_refl _) (.cells #[.int .i64 xa, .int .i64 0] 2)
  have sa := g7.out.gs.mv hal
  have hp := s_phi C D5 wd (some ⟨w7.heap.size, 0, none⟩) 2 2 _ sa.gs b5.out.2.2.2.2.1 (by obtain ⟨-, -, -, h4, -, h6, h7⟩ := b5.out; omega) (phi_new g7.out.gs wd xa 0)
  go_wp2_with fail
  refine hp.mono ?_; rintro e w8 ⟨q2, v', vids, vws, rfl, hg⟩
  have hbs := (Bs.new g7.out.gs #[.int .i64 xa, .int .i64 0] 2).mv hg
  have hle2 := Hd.mk (Nat.le_trans (g7.out.fr.size) (Nat.le_refl w7.heap.size))
  have fx6 := Hd.mk (show D5.nPh + 1 = 2 ∧ D5.cPh ++ [.int .i64 wd, .slice (some ⟨w7.heap.size, 0, none⟩) 2 2] = [.int .i64 8, .slice (some ⟨p1, 0, none⟩) 2 2] ++ [.int .i64 wd, .slice (some ⟨w7.heap.size, 0, none⟩) 2 2] by rw [fx5.out.1, fx5.out.2]; exact ⟨rfl, rfl⟩)
  obtain ⟨D6, hD⟩ : ∃ D' : GD, D' = {D5 with vPh := v', nPh := D5.nPh + 1, cPh := D5.cPh ++ [.int .i64 wd, .slice (some ⟨w7.heap.size, 0, none⟩) 2 2], next := D5.next + 1, vids := vids, vws := vws, nid := D5.nid + 1} := ⟨_, rfl⟩
  have b6 := Hd.mk (b5.out.phi v' (D5.cPh ++ [.int .i64 wd, .slice (some ⟨w7.heap.size, 0, none⟩) 2 2]) vids vws)
  rw [← hD] at hg b6 hbs
  have fx6 := Hd.mk (show D6.nPh = 2 ∧ D6.cPh = _ by rw [hD]; exact fx6.out)
  have s8 := Hd.mk (sa.trans hg)
  have g8 := Hd.mk (g7.out.trans s8.out)
  have t2 := Hd.mk hbs
  clear hg hp hD sa hal hbs
  have tne : Hd (p1 ≠ w7.heap.size) := ⟨by have h1 := (Array.getElem?_eq_some_iff.1 t1.out.heap).1; omega⟩
  obtain ⟨p2, hp2⟩ : ∃ p, p = w7.heap.size := ⟨_, rfl⟩
  rw [← hp2] at t2 hle2 fx6 tne
  clear hp2
  have hp := s_put C D6 ⟨21, 8, 0, 0, 0, 0, []⟩ none 0 0 w8 g8.out.gs b6.out.2.2.2.2.1 (by obtain ⟨-, -, -, h4, -, h6, h7⟩ := b6.out; omega) (kinst_nil _ _ _ _ _ _ _ _) (no24n (show (21 : Int) < 24 by decide))
  go_wp2_with fail
  refine hp.mono ?_; rintro e w9 ⟨xz, D7, rfl, hg, hi, hn'⟩
  have fx7 := Hd.mk (show D7.nPh = 2 ∧ D7.cPh = [.int .i64 8, .slice (some ⟨p1, 0, none⟩) 2 2] ++ [.int .i64 wd, .slice (some ⟨p2, 0, none⟩) 2 2] by obtain ⟨-, h2, h3, -⟩ := hi.same; rw [h2, h3]; exact fx6.out)
  have s9 := Hd.mk hg
  have g9 := Hd.mk (g8.out.trans hg)
  have b7 := Hd.mk (b6.out.ins hi)
  clear hg hi hn' hp
  have hp := s_put C D7 ⟨15, 8, q1, xz, 0, 0, []⟩ none 0 0 w9 g9.out.gs b7.out.2.2.2.2.1 (by obtain ⟨-, -, -, h4, -, h6, h7⟩ := b7.out; omega) (kinst_nil _ _ _ _ _ _ _ _) (no24n (show (15 : Int) < 24 by decide))
  go_wp2_with fail
  refine hp.mono ?_; rintro e w10 ⟨xc, D8, rfl, hg, hi, hn'⟩
  have fx8 := Hd.mk (show D8.nPh = 2 ∧ D8.cPh = [.int .i64 8, .slice (some ⟨p1, 0, none⟩) 2 2] ++ [.int .i64 wd, .slice (some ⟨p2, 0, none⟩) 2 2] by obtain ⟨-, h2, h3, -⟩ := hi.same; rw [h2, h3]; exact fx7.out)
  have s10 := Hd.mk hg
  have g10 := Hd.mk (g9.out.trans hg)
  have b8 := Hd.mk (b7.out.ins hi)
  clear hg hi hn' hp
  have hp := s_close C D8 ⟨3, xc, (D.nB : Int) + 2, (D.nB : Int) + 3⟩ w10 g10.out.gs (by obtain ⟨-, -, -, h4, -, h6, h7⟩ := b8.out; omega)
  go_wp2_with fail
  refine hp.mono ?_; rintro e w11 ⟨v', rfl, hg, hfr⟩
  obtain ⟨gp, cpp, arp, hvp, hbs, hap⟩ := Bs.phis (t := ⟨3, xc, (D.nB : Int) + 2, (D.nB : Int) + 3⟩) g10.out.gs hfr rfl hg.gs (n := 1) fx8.out.1
  have fx9 := Hd.mk (show (closed {D8 with tm := ⟨3, xc, (D.nB : Int) + 2, (D.nB : Int) + 3⟩} v').cB[(D.nB + 1) * 6]? = some (.slice (some ⟨gp, 0, none⟩) 2 cpp) by
    have hl := g10.out.gs.oB.1
    have hb9 : D8.nB = D.nB + 1 := b8.out.2.2.2.1
    rw [hb9] at hl
    show (D8.cB ++ _)[(D.nB + 1) * 6]? = _
    rw [← hl, List.getElem?_append_right (Nat.le_refl _), Nat.sub_self]
    exact congrArg some hvp)
  have hap1 := Hd.mk (hap 1 (.slice (some ⟨p1, 0, none⟩) 2 2) (by rw [fx8.out.2]; rfl))
  have hap3 := Hd.mk (hap 3 (.slice (some ⟨p2, 0, none⟩) 2 2) (by rw [fx8.out.2]; rfl))
  clear hap hvp
  obtain ⟨D9, hD⟩ : ∃ D' : GD, D' = closed {D8 with tm := ⟨3, xc, (D.nB : Int) + 2, (D.nB : Int) + 3⟩} v' := ⟨_, rfl⟩
  have b9 := Hd.mk (b8.out.cls ⟨3, xc, (D.nB : Int) + 2, (D.nB : Int) + 3⟩ v')
  rw [← hD] at hg b9 fx9 hbs
  have s11 := Hd.mk hg
  have g11 := Hd.mk (g10.out.trans hg)
  clear hg hp hD hfr
  have tp := Hd.mk hbs
  clear hbs
  have j11 := g11.out.gs.at 11
  have j12 := g11.out.gs.at 12
  simp [GD.cells] at j11 j12
  obtain ⟨As, cs, xs, es, ls, rs⟩ := bx_ri g11.out.gs.eI
  obtain ⟨At, ct, ys, et, lt, rt⟩ := bx_ri g11.out.gs.eW
  rw [es] at j11
  rw [et] at j12
  clear rs rt ls lt
  have hsn := Hd.mk b9.out.2.2.2.2.1.2.2
  have nx0 : Hd (D9.next ≤ D9.next) := ⟨Int.le_refl _⟩
  have hp := s_put C D9 ⟨21, 8, 0, 0, 0, 1, []⟩ none 0 0 w11 g11.out.gs b9.out.2.2.2.2.1 (by obtain ⟨-, -, -, h4, -, h6, h7⟩ := b9.out; omega) (kinst_nil _ _ _ _ _ _ _ _) (no24n (show (21 : Int) < 24 by decide))
  go_wp2_with fail
  refine hp.mono ?_; rintro e w12 ⟨xo, D10, rfl, hg, hi, hn'⟩
  have nx1 := Hd.mk (Int.le_trans nx0.out (hi.next.1))
  have fx10 := Hd.mk ((congrArg (fun l : List Value => l[(D.nB + 1) * 6]?) hi.same.2.2.2.2.2).trans fx9.out)
  have s12 := Hd.mk hg
  have g12 := Hd.mk (g11.out.trans hg)
  have b10 := Hd.mk (b9.out.ins hi)
  clear hg hi hn' hp
  have hp := s_put C D10 ⟨2, 8, q1, xo, 0, 0, []⟩ none 0 0 w12 g12.out.gs b10.out.2.2.2.2.1 (by obtain ⟨-, -, -, h4, -, h6, h7⟩ := b10.out; omega) (kinst_nil _ _ _ _ _ _ _ _) (no24n (show (2 : Int) < 24 by decide))
  go_wp2_with fail
  refine hp.mono ?_; rintro e w13 ⟨xl, D11, rfl, hg, hi, hn'⟩
  have nx2 := Hd.mk (Int.le_trans nx1.out (hi.next.1))
  have fx11 := Hd.mk ((congrArg (fun l : List Value => l[(D.nB + 1) * 6]?) hi.same.2.2.2.2.2).trans fx10.out)
  have s13 := Hd.mk hg
  have g13 := Hd.mk (g12.out.trans hg)
  have b11 := Hd.mk (b10.out.ins hi)
  clear hg hi hn' hp
  have j0 := g13.out.gs.at 0
  simp [GD.cells] at j0
  have hp := s_below C.lo C.gr 3 w13 g13.out.gs.rs (by omega)
  go_wp2_with fail
  refine hp.mono ?_; rintro e w14 ⟨v, rfl, ⟨q, rfl, q1', q2'⟩, hr, hg⟩
  have s14 := Hd.mk (g13.out.gs.rd hg hr)
  have g14 := Hd.mk (g13.out.trans s14.out)
  clear hr hg hp j0
  have hp := s_some C D11 q w14 g14.out.gs b11.out.2.2.2.2.1 (by obtain ⟨-, -, -, h4, -, h6, h7⟩ := b11.out; omega) (by omega)
  go_wp2_with fail
  refine hp.mono ?_; rintro e w15 ⟨D12, rfl, hg, hi, hn'⟩
  have nx3 := Hd.mk (Int.le_trans nx2.out (hi.next.1))
  have fx12 := Hd.mk ((congrArg (fun l : List Value => l[(D.nB + 1) * 6]?) hi.same.2.2.2.2.2).trans fx11.out)
  have s15 := Hd.mk hg
  have g15 := Hd.mk (g14.out.trans hg)
  have b12 := Hd.mk (b11.out.ins (hi.mono (show 5 * q ≤ 10 by omega)))
  clear hg hi hn' hp q1' q2'
  have hp := s_pick C D12 wd w15 g15.out.gs b12.out.2.2.2.2.1 (by obtain ⟨-, -, -, h4, -, h6, h7⟩ := b12.out; omega) hwd'.out
  go_wp2_with fail
  refine hp.mono ?_; rintro e w16 ⟨xy, D13, rfl, hg, hi, hn'⟩
  have nx4 := Hd.mk (Int.le_trans nx3.out (hi.next.1))
  have fx13 := Hd.mk ((congrArg (fun l : List Value => l[(D.nB + 1) * 6]?) hi.same.2.2.2.2.2).trans fx12.out)
  have s16 := Hd.mk hg
  have g16 := Hd.mk (g15.out.trans hg)
  have b13 := Hd.mk (b12.out.ins hi)
  clear hg hi hn' hp
  by_cases hy : xy = q2
  · subst hy
    have hyd : (xy == xy) = true := by simp
    have hp := s_put C D13 ⟨1, wd, xy, xa, 0, 0, []⟩ none 0 0 w16 g16.out.gs b13.out.2.2.2.2.1 (by obtain ⟨-, -, -, h4, -, h6, h7⟩ := b13.out; omega) (kinst_nil _ _ _ _ _ _ _ _) (no24n (show (1 : Int) < 24 by decide))
    go_wp2_with fail
    refine hp.mono ?_; rintro e w17 ⟨x9, D14, rfl, hg, hi, hn'⟩
    have nx5 := Hd.mk (Int.le_trans nx4.out (hi.next.1))
    have fx14 := Hd.mk ((congrArg (fun l : List Value => l[(D.nB + 1) * 6]?) hi.same.2.2.2.2.2).trans fx13.out)
    have s17 := Hd.mk hg
    have g17 := Hd.mk (g16.out.trans hg)
    have b14 := Hd.mk (b13.out.ins hi)
    clear hg hi hn' hp
    have hp := s_close C D14 ⟨2, 0, (D.nB : Int) + 1, 0⟩ w17 g17.out.gs (by obtain ⟨-, -, -, h4, -, h6, h7⟩ := b14.out; omega)
    go_wp2_with fail
    refine hp.mono ?_; rintro e w18 ⟨v', rfl, hg, hfr⟩
    have fx15 := Hd.mk (show (closed {D14 with tm := ⟨2, 0, (D.nB : Int) + 1, 0⟩} v').cB[(D.nB + 1) * 6]? = some (.slice (some ⟨gp, 0, none⟩) 2 cpp) by
      show (D14.cB ++ _)[(D.nB + 1) * 6]? = _
      rw [List.getElem?_append_left (List.getElem?_eq_some_iff.1 fx14.out).1]
      exact fx14.out)
    obtain ⟨D15, hD⟩ : ∃ D' : GD, D' = closed {D14 with tm := ⟨2, 0, (D.nB : Int) + 1, 0⟩} v' := ⟨_, rfl⟩
    have nx6 := Hd.mk (Int.le_trans nx5.out (show D14.next ≤ D15.next by rw [hD]; exact Int.le_refl _))
    have b15 := Hd.mk (b14.out.cls ⟨2, 0, (D.nB : Int) + 1, 0⟩ v')
    rw [← hD] at hg b15 fx15
    have s18 := Hd.mk hg
    have g18 := Hd.mk (g17.out.trans hg)
    clear hg hp hD hfr
    have e1 := t1.out.mv ((((((((((s8.out.trans s9.out).trans s10.out).trans s11.out).trans s12.out).trans s13.out).trans s14.out).trans s15.out).trans s16.out).trans s17.out).trans s18.out)
    have e2 := t2.out.mv (((((((((s9.out.trans s10.out).trans s11.out).trans s12.out).trans s13.out).trans s14.out).trans s15.out).trans s16.out).trans s17.out).trans s18.out)
    have ep := tp.out.mv ((((((s12.out.trans s13.out).trans s14.out).trans s15.out).trans s16.out).trans s17.out).trans s18.out)
    have j3 := g18.out.gs.at 3
    have j11 := g18.out.gs.at 11
    have j12 := g18.out.gs.at 12
    simp [GD.cells] at j3 j11 j12
    obtain ⟨Ab9, cb9, hvb9, -, -, -, hrow9⟩ := own_shape g18.out.gs.oB
    have hnb : D15.nB = D.nB + 3 := b15.out.2.2.2.1
    obtain ⟨b9, rfl, -, hrow9⟩ := hrow9 (by omega)
    rw [hvb9, hnb] at j3
    have r0 := hrow9 _ _ fx15.out
    have r1 := ((row_facts ep.heap).1 1).trans hap1.out
    have r3 := ((row_facts ep.heap).1 3).trans hap3.out
    have f1 := (row_facts e1.heap).2
    have f2 := (row_facts e2.heap).2
    have c1 := (row_facts e1.heap).1 1
    have c2 := (row_facts e2.heap).1 1
    have n1 : p1 ≠ C.gg := fun e => e1.ge (by rw [e]; exact .inr (.inl rfl))
    have n2 : p2 ≠ C.gg := fun e => e2.ge (by rw [e]; exact .inr (.inl rfl))
    have n3 : p1 ≠ b9 := fun e => e1.ge (by rw [e]; simp [GE, hvb9, Value.ownBlock])
    have n4 : p2 ≠ b9 := fun e => e2.ge (by rw [e]; simp [GE, hvb9, Value.ownBlock])
    have n5 : p1 ≠ gp := ne_of_cells e1.heap ep.heap (by decide)
    have n12 : p2 ≠ p1 := fun e => tne.out e.symm
    have n6 : p2 ≠ gp := ne_of_cells e2.heap ep.heap (by decide)
    have i0 : ((D.nB : Int) + 1) < ((D.nB : Int) + 3) := by omega
    have i1 : (0 : Int) ≤ (D.nB : Int) + 1 := by omega
    have i2 : D.nB + 1 < D.nB + 3 := by omega
    have u1 := Hd.mk e1
    have u2 := Hd.mk e2
    clear e1 e2 ep hrow9 hvb9
    have hch := ((((((s12.out.trans s13.out).trans s14.out).trans s15.out).trans s16.out).trans s17.out).trans s18.out)
    have hei := g11.out.gs.eI.go hch.fr hch.sub
    have hew := g11.out.gs.eW.go hch.fr hch.sub
    rw [es] at hei
    rw [et] at hew
    have h1 := g18.out.num xl hle1.out u1.out.ge u1.out.fl u1.out.heap (j := 1) (i := 0) rfl
    have hq2 : (w18.setCell ⟨p1, 1, none⟩ (.int .i64 xl)).heap[p2]? = _ := heap_off u2.out.heap n12
    have h2 := h1.num x9 hle2.out u2.out.ge u2.out.fl hq2 (j := 1) (i := 0) rfl
    have hei2 := (hei.num (fun _ _ => QI.num) u1.out.ge u1.out.heap (j := 1) (i := 0) (i' := xl) rfl).num (fun _ _ => QI.num) u2.out.ge hq2 (j := 1) (i := 0) (i' := x9) rfl
    have hew2 := (hew.num (fun _ _ => QI.num) u1.out.ge u1.out.heap (j := 1) (i := 0) (i' := xl) rfl).num (fun _ _ => QI.num) u2.out.ge hq2 (j := 1) (i := 0) (i' := x9) rfl
    have hu := h2.gs.upd D15.tm D15.ret D15.next (.slice As D9.nid cs) (.slice At D9.nid ct) D9.nid ((Fr.set _ C.gg 11 (.slice As D9.nid cs)).go (Fr.set _ C.gg 12 (.slice At D9.nid ct)) fun _ e => .inl e) ((heap_set (heap_set h2.gs.cell)).trans (by simp [GD.cells])) hei2 hew2 h2.gs.wR h2.gs.n0 h2.gs.n1 g11.out.gs.n4
    have hfin := Hd.mk (h2.trans hu)
    have fzg := g18.out.gs.fz
    have hlg := g18.out.gs.lt
    have l1 := (Array.getElem?_eq_some_iff.1 u1.out.heap).1
    have l2 := (Array.getElem?_eq_some_iff.1 u2.out.heap).1
    clear hch hei hew h1 h2 hq2 hei2 hew2 hu
    go_wp2
    go_end0
    exact ⟨_, rfl, hfin.out, (b15.out.upd (.slice As D9.nid cs) (.slice At D9.nid ct) D9.nid (Int.le_trans hsn.out nx6.out)).mono (by omega)⟩
  · have hyd := beqF hy
    have hp := s_close C D13 ⟨2, 0, (D.nB : Int) + 1, 0⟩ w16 g16.out.gs (by obtain ⟨-, -, -, h4, -, h6, h7⟩ := b13.out; omega)
    go_wp2_with fail
    refine hp.mono ?_; rintro e w17 ⟨v', rfl, hg, hfr⟩
    have fx14 := Hd.mk (show (closed {D13 with tm := ⟨2, 0, (D.nB : Int) + 1, 0⟩} v').cB[(D.nB + 1) * 6]? = some (.slice (some ⟨gp, 0, none⟩) 2 cpp) by
      show (D13.cB ++ _)[(D.nB + 1) * 6]? = _
      rw [List.getElem?_append_left (List.getElem?_eq_some_iff.1 fx13.out).1]
      exact fx13.out)
    obtain ⟨D14, hD⟩ : ∃ D' : GD, D' = closed {D13 with tm := ⟨2, 0, (D.nB : Int) + 1, 0⟩} v' := ⟨_, rfl⟩
    have nx5 := Hd.mk (Int.le_trans nx4.out (show D13.next ≤ D14.next by rw [hD]; exact Int.le_refl _))
    have b14 := Hd.mk (b13.out.cls ⟨2, 0, (D.nB : Int) + 1, 0⟩ v')
    rw [← hD] at hg b14 fx14
    have s17 := Hd.mk hg
    have g17 := Hd.mk (g16.out.trans hg)
    clear hg hp hD hfr
    have e1 := t1.out.mv (((((((((s8.out.trans s9.out).trans s10.out).trans s11.out).trans s12.out).trans s13.out).trans s14.out).trans s15.out).trans s16.out).trans s17.out)
    have e2 := t2.out.mv ((((((((s9.out.trans s10.out).trans s11.out).trans s12.out).trans s13.out).trans s14.out).trans s15.out).trans s16.out).trans s17.out)
    have ep := tp.out.mv (((((s12.out.trans s13.out).trans s14.out).trans s15.out).trans s16.out).trans s17.out)
    have j3 := g17.out.gs.at 3
    have j11 := g17.out.gs.at 11
    have j12 := g17.out.gs.at 12
    simp [GD.cells] at j3 j11 j12
    obtain ⟨Ab9, cb9, hvb9, -, -, -, hrow9⟩ := own_shape g17.out.gs.oB
    have hnb : D14.nB = D.nB + 3 := b14.out.2.2.2.1
    obtain ⟨b9, rfl, -, hrow9⟩ := hrow9 (by omega)
    rw [hvb9, hnb] at j3
    have r0 := hrow9 _ _ fx14.out
    have r1 := ((row_facts ep.heap).1 1).trans hap1.out
    have r3 := ((row_facts ep.heap).1 3).trans hap3.out
    have f1 := (row_facts e1.heap).2
    have f2 := (row_facts e2.heap).2
    have c1 := (row_facts e1.heap).1 1
    have c2 := (row_facts e2.heap).1 1
    have n1 : p1 ≠ C.gg := fun e => e1.ge (by rw [e]; exact .inr (.inl rfl))
    have n2 : p2 ≠ C.gg := fun e => e2.ge (by rw [e]; exact .inr (.inl rfl))
    have n3 : p1 ≠ b9 := fun e => e1.ge (by rw [e]; simp [GE, hvb9, Value.ownBlock])
    have n4 : p2 ≠ b9 := fun e => e2.ge (by rw [e]; simp [GE, hvb9, Value.ownBlock])
    have n5 : p1 ≠ gp := ne_of_cells e1.heap ep.heap (by decide)
    have n12 : p2 ≠ p1 := fun e => tne.out e.symm
    have n6 : p2 ≠ gp := ne_of_cells e2.heap ep.heap (by decide)
    have i0 : ((D.nB : Int) + 1) < ((D.nB : Int) + 3) := by omega
    have i1 : (0 : Int) ≤ (D.nB : Int) + 1 := by omega
    have i2 : D.nB + 1 < D.nB + 3 := by omega
    have u1 := Hd.mk e1
    have u2 := Hd.mk e2
    clear e1 e2 ep hrow9 hvb9
    have hch := (((((s12.out.trans s13.out).trans s14.out).trans s15.out).trans s16.out).trans s17.out)
    have hei := g11.out.gs.eI.go hch.fr hch.sub
    have hew := g11.out.gs.eW.go hch.fr hch.sub
    rw [es] at hei
    rw [et] at hew
    have h1 := g17.out.num xl hle1.out u1.out.ge u1.out.fl u1.out.heap (j := 1) (i := 0) rfl
    have hq2 : (w17.setCell ⟨p1, 1, none⟩ (.int .i64 xl)).heap[p2]? = _ := heap_off u2.out.heap n12
    have h2 := h1.num xy hle2.out u2.out.ge u2.out.fl hq2 (j := 1) (i := 0) rfl
    have hei2 := (hei.num (fun _ _ => QI.num) u1.out.ge u1.out.heap (j := 1) (i := 0) (i' := xl) rfl).num (fun _ _ => QI.num) u2.out.ge hq2 (j := 1) (i := 0) (i' := xy) rfl
    have hew2 := (hew.num (fun _ _ => QI.num) u1.out.ge u1.out.heap (j := 1) (i := 0) (i' := xl) rfl).num (fun _ _ => QI.num) u2.out.ge hq2 (j := 1) (i := 0) (i' := xy) rfl
    have hu := h2.gs.upd D14.tm D14.ret D14.next (.slice As D9.nid cs) (.slice At D9.nid ct) D9.nid ((Fr.set _ C.gg 11 (.slice As D9.nid cs)).go (Fr.set _ C.gg 12 (.slice At D9.nid ct)) fun _ e => .inl e) ((heap_set (heap_set h2.gs.cell)).trans (by simp [GD.cells])) hei2 hew2 h2.gs.wR h2.gs.n0 h2.gs.n1 g11.out.gs.n4
    have hfin := Hd.mk (h2.trans hu)
    have fzg := g17.out.gs.fz
    have hlg := g17.out.gs.lt
    have l1 := (Array.getElem?_eq_some_iff.1 u1.out.heap).1
    have l2 := (Array.getElem?_eq_some_iff.1 u2.out.heap).1
    clear hch hei hew h1 h2 hq2 hei2 hew2 hu
    go_wp2
    go_end0
    exact ⟨_, rfl, hfin.out, (b14.out.upd (.slice As D9.nid cs) (.slice At D9.nid ct) D9.nid (Int.le_trans hsn.out nx5.out)).mono (by omega)⟩
def gc0 (lo gr gg : Nat) (vr vp : Value) (pars : List (List Int)) : GC := ⟨lo, gg, gr, gg, vr, vp, pars.length, pars⟩
def gd0 (ret : Int) : GD := ⟨.slice none 0 0, [], ret, .slice none 0 0, 0, [], .slice none 0 0, 0, [], .slice none 0 0, 0, [], ⟨0, 0, 0, 0⟩, 0, .slice none 0 0, .slice none 0 0, 0, fun _ => False⟩
theorem gs_init {lo gr gg : Nat} {W : World} {vr vp : Value} {pars : List (List Int)} {ret : Int} (hc : W.heap[gg]? = some (.cells ((gd0 ret).cells (gc0 lo gr gg vr vp pars)).toArray 141 (0, 0))) (hrs : RdS lo W gr) (hg : gr < gg) (hr : isW ret)
    (hR : Bx (GA (gc0 lo gr gg vr vp pars)) (QI vr pars.length) W) (hA : Bx (GA (gc0 lo gr gg vr vp pars)) (fun w => Rd lm 1 KL w vp pars) W) (hn : pars.length ≤ 4) (hw : ∀ x ∈ pars, x.length ≤ 4 ∧ ∀ p ∈ x, isW p) : GS (gc0 lo gr gg vr vp pars) (gd0 ret) W :=
  ⟨hc, hrs, hg, Nat.le_refl _, nil_own _ _ _ _, nil_own _ _ _ _, nil_own _ _ _ _, nil_own _ _ _ _, Elt.nil, Elt.nil, Elt.nil, fun _ _ => ⟨[], rfl, trivial, rd_nilK⟩, fun _ _ => ⟨[], rfl, trivial, rd_nilK⟩, hR, hA, fun p hp => by simp [gd0] at hp, Nat.zero_le 4, hr, show (0 : Int) ≤ 0 by decide, show (0 : Int) ≤ 900 by decide, Nat.zero_le _, Nat.zero_le _, Nat.zero_le _, Nat.zero_le _, hn, hw, rfl, fun b e => e.elim⟩
def QBlocks (v : Value) (w : World) : Prop := ∃ xs : List XBlock, (1 ≤ xs.length ∧ xs.length ≤ 100) ∧ (∀ x ∈ xs, sizedB x) ∧ Rd lm 6 (KBlock lm) w v xs
def FE (M : Nat → Prop) (W : World) (cs : List Value) : Prop := ∃ (A : Option Addr) (c : Nat) (ps : List Int) (ret : Int) (vB : Value), cs = [.slice A ps.length c, .int .i64 ret, vB] ∧ (ps.length ≤ 4 ∧ ∀ p ∈ ps, isW p) ∧ vB.oneCell' = true ∧ Bx M (fun w => RI lm w (.slice A ps.length c) ps) W ∧ Bx M (QBlocks vB) W
theorem FE.go {M M' : Nat → Prop} {W W' : World} {cs : List Value} (h : FE M W cs) (hF : Fr M W W') (hM : ∀ q, M' q → M q ∨ W.heap.size ≤ q) : FE M' W' cs := by
  obtain ⟨A, c, ps, ret, vB, h1, h2, h3, h4, h5⟩ := h
  exact ⟨A, c, ps, ret, vB, h1, h2, h3, h4.go hF hM, h5.go hF hM⟩
theorem FE.len {M : Nat → Prop} {W : World} {cs : List Value} (h : FE M W cs) : cs.length = 3 := by
  obtain ⟨A, c, ps, ret, vB, rfl, -⟩ := h; rfl
def okF (x : XFunc) : Prop := x.params.length ≤ 4 ∧ 1 ≤ x.blocks.length
theorem FE.kf {M : Nat → Prop} {W : World} {cs : List Value} (h : FE M W cs) : ∃ x, okF x ∧ KFunc lm W x cs := by
  obtain ⟨A, c, ps, ret, vB, h1, h2, h3, h4, h5⟩ := h
  obtain ⟨xs, k1, -, k3⟩ := h5.out
  exact ⟨⟨ps, ret, xs⟩, ⟨h2.1, k1.1⟩, _, vB, h1, h4.out, k3⟩
theorem GS.func {C : GC} {D : GD} {W : World} (h : GS C D W) (h1 : 1 ≤ D.nB) : FE (fun q => q < C.fl ∨ W.heap.size ≤ q) W [D.vP, .int .i64 D.ret, D.vB] := by
  obtain ⟨A1, n1, v1, -, -, -, -⟩ := own_shape h.oP
  have hv3 := own_one h.oB
  have hno : ∀ {e sz n : Nat} {v : Value} {cs : List Value}, W.ownsRow C.fl e sz v n cs → ∀ k, v.ownBlock = some k → ¬ (k < C.fl ∨ W.heap.size ≤ k) := fun ho k hk e => by
    have h2 := own_block_ge ho k hk
    have h3 := (own_blk ho k hk).1
    omega
  refine ⟨A1, n1, D.ps, D.ret, D.vB, by rw [v1], ⟨h.lP, h.wP⟩, hv3, fun w hF => ?_, ?_⟩
  · rw [← v1]
    exact (OwI.of (own_fr h.oP hF (hno h.oP))).rd (by have := h.lP; show _ ≤ 1048576; omega)
  · have h2 := Elt.rd (K := KBlock lm) (P := sizedB) (E := fun q => q < C.fl ∨ W.heap.size ≤ q) h.oB (h.eB.go (Fr.refl _ _) fun q e => e.imp (fun e => .inl e) id) (hno h.oB) (by decide) (by have := h.n5; show _ ≤ 1048576; omega)
    exact h2.imp fun w ⟨xs, k1, k2, k3⟩ => ⟨xs, ⟨by omega, by have := h.n5; omega⟩, k2, k3⟩
def RetF (lo g : Nat) (w : World) (e : Ending) (w' : World) : Prop := ∃ cs, e = .returned (.agg cs.toArray) ∧ FE (fun q => q < w.heap.size ∨ w'.heap.size ≤ q) w' cs ∧ RdS lo w' g ∧ w.grownBy w' (some g)
end Go.Proofs.YtkcgejbnhpccdaaGreat
