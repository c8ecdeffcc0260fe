import Derived.Test.YtkcgejbnhpccdaaGreatT29
import Derived.Test.YtkcgejbnhpccdaaGreatT26
import Derived.Test.YtkcgejbnhpccdaaGreatT35
import Derived.Test.YtkcgejbnhpccdaaGreatT23
import Derived.Test.YtkcgejbnhpccdaaGreatT02
import Derived.Test.YtkcgejbnhpccdaaGreatT20
set_option linter.unusedSimpArgs false
set_option linter.unusedVariables false
namespace Go.Proofs.YtkcgejbnhpccdaaGreat
open Go.RowKit
theorem BlkR.upd {k : Nat} {j : Int} {D D' : GD} (h : BlkR k j D D') (vids vws : Value) (nid : Nat) (hn : (nid : Int) ≤ D'.next) : BlkR k j D {D' with vids := vids, vws := vws, nid := nid} := by
  obtain ⟨h1, h2, h3, h4, ⟨h5, h5', h5''⟩, h6, h7⟩ := h
  exact ⟨h1, h2, h3, h4, ⟨h5, h5', hn⟩, h6, h7⟩
theorem BlkR.phi {k : Nat} {j : Int} {D D' : GD} (h : BlkR k j D D') (v' : Value) (c : List Value) (vids vws : Value) : BlkR k (j + 1) D {D' with vPh := v', nPh := D'.nPh + 1, cPh := c, next := D'.next + 1, vids := vids, vws := vws, nid := D'.nid + 1} := by
  obtain ⟨h1, h2, h3, h4, ⟨h5, h5', h5''⟩, h6, h7⟩ := h
  exact ⟨h1, h2, h3, h4, ⟨by show (D'.nIn : Int) ≤ D'.next + 1; omega, by show ((D'.nPh + 1 : Nat) : Int) ≤ D'.next + 1; omega, by show ((D'.nid + 1 : Nat) : Int) ≤ D'.next + 1; omega⟩, by show D.next ≤ D'.next + 1; omega, by show D'.next + 1 ≤ D.next + (j + 1); omega⟩
theorem phi_new {C : GC} {D : GD} {W : World} (h : GS C D W) (wd x y : Int) : Bx (GE C D) (QPhi [.int .i64 wd, .slice (some ⟨W.heap.size, 0, none⟩) 2 2]) (W.alloc (.cells #[.int .i64 x, .int .i64 y] 2)) := by
  have ho : (W.alloc (.cells #[.int .i64 x, .int .i64 y] 2)).ownsRow W.heap.size 2 1 (.slice (some ⟨W.heap.size, 0, none⟩) 2 2) [x, y].length ([x, y].map (.int .i64)) := World.ownsRow_lit W _ 2 (Nat.le_refl _) (by unfold maxLen; omega) rfl
  intro w' hF
  exact ⟨⟨wd, [x, y]⟩, trivial, _, rfl, (OwI.of (own_fr ho hF fun k hk e => by have := own_block_ge ho k hk; have := GE.lt h k e; omega)).rd (show 2 ≤ 1048576 by omega)⟩
set_option maxRecDepth 20000 in
set_option maxHeartbeats 20000000 in
theorem s_fork (C : GC) (D : GD) (W : World) (h : GS C D W) (hm : Nm D) (hn : D.next ≤ 700) (hb : D.nB ≤ 50) : Calls Tryz.prog 115 #[.pointer (some ⟨C.gg, 0, none⟩)] W (RetB 3 40 C D W) := by
  have hd0 := h.n0
  obtain ⟨w1, rfl⟩ : ∃ w1 : World, w1 = W := ⟨_, rfl⟩
  obtain ⟨D1, hD1⟩ : ∃ D1 : GD, D1 = D := ⟨_, rfl⟩
  have g1 : Hd (GP C D D1 w1 w1) := ⟨by rw [hD1]; exact GP.refl h⟩
  have b1 : Hd (BlkR 0 0 D D1) := ⟨by rw [hD1]; exact (InsR.refl D).blk hm⟩
  have k3 := h.at 3
  simp [GD.cells] at k3
  obtain ⟨Ab, cb, hvb, -, -, -, -⟩ := own_shape h.oB
  rw [hvb] at k3
  clear h hm hD1
  go_enter Tryz.func115, Tryz.ntmps115
  have hwb : IntKind.i64.wrap (D.nB : Int) = D.nB := IntWalk.i64_in _ (by omega)
  have hp := s_pick C D1 1 w1 g1.out.gs b1.out.2.2.2.2.1 (by obtain ⟨-, -, -, h4, -, h6, h7⟩ := b1.out; omega) (.inl rfl)
  go_wp2_with fail
  refine hp.mono ?_; rintro e w2 ⟨xc, D2, rfl, hg, hi, hn'⟩
  have s2 := Hd.mk hg
  have g2 := Hd.mk (g1.out.trans hg)
  have b2 := Hd.mk (b1.out.ins hi)
  clear hg hi hn' hp
  clear k3
  have hp := s_close C D2 ⟨3, xc, (D.nB : Int) + 1, (D.nB : Int) + 2⟩ w2 g2.out.gs (by obtain ⟨-, -, -, h4, -, h6, h7⟩ := b2.out; omega)
  go_wp2_with fail
  refine hp.mono ?_; rintro e w3 ⟨v', rfl, hg, -⟩
  obtain ⟨D3, hD⟩ : ∃ D' : GD, D' = closed {D2 with tm := ⟨3, xc, (D.nB : Int) + 1, (D.nB : Int) + 2⟩} v' := ⟨_, rfl⟩
  have b3 := Hd.mk (b2.out.cls ⟨3, xc, (D.nB : Int) + 1, (D.nB : Int) + 2⟩ v')
  rw [← hD] at hg b3
  have s3 := Hd.mk hg
  have g3 := Hd.mk (g2.out.trans hg)
  clear hg hp hD
  have j11 := g3.out.gs.at 11
  have j12 := g3.out.gs.at 12
  simp [GD.cells] at j11 j12
  obtain ⟨As, cs, xs, es, ls, rs⟩ := bx_ri g3.out.gs.eI
  obtain ⟨At, ct, ys, et, lt, rt⟩ := bx_ri g3.out.gs.eW
  rw [es] at j11
  rw [et] at j12
  clear rs rt ls lt
  have hsn := Hd.mk b3.out.2.2.2.2.1.2.2
  have nx0 : Hd (D3.next ≤ D3.next) := ⟨Int.le_refl _⟩
  have j0 := g3.out.gs.at 0
  simp [GD.cells] at j0
  have hp := s_below C.lo C.gr 3 w3 g3.out.gs.rs (by omega)
  go_wp2_with fail
  refine hp.mono ?_; rintro e w4 ⟨v, rfl, ⟨q, rfl, q1, q2⟩, hr, hg⟩
  have s4 := Hd.mk (g3.out.gs.rd hg hr)
  have g4 := Hd.mk (g3.out.trans s4.out)
  clear hr hg hp j0
  have hp := s_some C D3 q w4 g4.out.gs b3.out.2.2.2.2.1 (by obtain ⟨-, -, -, h4, -, h6, h7⟩ := b3.out; omega) (by omega)
  go_wp2_with fail
  refine hp.mono ?_; rintro e w5 ⟨D4, rfl, hg, hi, hn'⟩
  have nx1 := Hd.mk (Int.le_trans nx0.out (hi.next.1))
  have s5 := Hd.mk hg
  have g5 := Hd.mk (g4.out.trans hg)
  have b4 := Hd.mk (b3.out.ins (hi.mono (show 5 * q ≤ 10 by omega)))
  clear hg hi hn' hp q1 q2
  have j0 := g5.out.gs.at 0
  simp [GD.cells] at j0
  have hp := s_width C.lo C.gr w5 g5.out.gs.rs
  go_wp2_with fail
  refine hp.mono ?_; rintro e w6 ⟨v, rfl, ⟨wd, rfl, hwd⟩, hr, hg⟩
  have s6 := Hd.mk (g5.out.gs.rd hg hr)
  have g6 := Hd.mk (g5.out.trans s6.out)
  clear hr hg hp j0
  have hwd' := Hd.mk hwd
  clear hwd j11 j12
  have hp := s_pick C D4 wd w6 g6.out.gs b4.out.2.2.2.2.1 (by obtain ⟨-, -, -, h4, -, h6, h7⟩ := b4.out; omega) hwd'.out
  go_wp2_with fail
  refine hp.mono ?_; rintro e w7 ⟨xa, D5, rfl, hg, hi, hn'⟩
  have nx2 := Hd.mk (Int.le_trans nx1.out (hi.next.1))
  have s7 := Hd.mk hg
  have g7 := Hd.mk (g6.out.trans hg)
  have b5 := Hd.mk (b4.out.ins hi)
  clear hg hi hn' hp
  have hp := s_pick C D5 8 w7 g7.out.gs b5.out.2.2.2.2.1 (by obtain ⟨-, -, -, h4, -, h6, h7⟩ := b5.out; omega) (.inr (.inl rfl))
  go_wp2_with fail
  refine hp.mono ?_; rintro e w8 ⟨xv, D6, rfl, hg, hi, hn'⟩
  have nx3 := Hd.mk (Int.le_trans nx2.out (hi.next.1))
  have s8 := Hd.mk hg
  have g8 := Hd.mk (g7.out.trans hg)
  have b6 := Hd.mk (b5.out.ins hi)
  clear hg hi hn' hp
  have hp := s_close C D6 ⟨2, 0, (D.nB : Int) + 3, 0⟩ w8 g8.out.gs (by obtain ⟨-, -, -, h4, -, h6, h7⟩ := b6.out; omega)
  go_wp2_with fail
  refine hp.mono ?_; rintro e w9 ⟨v', rfl, hg, -⟩
  obtain ⟨D7, hD⟩ : ∃ D' : GD, D' = closed {D6 with tm := ⟨2, 0, (D.nB : Int) + 3, 0⟩} v' := ⟨_, rfl⟩
  have nx4 := Hd.mk (Int.le_trans nx3.out (show D6.next ≤ D7.next by rw [hD]; exact Int.le_refl _))
  have b7 := Hd.mk (b6.out.cls ⟨2, 0, (D.nB : Int) + 3, 0⟩ v')
  rw [← hD] at hg b7
  have s9 := Hd.mk hg
  have g9 := Hd.mk (g8.out.trans hg)
  clear hg hp hD
  have hch := (((((s4.out.trans s5.out).trans s6.out).trans s7.out).trans s8.out).trans s9.out)
  have hei := g3.out.gs.eI.go hch.fr hch.sub
  have hew := g3.out.gs.eW.go hch.fr hch.sub
  rw [es] at hei
  rw [et] at hew
  have hu := g9.out.gs.upd (W' := (w9.setCell ⟨C.gg, 11, none⟩ (.slice As D3.nid cs)).setCell ⟨C.gg, 12, none⟩ (.slice At D3.nid ct)) D7.tm D7.ret D7.next (.slice As D3.nid cs) (.slice At D3.nid ct) D3.nid ((Fr.set _ _ _ _).go (Fr.set _ _ _ _) fun _ e => .inl e) ((heap_set (heap_set g9.out.gs.cell)).trans (by simp [GD.cells])) hei hew g9.out.gs.wR g9.out.gs.n0 g9.out.gs.n1 g3.out.gs.n4
  obtain ⟨D8, hD⟩ : ∃ D' : GD, D' = {D7 with vids := .slice As D3.nid cs, vws := .slice At D3.nid ct, nid := D3.nid} := ⟨_, rfl⟩
  have b8 := Hd.mk (b7.out.upd (.slice As D3.nid cs) (.slice At D3.nid ct) D3.nid (Int.le_trans hsn.out nx4.out))
  have j0 := g9.out.gs.at 0
  have j11 := g9.out.gs.at 11
  have j12 := g9.out.gs.at 12
  simp [GD.cells] at j0 j11 j12
  have fz := g9.out.gs.fz
  have hgl := g9.out.gs.lt
  obtain ⟨w10, hw10⟩ : ∃ w' : World, w' = (w9.setCell ⟨C.gg, 11, none⟩ (.slice As D3.nid cs)).setCell ⟨C.gg, 12, none⟩ (.slice At D3.nid ct) := ⟨_, rfl⟩
  have nx5 := Hd.mk (Int.le_trans nx4.out (show D7.next ≤ D8.next by rw [hD]; exact Int.le_refl _))
  have hsz := Hd.mk (show w10.heap.size = w9.heap.size by rw [hw10]; simp [World.setCell])
  rw [← hw10, ← hD] at hu
  rw [← hD] at b8
  have s10 := Hd.mk hu
  have g10 := Hd.mk (g9.out.trans hu)
  have hw10' := Hd.mk hw10
  clear hu hch hei hew hD hw10
  have hp := s_below C.lo C.gr 3 w10 g10.out.gs.rs (by omega)
  go_wp2_with fail
  rw [← hw10'.out]
  clear hw10' j0 j11 j12 fz hgl
  refine hp.mono ?_; rintro e w11 ⟨v, rfl, ⟨q, rfl, q1, q2⟩, hr, hg⟩
  have s11 := Hd.mk (g10.out.gs.rd hg hr)
  have g11 := Hd.mk (g10.out.trans s11.out)
  clear hr hg hp
  have hp := s_some C D8 q w11 g11.out.gs b8.out.2.2.2.2.1 (by obtain ⟨-, -, -, h4, -, h6, h7⟩ := b8.out; omega) (by omega)
  go_wp2_with fail
  refine hp.mono ?_; rintro e w12 ⟨D9, rfl, hg, hi, hn'⟩
  have nx6 := Hd.mk (Int.le_trans nx5.out (hi.next.1))
  have s12 := Hd.mk hg
  have g12 := Hd.mk (g11.out.trans hg)
  have b9 := Hd.mk (b8.out.ins (hi.mono (show 5 * q ≤ 10 by omega)))
  clear hg hi hn' hp q1 q2
  have hp := s_pick C D9 wd w12 g12.out.gs b9.out.2.2.2.2.1 (by obtain ⟨-, -, -, h4, -, h6, h7⟩ := b9.out; omega) hwd'.out
  go_wp2_with fail
  refine hp.mono ?_; rintro e w13 ⟨xb, D10, rfl, hg, hi, hn'⟩
  have nx7 := Hd.mk (Int.le_trans nx6.out (hi.next.1))
  have s13 := Hd.mk hg
  have g13 := Hd.mk (g12.out.trans hg)
  have b10 := Hd.mk (b9.out.ins hi)
  clear hg hi hn' hp
  have hp := s_pick C D10 8 w13 g13.out.gs b10.out.2.2.2.2.1 (by obtain ⟨-, -, -, h4, -, h6, h7⟩ := b10.out; omega) (.inr (.inl rfl))
  go_wp2_with fail
  refine hp.mono ?_; rintro e w14 ⟨xu, D11, rfl, hg, hi, hn'⟩
  have nx8 := Hd.mk (Int.le_trans nx7.out (hi.next.1))
  have s14 := Hd.mk hg
  have g14 := Hd.mk (g13.out.trans hg)
  have b11 := Hd.mk (b10.out.ins hi)
  clear hg hi hn' hp
  have hp := s_close C D11 ⟨2, 0, (D.nB : Int) + 3, 0⟩ w14 g14.out.gs (by obtain ⟨-, -, -, h4, -, h6, h7⟩ := b11.out; omega)
  go_wp2_with fail
  refine hp.mono ?_; rintro e w15 ⟨v', rfl, hg, -⟩
  obtain ⟨D12, hD⟩ : ∃ D' : GD, D' = closed {D11 with tm := ⟨2, 0, (D.nB : Int) + 3, 0⟩} v' := ⟨_, rfl⟩
  have nx9 := Hd.mk (Int.le_trans nx8.out (show D11.next ≤ D12.next by rw [hD]; exact Int.le_refl _))
  have b12 := Hd.mk (b11.out.cls ⟨2, 0, (D.nB : Int) + 3, 0⟩ v')
  rw [← hD] at hg b12
  have s15 := Hd.mk hg
  have g15 := Hd.mk (g14.out.trans hg)
  clear hg hp hD
  have hch := (((((((((((s4.out.trans s5.out).trans s6.out).trans s7.out).trans s8.out).trans s9.out).trans s10.out).trans s11.out).trans s12.out).trans s13.out).trans s14.out).trans s15.out)
  have hei := g3.out.gs.eI.go hch.fr hch.sub
  have hew := g3.out.gs.eW.go hch.fr hch.sub
  rw [es] at hei
  rw [et] at hew
  have hu := g15.out.gs.upd (W' := (w15.setCell ⟨C.gg, 11, none⟩ (.slice As D3.nid cs)).setCell ⟨C.gg, 12, none⟩ (.slice At D3.nid ct)) D12.tm D12.ret D12.next (.slice As D3.nid cs) (.slice At D3.nid ct) D3.nid ((Fr.set _ _ _ _).go (Fr.set _ _ _ _) fun _ e => .inl e) ((heap_set (heap_set g15.out.gs.cell)).trans (by simp [GD.cells])) hei hew g15.out.gs.wR g15.out.gs.n0 g15.out.gs.n1 g3.out.gs.n4
  obtain ⟨D13, hD⟩ : ∃ D' : GD, D' = {D12 with vids := .slice As D3.nid cs, vws := .slice At D3.nid ct, nid := D3.nid} := ⟨_, rfl⟩
  have b13 := Hd.mk (b12.out.upd (.slice As D3.nid cs) (.slice At D3.nid ct) D3.nid (Int.le_trans hsn.out nx9.out))
  have j0 := g15.out.gs.at 0
  have j11 := g15.out.gs.at 11
  have j12 := g15.out.gs.at 12
  simp [GD.cells] at j0 j11 j12
  have fz := g15.out.gs.fz
  have hgl := g15.out.gs.lt
  obtain ⟨w16, hw16⟩ : ∃ w' : World, w' = (w15.setCell ⟨C.gg, 11, none⟩ (.slice As D3.nid cs)).setCell ⟨C.gg, 12, none⟩ (.slice At D3.nid ct) := ⟨_, rfl⟩
  have nx10 := Hd.mk (Int.le_trans nx9.out (show D12.next ≤ D13.next by rw [hD]; exact Int.le_refl _))
  have hsz := Hd.mk (show w16.heap.size = w15.heap.size by rw [hw16]; simp [World.setCell])
  rw [← hw16, ← hD] at hu
  rw [← hD] at b13
  have s16 := Hd.mk hu
  have g16 := Hd.mk (g15.out.trans hu)
  have hw16' := Hd.mk hw16
  clear hu hch hei hew hD hw16
  have hal := (Below.refl w16.heap.size w16).al (Nat.le_refl _) (.cells #[.int .i64 xa, .int .i64 xb] 2)
  have sa := g16.out.gs.mv hal
  have hp := s_phi C D13 wd (some ⟨w16.heap.size, 0, none⟩) 2 2 _ sa.gs b13.out.2.2.2.2.1 (by obtain ⟨-, -, -, h4, -, h6, h7⟩ := b13.out; omega) (phi_new g16.out.gs wd xa xb)
  rw [hsz.out] at hp
  clear hsz
  go_wp2_with fail
  rw [← hw16'.out]
  clear hw16' j0 j11 j12 fz hgl
  refine hp.mono ?_; rintro e w17 ⟨q, v', vids, vws, rfl, hg⟩
  obtain ⟨D14, hD⟩ : ∃ D' : GD, D' = {D13 with vPh := v', nPh := D13.nPh + 1, cPh := D13.cPh ++ [.int .i64 wd, .slice (some ⟨w15.heap.size, 0, none⟩) 2 2], next := D13.next + 1, vids := vids, vws := vws, nid := D13.nid + 1} := ⟨_, rfl⟩
  have nx11 := Hd.mk (Int.le_trans nx10.out (show D13.next ≤ D14.next by rw [hD]; exact Int.le_add_of_nonneg_right (by decide)))
  have b14 := Hd.mk (b13.out.phi v' (D13.cPh ++ [.int .i64 wd, .slice (some ⟨w15.heap.size, 0, none⟩) 2 2]) vids vws)
  rw [← hD] at hg b14
  have s17 := Hd.mk (sa.trans hg)
  have g17 := Hd.mk (g16.out.trans s17.out)
  clear hg hp hD sa hal
  have hal := (Below.refl w17.heap.size w17).al (Nat.le_refl _) (.cells #[.int .i64 xv, .int .i64 xu] 2)
  have sa := g17.out.gs.mv hal
  have hp := s_phi C D14 8 (some ⟨w17.heap.size, 0, none⟩) 2 2 _ sa.gs b14.out.2.2.2.2.1 (by obtain ⟨-, -, -, h4, -, h6, h7⟩ := b14.out; omega) (phi_new g17.out.gs 8 xv xu)
  go_wp2_with fail
  refine hp.mono ?_; rintro e w18 ⟨q, v', vids, vws, rfl, hg⟩
  obtain ⟨D15, hD⟩ : ∃ D' : GD, D' = {D14 with vPh := v', nPh := D14.nPh + 1, cPh := D14.cPh ++ [.int .i64 8, .slice (some ⟨w17.heap.size, 0, none⟩) 2 2], next := D14.next + 1, vids := vids, vws := vws, nid := D14.nid + 1} := ⟨_, rfl⟩
  have nx12 := Hd.mk (Int.le_trans nx11.out (show D14.next ≤ D15.next by rw [hD]; exact Int.le_add_of_nonneg_right (by decide)))
  have b15 := Hd.mk (b14.out.phi v' (D14.cPh ++ [.int .i64 8, .slice (some ⟨w17.heap.size, 0, none⟩) 2 2]) vids vws)
  rw [← hD] at hg b15
  have s18 := Hd.mk (sa.trans hg)
  have g18 := Hd.mk (g17.out.trans s18.out)
  clear hg hp hD sa hal
  go_wp2
  go_end0
  exact ⟨D15, rfl, g18.out, b15.out.mono (by omega)⟩
structure Num (w w' : World) : Prop where
  size : w'.heap.size = w.heap.size
  cell : ∀ b o, w'.cell? ⟨b, o, none⟩ = w.cell? ⟨b, o, none⟩ ∨ ((∃ i, w.cell? ⟨b, o, none⟩ = some (.int .i64 i)) ∧ ∃ i, w'.cell? ⟨b, o, none⟩ = some (.int .i64 i))
class KX {α : Type} (K : World → α → List Value → Prop) : Prop where
  num : ∀ {w w' : World} {x : α} {cs cs' : List Value}, K w x cs → Num w w' → cs'.length = cs.length → (∀ (j : Nat) (u : Value), cs[j]? = some u → cs'[j]? = some u ∨ ((∃ i, u = .int .i64 i) ∧ ∃ i, cs'[j]? = some (.int .i64 i))) → ∃ x', K w' x' cs'
theorem Rd.num {α : Type} [Inhabited α] {L sz : Nat} {K : World → α → List Value → Prop} [KX K] {w w' : World} {v : Value} {xs : List α} (h : Rd L sz K w v xs) (hn : Num w w') : ∃ xs' : List α, xs'.length = xs.length ∧ Rd L sz K w' v xs' := by
  obtain ⟨A, c, rfl, h1, h2, hz, h3⟩ := h
  by_cases h0 : 0 < xs.length
  · obtain ⟨b, off, rfl, hlt, hat⟩ := h3 h0
    have hx : ∀ i, i < xs.length → ∃ x : α, ∃ cs, K w' x cs ∧ cs.length = sz ∧ ∀ j (hj : j < cs.length), w'.cell? ⟨b, off + i * sz + j, none⟩ = some cs[j] := fun i hi => by
      obtain ⟨cs, hk, hcl, hc⟩ := hat i hi
      have hget : ∀ j, j < sz → ∃ u, w'.cell? ⟨b, off + i * sz + j, none⟩ = some u ∧ ∀ q, cs[j]? = some q → u = q ∨ ((∃ i, q = .int .i64 i) ∧ ∃ i, u = .int .i64 i) := fun j hj => by
        have hq := hc j (by omega)
        have hq' : cs[j]? = some cs[j] := List.getElem?_eq_getElem (by omega)
        rcases hn.cell b (off + i * sz + j) with h4 | ⟨⟨p, h4⟩, q, h5⟩
        · exact ⟨_, h4.trans hq, fun q hq2 => by rw [hq'] at hq2; cases hq2; exact .inl rfl⟩
        · rw [hq] at h4
          injection h4 with h4
          exact ⟨_, h5, fun q' hq2 => by rw [hq'] at hq2; cases hq2; exact .inr ⟨⟨p, h4⟩, q, rfl⟩⟩
      obtain ⟨x', hx'⟩ := KX.num (cs' := (List.range sz).map fun j => (w'.cell? ⟨b, off + i * sz + j, none⟩).getD (.bool false)) hk hn (by simp [hcl]) (fun j u hu => by
        have hj : j < sz := by have := (List.getElem?_eq_some_iff.1 hu).1; omega
        obtain ⟨u', h4, h5⟩ := hget j hj
        have e : ((List.range sz).map fun j => (w'.cell? ⟨b, off + i * sz + j, none⟩).getD (.bool false))[j]? = some u' := by simp [hj, h4]
        rw [e]
        rcases h5 u hu with rfl | ⟨h6, i', rfl⟩
        · exact .inl rfl
        · exact .inr ⟨h6, _, rfl⟩)
      refine ⟨x', _, hx', by simp, fun j hj => ?_⟩
      have hj' : j < sz := by simpa using hj
      obtain ⟨u', h4, -⟩ := hget j hj'
      simp [h4]
    obtain ⟨f, hf⟩ := Go.Deep.choose_lt hx
    refine ⟨(List.range xs.length).map f, by simp, some ⟨b, off, none⟩, c, by simp, by simpa using h1, by simpa using h2, hz, fun _ => ⟨b, off, rfl, by rw [hn.size]; exact hlt, fun i hi => ?_⟩⟩
    have hi' : i < xs.length := by simpa using hi
    simpa using hf i hi'
  · obtain rfl : xs = [] := List.eq_nil_of_length_eq_zero (by omega)
    exact ⟨[], rfl, A, c, rfl, h1, h2, hz, fun h => absurd h (by simp)⟩
instance : KX KInt := ⟨fun h _ hl hc => by
  unfold KInt at h ⊢
  subst h
  obtain ⟨i', h'⟩ := int1 (hc 0 _ rfl) ⟨_, rfl⟩
  exact ⟨i', cs1 hl h'⟩⟩
theorem Rd.ni {α : Type} {L sz : Nat} {K : World → α → List Value → Prop} {w : World} {v : Value} {xs : List α} (h : Rd L sz K w v xs) (i : Int) : v ≠ .int .i64 i := by
  obtain ⟨A, c, rfl, _⟩ := h; simp
instance {L : Nat} : KX (KPhi L) := ⟨fun {_ w' _ _ cs'} ⟨v, h, r⟩ hn hl hc => by
  subst h
  obtain ⟨i', h0⟩ := int1 (hc 0 _ rfl) ⟨_, rfl⟩
  obtain ⟨ys, -, hr⟩ := r.num hn
  exact ⟨⟨i', ys⟩, v, cs2 hl h0 (fix1 (hc 1 _ rfl) r.ni), hr⟩⟩
instance {L : Nat} : KX (KInst L) := ⟨fun ⟨v, h, r⟩ hn hl hc => by
  subst h
  obtain ⟨i0, h0⟩ := int1 (hc 0 _ rfl) ⟨_, rfl⟩
  obtain ⟨i1, h1⟩ := int1 (hc 1 _ rfl) ⟨_, rfl⟩
  obtain ⟨i2, h2⟩ := int1 (hc 2 _ rfl) ⟨_, rfl⟩
  obtain ⟨i3, h3⟩ := int1 (hc 3 _ rfl) ⟨_, rfl⟩
  obtain ⟨i4, h4⟩ := int1 (hc 4 _ rfl) ⟨_, rfl⟩
  obtain ⟨i5, h5⟩ := int1 (hc 5 _ rfl) ⟨_, rfl⟩
  obtain ⟨ys, -, hr⟩ := r.num hn
  exact ⟨⟨i0, i1, i2, i3, i4, i5, ys⟩, v, cs7 hl h0 h1 h2 h3 h4 h5 (fix1 (hc 6 _ rfl) r.ni), hr⟩⟩
theorem QI.num {v : Value} {n : Nat} {w w' : World} (h : QI v n w) (hn : Num w w') : QI v n w' := by
  obtain ⟨xs, h1, -, h2⟩ := h
  obtain ⟨ys, h3, h4⟩ := h2.num hn
  exact ⟨ys, h3.trans h1, trivial, h4⟩
theorem same_cs (cs : List Value) : ∀ (j : Nat) (u : Value), cs[j]? = some u → cs[j]? = some u ∨ ((∃ i, u = .int .i64 i) ∧ ∃ i, cs[j]? = some (.int .i64 i)) := fun _ _ h => .inl h
theorem QInst.num {cs : List Value} {w w' : World} (h : QInst cs w) (hn : Num w w') : QInst cs w' := by
  obtain ⟨x, -, h2⟩ := h
  obtain ⟨y, h3⟩ := KX.num h2 hn rfl (same_cs cs)
  exact ⟨y, trivial, h3⟩
theorem QPhi.num {cs : List Value} {w w' : World} (h : QPhi cs w) (hn : Num w w') : QPhi cs w' := by
  obtain ⟨x, -, h2⟩ := h
  obtain ⟨y, h3⟩ := KX.num h2 hn rfl (same_cs cs)
  exact ⟨y, trivial, h3⟩
theorem QBlock.num {cs : List Value} {w w' : World} (h : QBlock cs w) (hn : Num w w') : QBlock cs w' := by
  obtain ⟨x, ⟨s1, s2⟩, v, v', rfl, h1, h2⟩ := h
  obtain ⟨ps, h3, h4⟩ := h1.num hn
  obtain ⟨is, h5, h6⟩ := h2.num hn
  exact ⟨⟨ps, is, x.term⟩, ⟨by show ps.length ≤ 1000; omega, by show is.length ≤ 1000; omega⟩, v, v', rfl, h4, h6⟩
theorem set_back {α : Type} (a : Array α) (j : Nat) (x y : α) (h : a[j]? = some x) : (a.setIfInBounds j y).setIfInBounds j x = a := by
  apply Array.ext_getElem?
  intro k
  by_cases hk : j = k
  · subst hk
    obtain ⟨h1, h2⟩ := Array.getElem?_eq_some_iff.1 h
    simp [h1, h2]
  · simp [Array.getElem?_setIfInBounds, hk]
theorem Bx.num {E : Nat → Prop} {Q : World → Prop} {W : World} (h : Bx E Q W) (hQ : ∀ w w', Q w → Num w w' → Q w') {g j e : Nat} {arr : Array Value} {i i' : Int} (hg : ¬ E g) (hb : W.heap[g]? = some (.cells arr e (0, 0))) (ho : arr[j]? = some (.int .i64 i)) : Bx E Q (W.setCell ⟨g, j, none⟩ (.int .i64 i')) := by
  intro w' hF
  have h1 := (hF.block g (by have := (Array.getElem?_eq_some_iff.1 hb).1; simpa [World.setCell] using this) hg).trans (heap_set (u := .int .i64 i') (j := j) hb)
  have h2 : (w'.setCell ⟨g, j, none⟩ (.int .i64 i)).heap[g]? = W.heap[g]? := by rw [heap_set h1, set_back _ _ _ _ ho, hb]
  have h3 : Fr E W (w'.setCell ⟨g, j, none⟩ (.int .i64 i)) := by
    refine ⟨hF.os, hF.tape, hF.output, ?_, fun b hb1 hb2 => ?_⟩
    · have := hF.size; simpa [World.setCell] using this
    · by_cases hbg : b = g
      · subst hbg; exact h2
      · rw [Below.heap_setCell w' ⟨g, j, none⟩ _ b hbg, hF.block b (by simpa [World.setCell] using hb1) hb2, Below.heap_setCell W ⟨g, j, none⟩ _ b hbg]
  refine hQ _ _ (h _ h3) ⟨by simp [World.setCell], fun b o => ?_⟩
  by_cases hbg : b = g
  · subst hbg
    rw [(row_facts h1).1 o, (row_facts (h2.trans hb)).1 o]
    by_cases hj : j = o
    · subst hj
      have := (Array.getElem?_eq_some_iff.1 ho).1
      exact .inr ⟨⟨i, ho⟩, i', by simp [Array.getElem?_setIfInBounds, this]⟩
    · exact .inl (by simp [Array.getElem?_setIfInBounds, hj])
  · exact .inl (World.cell?_of_block (a := ⟨b, o, none⟩) (Below.heap_setCell w' ⟨g, j, none⟩ _ b hbg)).symm
theorem GP.num {C : GC} {D0 D : GD} {W0 W : World} (h : GP C D0 D W0 W) {g j : Nat} {arr : Array Value} {i : Int} (i' : Int) (h0 : W0.heap.size ≤ g) (hge : ¬ GE C D g) (hfl : C.fl ≤ g) (hb : W.heap[g]? = some (.cells arr 2 (0, 0))) (ho : arr[j]? = some (.int .i64 i)) : GP C D0 D W0 (W.setCell ⟨g, j, none⟩ (.int .i64 i')) := by
  have hF : Fr (fun q => q = g) W (W.setCell ⟨g, j, none⟩ (.int .i64 i')) := Fr.set _ _ _ _
  have hG : Fr (GA C) W (W.setCell ⟨g, j, none⟩ (.int .i64 i')) := hF.sub fun q e => .inr (by subst e; exact hfl)
  have hs := h.gs
  have no := fun {base e sz n : Nat} {v : Value} {cs : List Value} (ho : W.ownsRow base e sz v n cs) (hv : ∀ k, v.ownBlock = some k → GE C D k) => own_fr ho hF (fun k hk e => by subst e; exact hge (hv _ hk))
  refine ⟨⟨(hF.block _ hs.lt fun e => hge (by rw [← e]; exact .inr (.inl rfl))).trans hs.cell, RdS.fr hs.rs hF hs.hgr hfl, hs.hgr, hs.hgg, no hs.oP (fun k e => by simp [GE, e]), no hs.oB (fun k e => by simp [GE, e]), no hs.oPh (fun k e => by simp [GE, e]), no hs.oIn (fun k e => by simp [GE, e]),
    fun p hp => ?_, fun p hp => ?_, fun p hp => ?_, hs.eI.num (fun _ _ => QI.num) hge hb ho, hs.eW.num (fun _ _ => QI.num) hge hb ho, hs.eR.go hG fun _ e => .inl e, hs.eA.go hG fun _ e => .inl e, hs.wP, hs.lP, hs.wR, hs.n0, hs.n1, hs.n2, hs.n3, hs.n4, hs.n5, hs.n6, hs.wA, hs.nA, fun b e => ⟨(hs.hex b e).1, Nat.lt_of_lt_of_le (hs.hex b e).2.1 hF.size, (hs.hex b e).2.2⟩⟩,
    h.fr.go hF fun q e => .inr (by subst e; exact h0), h.sub, h.fk.go hF fun q e => .inr (by subst e; exact h0), h.subk⟩
  · obtain ⟨cs, h1, h2, h3⟩ := hs.eB p hp
    exact ⟨cs, h1, h2, h3.num (fun _ _ => QBlock.num) hge hb ho⟩
  · obtain ⟨cs, h1, h2, h3⟩ := hs.ePh p hp
    exact ⟨cs, h1, h2, h3.num (fun _ _ => QPhi.num) hge hb ho⟩
  · obtain ⟨cs, h1, h2, h3⟩ := hs.eIn p hp
    exact ⟨cs, h1, h2, h3.num (fun _ _ => QInst.num) hge hb ho⟩
structure Bs (C : GC) (D : GD) (W : World) (g e : Nat) (arr : Array Value) : Prop where
  heap : W.heap[g]? = some (.cells arr e (0, 0))
  ge : ¬ GE C D g
  fl : C.fl ≤ g
theorem Bs.mv {C : GC} {D D' : GD} {W W' : World} {g e : Nat} {arr : Array Value} (h : Bs C D W g e arr) (hp : GP C D D' W W') : Bs C D' W' g e arr := by
  have hlt := (Array.getElem?_eq_some_iff.1 h.heap).1
  exact ⟨(hp.fr.block g hlt h.ge).trans h.heap, fun hg => by
    rcases hp.sub g hg with h' | h'
    · exact h.ge h'
    · omega, h.fl⟩
theorem Bs.new {C : GC} {D : GD} {W : World} (h : GS C D W) (arr : Array Value) (e : Nat) : Bs C D (W.alloc (.cells arr e)) W.heap.size e arr :=
  ⟨heap_new W arr e _ rfl, fun hg => absurd (GE.lt h _ hg) (Nat.lt_irrefl _), by have := h.hgg; have := h.lt; omega⟩
theorem Bs.phis {C : GC} {D D' : GD} {t : XTerm} {W W' : World} (h : GS C D W) (hF : Fr (fun q => q = C.gg ∨ D.vB.ownBlock = some q) W W') {v' : Value} (hD' : D' = closed {D with tm := t} v') (hs : GS C D' W') {n : Nat} (hn : D.nPh = n + 1) : ∃ (gp cap : Nat) (arr : Array Value), D.vPh = .slice (some ⟨gp, 0, none⟩) (n + 1) cap ∧ Bs C D' W' gp 165 arr ∧ ∀ (j : Nat) (u : Value), D.cPh[j]? = some u → arr[j]? = some u := by
  obtain ⟨hl, ⟨-, h'⟩ | ⟨g, cap, cur, hv, h1, h2, h3, h4, h5, h6⟩⟩ := h.oPh
  · omega
  have hx := h.out h.oPh (by decide) (by decide) g (by rw [hv]; rfl)
  have h7 : W'.heap[g]? = some (.cells cur 165 (0, 0)) := (hF.block g (Array.getElem?_eq_some_iff.1 h2).1 (by
    rintro (e | e)
    · exact hx.1 e
    · exact own_two h.oB h.oPh (by decide) g e (by rw [hv]; rfl))).trans h2
  refine ⟨g, cap, cur, by rw [hv, hn], ⟨h7, ?_, h1⟩, fun j u hu => ?_⟩
  · rintro (e | e | e | e | e | e | e)
    · omega
    · exact hx.1 e
    · obtain ⟨-, -, c, h8⟩ := own_blk hs.oP g e
      exact ne_of_cells h7 h8 (by decide) rfl
    · obtain ⟨-, -, c, h8⟩ := own_blk hs.oB g e
      exact ne_of_cells h7 h8 (by decide) rfl
    · rw [hD'] at e; cases e
    · rw [hD'] at e; cases e
    · have e' : D.ex g := by rw [hD'] at e; exact e
      exact (h.hex g e').2.2.2.2.2.1 (by rw [hv]; rfl)
  · have hj : j < D.nPh * 2 := by have := (List.getElem?_eq_some_iff.1 hu).1; omega
    rw [← h6, List.getElem?_take_of_lt hj] at hu
    simpa using hu
theorem InsR.same {k : Int} {D D' : GD} (h : InsR k D D') : D'.vPh = D.vPh ∧ D'.nPh = D.nPh ∧ D'.cPh = D.cPh ∧ D'.vB = D.vB ∧ D'.nB = D.nB ∧ D'.cB = D.cB := by
  obtain ⟨vIn, nIn, cIn, next, vids, vws, nid, rfl, -⟩ := h
  exact ⟨rfl, rfl, rfl, rfl, rfl, rfl⟩
def gc0 (lo gr gg : Nat) (vr vp : Value) (pars : List (List Int)) : GC := ⟨lo, gg, gr, gg, vr, vp, pars.length, pars⟩
def gd0 (ret : Int) : GD := ⟨.slice none 0 0, [], ret, .slice none 0 0, 0, [], .slice none 0 0, 0, [], .slice none 0 0, 0, [], ⟨0, 0, 0, 0⟩, 0, .slice none 0 0, .slice none 0 0, 0, fun _ => False⟩
theorem gs_init {lo gr gg : Nat} {W : World} {vr vp : Value} {pars : List (List Int)} {ret : Int} (hc : W.heap[gg]? = some (.cells ((gd0 ret).cells (gc0 lo gr gg vr vp pars)).toArray 141 (0, 0))) (hrs : RdS lo W gr) (hg : gr < gg) (hr : isW ret)
    (hR : Bx (GA (gc0 lo gr gg vr vp pars)) (QI vr pars.length) W) (hA : Bx (GA (gc0 lo gr gg vr vp pars)) (fun w => Rd lm 1 KL w vp pars) W) (hn : pars.length ≤ 4) (hw : ∀ x ∈ pars, x.length ≤ 4 ∧ ∀ p ∈ x, isW p) : GS (gc0 lo gr gg vr vp pars) (gd0 ret) W :=
  ⟨hc, hrs, hg, Nat.le_refl _, nil_own _ _ _ _, nil_own _ _ _ _, nil_own _ _ _ _, nil_own _ _ _ _, Elt.nil, Elt.nil, Elt.nil, fun _ _ => ⟨[], rfl, trivial, rd_nilK⟩, fun _ _ => ⟨[], rfl, trivial, rd_nilK⟩, hR, hA, fun p hp => by simp [gd0] at hp, Nat.zero_le 4, hr, show (0 : Int) ≤ 0 by decide, show (0 : Int) ≤ 900 by decide, Nat.zero_le _, Nat.zero_le _, Nat.zero_le _, Nat.zero_le _, hn, hw, rfl, fun b e => e.elim⟩
def QBlocks (v : Value) (w : World) : Prop := ∃ xs : List XBlock, (1 ≤ xs.length ∧ xs.length ≤ 100) ∧ (∀ x ∈ xs, sizedB x) ∧ Rd lm 6 (KBlock lm) w v xs
def FE (M : Nat → Prop) (W : World) (cs : List Value) : Prop := ∃ (A : Option Addr) (c : Nat) (ps : List Int) (ret : Int) (vB : Value), cs = [.slice A ps.length c, .int .i64 ret, vB] ∧ (ps.length ≤ 4 ∧ ∀ p ∈ ps, isW p) ∧ vB.oneCell' = true ∧ Bx M (fun w => RI lm w (.slice A ps.length c) ps) W ∧ Bx M (QBlocks vB) W
theorem FE.go {M M' : Nat → Prop} {W W' : World} {cs : List Value} (h : FE M W cs) (hF : Fr M W W') (hM : ∀ q, M' q → M q ∨ W.heap.size ≤ q) : FE M' W' cs := by
  obtain ⟨A, c, ps, ret, vB, h1, h2, h3, h4, h5⟩ := h
  exact ⟨A, c, ps, ret, vB, h1, h2, h3, h4.go hF hM, h5.go hF hM⟩
theorem FE.len {M : Nat → Prop} {W : World} {cs : List Value} (h : FE M W cs) : cs.length = 3 := by
  obtain ⟨A, c, ps, ret, vB, rfl, -⟩ := h; rfl
def okF (x : XFunc) : Prop := x.params.length ≤ 4 ∧ 1 ≤ x.blocks.length
theorem FE.kf {M : Nat → Prop} {W : World} {cs : List Value} (h : FE M W cs) : ∃ x, okF x ∧ KFunc lm W x cs := by
  obtain ⟨A, c, ps, ret, vB, h1, h2, h3, h4, h5⟩ := h
  obtain ⟨xs, k1, -, k3⟩ := h5.out
  exact ⟨⟨ps, ret, xs⟩, ⟨h2.1, k1.1⟩, _, vB, h1, h4.out, k3⟩
theorem GS.func {C : GC} {D : GD} {W : World} (h : GS C D W) (h1 : 1 ≤ D.nB) : FE (fun q => q < C.fl ∨ W.heap.size ≤ q) W [D.vP, .int .i64 D.ret, D.vB] := by
  obtain ⟨A1, n1, v1, -, -, -, -⟩ := own_shape h.oP
  have hv3 := own_one h.oB
  have hno : ∀ {e sz n : Nat} {v : Value} {cs : List Value}, W.ownsRow C.fl e sz v n cs → ∀ k, v.ownBlock = some k → ¬ (k < C.fl ∨ W.heap.size ≤ k) := fun ho k hk e => by
    have h2 := own_block_ge ho k hk
    have h3 := (own_blk ho k hk).1
    omega
  refine ⟨A1, n1, D.ps, D.ret, D.vB, by rw [v1], ⟨h.lP, h.wP⟩, hv3, fun w hF => ?_, ?_⟩
  · rw [← v1]
    exact (OwI.of (own_fr h.oP hF (hno h.oP))).rd (by have := h.lP; show _ ≤ 1048576; omega)
  · have h2 := Elt.rd (K := KBlock lm) (P := sizedB) (E := fun q => q < C.fl ∨ W.heap.size ≤ q) h.oB (h.eB.go (Fr.refl _ _) fun q e => e.imp (fun e => .inl e) id) (hno h.oB) (by decide) (by have := h.n5; show _ ≤ 1048576; omega)
    exact h2.imp fun w ⟨xs, k1, k2, k3⟩ => ⟨xs, ⟨by omega, by have := h.n5; omega⟩, k2, k3⟩
def RetF (lo g : Nat) (w : World) (e : Ending) (w' : World) : Prop := ∃ cs, e = .returned (.agg cs.toArray) ∧ FE (fun q => q < w.heap.size ∨ w'.heap.size ≤ q) w' cs ∧ RdS lo w' g ∧ w.grownBy w' (some g)
theorem own_in {w : World} {base e sz n : Nat} {v : Value} {cs : List Value} (h : w.ownsRow base e sz v n cs) : ∀ k, v.ownBlock = some k → base ≤ k ∧ k < w.heap.size := fun k hk => ⟨own_block_ge h k hk, (own_blk h k hk).1⟩
theorem RdS.frN {lo g : Nat} {W W' : World} {E : Nat → Prop} (h : RdS lo W g) (hF : Fr E W W') (hE : ∀ q, q ≤ g → ¬ E q) : RdS lo W' g := by
  have hlt := h.lt
  obtain ⟨h1, A, n, c, p, h2, h3, h4, h5⟩ := h
  refine ⟨h1, A, n, c, p, (hF.block g hlt (hE g (Nat.le_refl _))).trans h2, h3, h4, fun i hi => ?_⟩
  obtain ⟨b, off, q, k1, k2, k3, k4, k5⟩ := h5 i hi
  exact ⟨b, off, q, k1, k2, k3, k4, by rw [← k5]; exact World.cell?_of_block (hF.block b (by omega) (hE b (by omega)))⟩
def PE (M : Nat → Prop) (W : World) (pl : List (List Int)) (pc : List Value) : Prop := ∀ k (hk : k < pl.length), (pl[k].length ≤ 4 ∧ ∀ p ∈ pl[k], isW p) ∧ ∃ A c, pc[k]? = some (.slice A pl[k].length c) ∧ Bx M (fun w => RI lm w (.slice A pl[k].length c) pl[k]) W
theorem PE.go {M M' : Nat → Prop} {W W' : World} {pl : List (List Int)} {pc : List Value} (h : PE M W pl pc) (hF : Fr M W W') (hM : ∀ q, M' q → M q ∨ W.heap.size ≤ q) : PE M' W' pl pc := fun k hk => by
  obtain ⟨h1, A, c, h2, h3⟩ := h k hk
  exact ⟨h1, A, c, h2, h3.go hF hM⟩
theorem PE.app {M : Nat → Prop} {W : World} {pl : List (List Int)} {pc : List Value} (h : PE M W pl pc) (hl : pc.length = pl.length) (ps : List Int) (hp : ps.length ≤ 4 ∧ ∀ p ∈ ps, isW p) (A : Option Addr) (c : Nat) (hb : Bx M (fun w => RI lm w (.slice A ps.length c) ps) W) : PE M W (pl ++ [ps]) (pc ++ [.slice A ps.length c]) := fun k hk => by
  by_cases hlt : k < pl.length
  · obtain ⟨h1, A', c', h2, h3⟩ := h k hlt
    rw [List.getElem_append_left hlt]
    exact ⟨h1, A', c', by rw [List.getElem?_append_left (by omega)]; exact h2, h3⟩
  · obtain rfl : k = pl.length := by simp at hk; omega
    rw [List.getElem_append_right (Nat.le_refl _)]
    simp only [Nat.sub_self, List.getElem_cons_zero]
    exact ⟨hp, A, c, by rw [← hl, List.getElem?_append_right (Nat.le_refl _)]; simp, hb⟩
theorem PE.rd {M E : Nat → Prop} {W : World} {pl : List (List Int)} {pc : List Value} {base : Nat} {v : Value} (ho : W.ownsRow base 24 1 v pl.length pc) (h : PE M W pl pc) (hv : ∀ k, v.ownBlock = some k → ¬ E k) (hE : ∀ q, E q → M q ∨ W.heap.size ≤ q) (hn : pl.length ≤ lm) : Bx E (fun w => Rd lm 1 KL w v pl) W := fun w hw => by
  have ho' := own_fr ho hw hv
  rcases ho'.2 with ⟨rfl, hz⟩ | ⟨g, cap, cur, rfl, h1, h2, h3, h4, h5, h6⟩
  · exact ⟨none, 0, by rw [hz], by omega, hn, fun _ => rfl, fun h0 => absurd h0 (by omega)⟩
  · refine ⟨some ⟨g, 0, none⟩, cap, rfl, h3, hn, fun e => (by cases e), fun _ => ⟨g, 0, rfl, (Array.getElem?_eq_some_iff.1 h2).1, fun i hi => ?_⟩⟩
    obtain ⟨-, A, c, k2, k3⟩ := h i hi
    refine ⟨[.slice A pl[i].length c], ⟨_, rfl, (k3.go (Fr.refl _ _) hE) w hw⟩, rfl, fun j hj => ?_⟩
    obtain rfl : j = 0 := by simpa using hj
    have h7 := World.ownsRow.cellAt ho' i (by omega)
    rw [Nat.zero_add, Nat.mul_one, Nat.add_zero, h7, k2]
    rfl
def FEs (M : Nat → Prop) (W : World) (n : Nat) (cF : List Value) : Prop := ∀ i, i < n → ∃ cs, (∀ j, j < 3 → cF[i * 3 + j]? = cs[j]?) ∧ FE M W cs
theorem FEs.go {M M' : Nat → Prop} {W W' : World} {n : Nat} {cF : List Value} (h : FEs M W n cF) (hF : Fr M W W') (hM : ∀ q, M' q → M q ∨ W.heap.size ≤ q) : FEs M' W' n cF := fun i hi => by
  obtain ⟨cs, h1, h2⟩ := h i hi
  exact ⟨cs, h1, h2.go hF hM⟩
theorem FEs.app {M : Nat → Prop} {W : World} {n : Nat} {cF cs : List Value} (h : FEs M W n cF) (hl : cF.length = n * 3) (hc : FE M W cs) : FEs M W (n + 1) (cF ++ cs) := fun i hi => by
  by_cases h' : i < n
  · obtain ⟨cs', h1, h2⟩ := h i h'
    exact ⟨cs', fun j hj => by rw [List.getElem?_append_left (by omega)]; exact h1 j hj, h2⟩
  · obtain rfl : i = n := by omega
    exact ⟨cs, fun j hj => by rw [List.getElem?_append_right (by omega), hl]; congr 1; omega, hc⟩
theorem FEs.rd {M E : Nat → Prop} {W : World} {n : Nat} {cF : List Value} {base : Nat} {v : Value} (ho : W.ownsRow base 35 3 v n cF) (h : FEs M W n cF) (hv : ∀ k, v.ownBlock = some k → ¬ E k) (hE : ∀ q, E q → M q ∨ W.heap.size ≤ q) (hn : n ≤ lm) : Bx E (fun w => ∃ xs : List XFunc, xs.length = n ∧ (∀ x ∈ xs, okF x) ∧ Rd lm 3 (KFunc lm) w v xs) W :=
  Elt.rd (K := KFunc lm) (P := okF) ho (fun i hi => by
    obtain ⟨cs, h1, h2⟩ := h i hi
    exact ⟨cs, h2.len, h1, fun w hw => ((h2.go (Fr.refl _ _) hE).go hw fun q e => .inl e).kf⟩) hv (by decide) hn
structure MS (lo g : Nat) (w : World) (M : Nat → Prop) (n : Nat) (v4 v5 vF : Value) (rl : List Int) (pl : List (List Int)) (pc cF : List Value) (W : World) : Prop where
  o4 : W.ownsRow w.heap.size 2 1 v4 rl.length (rl.map (.int .i64))
  o5 : W.ownsRow w.heap.size 24 1 v5 pl.length pc
  oF : W.ownsRow w.heap.size 35 3 vF n cF
  pe : PE M W pl pc
  fe : FEs M W n cF
  mb : W.heap[w.heap.size + 1]? = some (.cells #[vF] 38 (0, 0))
  rb : W.heap[w.heap.size]? = some (.cells #[.slice none 0 0] 38 (0, 0))
  rs : RdS lo W g
  hg : g < w.heap.size
  fr : Fr (fun q => q = g ∨ w.heap.size ≤ q) w W
  mM : ∀ q, (q < w.heap.size ∨ q = w.heap.size ∨ q = w.heap.size + 1 ∨ v4.ownBlock = some q ∨ v5.ownBlock = some q ∨ vF.ownBlock = some q ∨ W.heap.size ≤ q) → M q
section
variable {lo g : Nat} {w : World} {M : Nat → Prop} {n : Nat} {v4 v5 vF : Value} {rl : List Int} {pl : List (List Int)} {pc cF : List Value} {W : World}
theorem MS.lt (h : MS lo g w M n v4 v5 vF rl pl pc cF W) : w.heap.size + 1 < W.heap.size := (Array.getElem?_eq_some_iff.1 h.mb).1
theorem MS.fr' (h : MS lo g w M n v4 v5 vF rl pl pc cF W) {E : Nat → Prop} {W' : World} (hF : Fr E W W') (hE : ∀ q, E q → M q ∧ w.heap.size + 1 < q ∧ v4.ownBlock ≠ some q ∧ v5.ownBlock ≠ some q ∧ vF.ownBlock ≠ some q) : MS lo g w M n v4 v5 vF rl pl pc cF W' := by
  have hM : Fr M W W' := hF.sub fun q e => (hE q e).1
  have hg := h.hg
  have hgW := h.rs.lt
  refine ⟨own_fr h.o4 hF fun k hk e => (hE k e).2.2.1 hk, own_fr h.o5 hF fun k hk e => (hE k e).2.2.2.1 hk, own_fr h.oF hF fun k hk e => (hE k e).2.2.2.2 hk, h.pe.go hM fun q e => .inl e, h.fe.go hM fun q e => .inl e,
    (hF.block _ h.lt fun e => by have := (hE _ e).2.1; omega).trans h.mb, (hF.block _ (by have := h.lt; omega) fun e => by have := (hE _ e).2.1; omega).trans h.rb, ?_, hg, h.fr.go hF fun q e => .inl (.inr (by have := (hE q e).2.1; omega)), fun q e => h.mM q ?_⟩
  · exact h.rs.frN hF fun q hq e => by have := (hE q e).2.1; omega
  · rcases e with e | e | e | e | e | e | e
    · exact .inl e
    · exact .inr (.inl e)
    · exact .inr (.inr (.inl e))
    · exact .inr (.inr (.inr (.inl e)))
    · exact .inr (.inr (.inr (.inr (.inl e))))
    · exact .inr (.inr (.inr (.inr (.inr (.inl e)))))
    · exact .inr (.inr (.inr (.inr (.inr (.inr (Nat.le_trans hF.size e))))))
theorem MS.bl (h : MS lo g w M n v4 v5 vF rl pl pc cF W) {W' : World} (hb : Below W.heap.size W W') : MS lo g w M n v4 v5 vF rl pl pc cF W' := h.fr' (Fr.of (fun _ => False) hb) fun _ e => e.elim
theorem MS.fn (h : MS lo g w M n v4 v5 vF rl pl pc cF W) {W' : World} (hg : W.grownBy W' (some g)) (hr : RdS lo W' g) : MS lo g w (fun q => M q ∧ (q < W.heap.size ∨ W'.heap.size ≤ q)) n v4 v5 vF rl pl pc cF W' := by
  have hF : Fr (fun q => q = g) W W' := (Fr.gb hg).sub fun q e => by injection e with e; exact e.symm
  have hM : Fr M W W' := hF.sub fun q e => h.mM q (.inl (by rw [e]; exact h.hg))
  have hgl := h.hg
  have hlt := h.lt
  have no : ∀ {e sz n : Nat} {v : Value} {cs : List Value}, W.ownsRow w.heap.size e sz v n cs → ∀ k, v.ownBlock = some k → ¬ k = g := fun ho k hk e => by have := own_block_ge ho k hk; omega
  refine ⟨own_fr h.o4 hF (no h.o4), own_fr h.o5 hF (no h.o5), own_fr h.oF hF (no h.oF), h.pe.go hM fun q e => .inl e.1, h.fe.go hM fun q e => .inl e.1, (hF.block _ hlt (by omega)).trans h.mb, (hF.block _ (by omega) (by omega)).trans h.rb, hr, hgl, h.fr.go hF fun q e => .inl (.inl e), fun q e => ?_⟩
  rcases e with e | e | e | e | e | e | e
  · exact ⟨h.mM q (.inl e), .inl (by omega)⟩
  · exact ⟨h.mM q (.inr (.inl e)), .inl (by omega)⟩
  · exact ⟨h.mM q (.inr (.inr (.inl e))), .inl (by omega)⟩
  · exact ⟨h.mM q (.inr (.inr (.inr (.inl e)))), .inl (own_in h.o4 q e).2⟩
  · exact ⟨h.mM q (.inr (.inr (.inr (.inr (.inl e))))), .inl (own_in h.o5 q e).2⟩
  · exact ⟨h.mM q (.inr (.inr (.inr (.inr (.inr (.inl e)))))), .inl (own_in h.oF q e).2⟩
  · exact ⟨h.mM q (.inr (.inr (.inr (.inr (.inr (.inr (Nat.le_trans hF.size e))))))), .inr e⟩
theorem own_noT {w : World} {base e sz n : Nat} {v : Value} {cs : List Value} {b e' : Nat} {arr : Array Value} (h : w.ownsRow base e sz v n cs) (hb : w.heap[b]? = some (.cells arr e' (0, 0))) (hne : e ≠ e') : ∀ k, v.ownBlock = some k → k ≠ b := fun k hk => by
  obtain ⟨-, -, c, hc⟩ := own_blk h k hk
  exact ne_of_cells hc hb hne
theorem MS.app4 (h : MS lo g w M n v4 v5 vF rl pl pc cF W) {W' : World} (x : Int) (v' : Value) (hg : W.grownBy W' v4.ownBlock) (ho : W'.ownsRow w.heap.size 2 1 v' (rl ++ [x]).length ((rl ++ [x]).map (.int .i64))) (hv : v'.ownBlock = v4.ownBlock ∨ v'.ownBlock = some W.heap.size) : MS lo g w M n v' v5 vF (rl ++ [x]) pl pc cF W' := by
  have hF := Fr.gb hg
  have hM : Fr M W W' := hF.sub fun q e => h.mM q (.inr (.inr (.inr (.inl e))))
  have hgl := h.hg
  have hlt := h.lt
  refine ⟨ho, own_fr h.o5 hF (own_two h.o5 h.o4 (by decide)), own_fr h.oF hF (own_two h.oF h.o4 (by decide)), h.pe.go hM fun q e => .inl e, h.fe.go hM fun q e => .inl e, (hF.block _ hlt fun e => own_noT h.o4 h.mb (by decide) _ e rfl).trans h.mb, (hF.block _ (by omega) fun e => own_noT h.o4 h.rb (by decide) _ e rfl).trans h.rb,
    h.rs.frN hF fun q hq e => by have := own_block_ge h.o4 q e; omega, hgl, h.fr.go hF fun q e => .inl (.inr (own_block_ge h.o4 q e)), fun q e => h.mM q ?_⟩
  rcases e with e | e | e | e | e | e | e
  · exact .inl e
  · exact .inr (.inl e)
  · exact .inr (.inr (.inl e))
  · rcases hv with hv | hv
    · exact .inr (.inr (.inr (.inl (hv ▸ e))))
    · rw [hv] at e; injection e with e; exact .inr (.inr (.inr (.inr (.inr (.inr (by omega))))))
  · exact .inr (.inr (.inr (.inr (.inl e))))
  · exact .inr (.inr (.inr (.inr (.inr (.inl e)))))
  · exact .inr (.inr (.inr (.inr (.inr (.inr (Nat.le_trans hF.size e))))))
theorem MS.app5 (h : MS lo g w M n v4 v5 vF rl pl pc cF W) {W' : World} (ps : List Int) (hp : ps.length ≤ 4 ∧ ∀ p ∈ ps, isW p) (A : Option Addr) (c : Nat) (hb : Bx M (fun w => RI lm w (.slice A ps.length c) ps) W) (v' : Value) (hg : W.grownBy W' v5.ownBlock) (ho : W'.ownsRow w.heap.size 24 1 v' (pl.length + 1) (pc ++ [.slice A ps.length c])) (hv : v'.ownBlock = v5.ownBlock ∨ v'.ownBlock = some W.heap.size) : MS lo g w M n v4 v' vF rl (pl ++ [ps]) (pc ++ [.slice A ps.length c]) cF W' := by
  have hF := Fr.gb hg
  have hM : Fr M W W' := hF.sub fun q e => h.mM q (.inr (.inr (.inr (.inr (.inl e)))))
  have hgl := h.hg
  have hlt := h.lt
  refine ⟨own_fr h.o4 hF (own_two h.o4 h.o5 (by decide)), by simpa using ho, own_fr h.oF hF (own_two h.oF h.o5 (by decide)), (h.pe.app (by have := h.o5.1; omega) ps hp A c hb).go hM fun q e => .inl e, h.fe.go hM fun q e => .inl e, (hF.block _ hlt fun e => own_noT h.o5 h.mb (by decide) _ e rfl).trans h.mb, (hF.block _ (by omega) fun e => own_noT h.o5 h.rb (by decide) _ e rfl).trans h.rb,
    h.rs.frN hF fun q hq e => by have := own_block_ge h.o5 q e; omega, hgl, h.fr.go hF fun q e => .inl (.inr (own_block_ge h.o5 q e)), fun q e => h.mM q ?_⟩
  rcases e with e | e | e | e | e | e | e
  · exact .inl e
  · exact .inr (.inl e)
  · exact .inr (.inr (.inl e))
  · exact .inr (.inr (.inr (.inl e)))
  · rcases hv with hv | hv
    · exact .inr (.inr (.inr (.inr (.inl (hv ▸ e)))))
    · rw [hv] at e; injection e with e; exact .inr (.inr (.inr (.inr (.inr (.inr (by omega))))))
  · exact .inr (.inr (.inr (.inr (.inr (.inl e)))))
  · exact .inr (.inr (.inr (.inr (.inr (.inr (Nat.le_trans hF.size e))))))
theorem MS.appF (h : MS lo g w M n v4 v5 vF rl pl pc cF W) {W' : World} (cs : List Value) (hc : FE M W cs) (v' : Value) (hg : W.grownBy W' vF.ownBlock) (ho : W'.ownsRow w.heap.size 35 3 v' (n + 1) (cF ++ cs)) (hv : v'.ownBlock = vF.ownBlock ∨ v'.ownBlock = some W.heap.size) : MS lo g w M (n + 1) v4 v5 v' rl pl pc (cF ++ cs) (W'.setCell ⟨w.heap.size + 1, 0, none⟩ v') := by
  have hF1 := Fr.gb hg
  have hlt := h.lt
  have hmb1 := (hF1.block _ hlt fun e => own_noT h.oF h.mb (by decide) _ e rfl).trans h.mb
  have hF : Fr (fun q => vF.ownBlock = some q ∨ q = w.heap.size + 1) W (W'.setCell ⟨w.heap.size + 1, 0, none⟩ v') := (hF1.sub fun q e => .inl e).go (Fr.set W' (w.heap.size + 1) 0 v') fun q e => .inl (.inr e)
  have hM : Fr M W (W'.setCell ⟨w.heap.size + 1, 0, none⟩ v') := hF.sub fun q e => by
    rcases e with e | e
    · exact h.mM q (.inr (.inr (.inr (.inr (.inr (.inl e))))))
    · exact h.mM q (.inr (.inr (.inl e)))
  have hgl := h.hg
  have no : ∀ {e sz n : Nat} {v : Value} {cs : List Value}, W.ownsRow w.heap.size e sz v n cs → e ≠ 35 → e ≠ 38 → ∀ k, v.ownBlock = some k → ¬ (vF.ownBlock = some k ∨ k = w.heap.size + 1) := fun ho' h1 h2 k hk e => by
    rcases e with e | e
    · exact own_two ho' h.oF h1 k hk e
    · exact own_noT ho' h.mb h2 k hk e
  refine ⟨own_fr h.o4 hF (no h.o4 (by decide) (by decide)), own_fr h.o5 hF (no h.o5 (by decide) (by decide)), own_fr ho (Fr.set W' (w.heap.size + 1) 0 v') fun k hk e => own_noT ho hmb1 (by decide) k hk e, h.pe.go hM fun q e => .inl e, (h.fe.app h.oF.1 hc).go hM fun q e => .inl e, (heap_set hmb1).trans (by simp), (hF.block _ (by omega) fun e => by
      rcases e with e | e
      · exact own_noT h.oF h.rb (by decide) _ e rfl
      · omega).trans h.rb,
    h.rs.frN hF fun q hq e => by
      rcases e with e | e
      · have := own_block_ge h.oF q e; omega
      · omega, hgl, h.fr.go hF fun q e => .inl (.inr (by
      rcases e with e | e
      · exact own_block_ge h.oF q e
      · omega)), fun q e => h.mM q ?_⟩
  rcases e with e | e | e | e | e | e | e
  · exact .inl e
  · exact .inr (.inl e)
  · exact .inr (.inr (.inl e))
  · exact .inr (.inr (.inr (.inl e)))
  · exact .inr (.inr (.inr (.inr (.inl e))))
  · rcases hv with hv | hv
    · exact .inr (.inr (.inr (.inr (.inr (.inl (hv ▸ e))))))
    · rw [hv] at e; injection e with e; exact .inr (.inr (.inr (.inr (.inr (.inr (by omega))))))
  · exact .inr (.inr (.inr (.inr (.inr (.inr (Nat.le_trans hF.size e))))))
theorem MS.nar (h : MS lo g w M n v4 v5 vF rl pl pc cF W) {k : Nat} (hk : (w.heap.size + 1 < k ∧ (∀ q, v4.ownBlock = some q → q < k) ∧ (∀ q, v5.ownBlock = some q → q < k) ∧ ∀ q, vF.ownBlock = some q → q < k)) : MS lo g w (fun q => M q ∧ (q < k ∨ W.heap.size ≤ q)) n v4 v5 vF rl pl pc cF W := by
  have hgl := h.hg
  refine ⟨h.o4, h.o5, h.oF, h.pe.go (Fr.refl _ _) fun q e => .inl e.1, h.fe.go (Fr.refl _ _) fun q e => .inl e.1, h.mb, h.rb, h.rs, h.hg, h.fr, fun q e => ⟨h.mM q e, ?_⟩⟩
  rcases e with e | e | e | e | e | e | e
  · exact .inl (by omega)
  · exact .inl (by omega)
  · exact .inl (by omega)
  · exact .inl (hk.2.1 q e)
  · exact .inl (hk.2.2.1 q e)
  · exact .inl (hk.2.2.2 q e)
  · exact .inr e
theorem MS.fr4 (h : MS lo g w M n v4 v5 vF rl pl pc cF W) {W' : World} (hg : W.grownBy W' v4.ownBlock) : Fr M W W' := (Fr.gb hg).sub fun q e => h.mM q (.inr (.inr (.inr (.inl e))))
theorem MS.frF (h : MS lo g w M n v4 v5 vF rl pl pc cF W) {W' : World} (hg : W.grownBy W' vF.ownBlock) (v' : Value) : Fr M W (W'.setCell ⟨w.heap.size + 1, 0, none⟩ v') :=
  ((Fr.gb hg).sub fun q e => h.mM q (.inr (.inr (.inr (.inr (.inr (.inl e))))))).go ((Fr.set W' (w.heap.size + 1) 0 v').sub (E' := M) fun q e => h.mM q (.inr (.inr (.inl e)))) fun q e => .inl e
end
def RetM (lo g : Nat) (w : World) (e : Ending) (w' : World) : Prop := ∃ (v : Value) (n : Nat) (cF : List Value), e = .returned (.agg #[v]) ∧ (1 ≤ n ∧ n ≤ 2) ∧ w'.ownsRow w.heap.size 35 3 v n cF ∧ FEs (fun q => q < w.heap.size ∨ w'.heap.size ≤ q) w' n cF ∧ RdS lo w' g ∧ w.grownBy w' (some g)
set_option maxRecDepth 20000 in
set_option maxHeartbeats 8000000 in
theorem s_l4Func (m : XMod) (cm : List Value) (f : XFunc) (cf : List Value) (n : Int) (w : World) (hm : KMod lm w m cm) (hf : KFunc lm w f cf) (hok : funcOk f n = true) (hqc : ∀ b ∈ f.blocks, ∀ i ∈ b.insts, QCall m i) :
    Calls Tryz.prog 75 #[.agg cm.toArray, .agg cf.toArray] w (Ret (.int .i64 (checkF m f)) w) := by
  have hm' := Hd.mk hm
  have hf' := Hd.mk hf
  obtain ⟨vm, rfl, hrm⟩ := hm
  obtain ⟨Am, cm, rfl, -, -, -⟩ := hrm.sm
  obtain ⟨v1, v2, rfl, hp, hb⟩ := hf
  obtain ⟨A1, c1, rfl, -, -, -⟩ := hp.sm
  obtain ⟨A2, c2, rfl, hcap, hl2, hb0⟩ := hb.sm
  clear hp hb hrm
  have hfo := func_fo hok
  have hn1 := hfo.1.2.1
  have hn10 := hfo.1.2.2
  have hbl := fun o o' => ((Below.refl w.heap.size w).al (Nat.le_refl _) o).al (by simp) o'
  obtain ⟨W0, hW0⟩ : ∃ W0 : World, W0 = (w.alloc (.cells #[.slice Am m.funcs.length cm] 38)).alloc (.cells #[.slice A1 f.params.length c1, .int .i64 f.ret, .slice A2 f.blocks.length c2] 35) := ⟨_, rfl⟩
  have hB0 : Below w.heap.size w W0 := by rw [hW0]; exact hbl _ _
  have hz0 : W0.heap.size = w.heap.size + 2 := by rw [hW0]; simp
  have hzm : Hd (W0.cell? ⟨w.heap.size, 0, none⟩ = some (.slice Am m.funcs.length cm)) := ⟨by rw [hW0]; simp⟩
  have hzf : Hd (∀ o u, [Value.slice A1 f.params.length c1, .int .i64 f.ret, .slice A2 f.blocks.length c2][o]? = some u → W0.cell? ⟨w.heap.size + 1, o, none⟩ = some u) := ⟨fun o u hu => by rw [hW0]; exact new_cell _ _ _ (by simp) o u (by simpa using hu)⟩
  have hW0' := Hd.mk hW0
  have hB0' := Hd.mk hB0
  have hpr := fun W (hW : Below w.heap.size w W) => s_l3Preds f _ 0 W (KM.mv hf'.out hW)
  have hph := fun W (hW : Below w.heap.size w W) => s_l4Phis f _ W (KM.mv hf'.out hW) hn10
  have hty := fun W (hW : Below w.heap.size w W) => s_l4Types f _ n W (KM.mv hf'.out hW) hok
  have hca := fun W (hW : Below w.heap.size w W) => s_l4Calls m _ f _ n W (KM.mv hm'.out hW) (KM.mv hf'.out hW) hok hqc
  have hdo := fun h W (hW : Below w.heap.size w W) => s_l4Doms f _ n W (KM.mv hf'.out hW) hok h
  have hb00 : blkAt f 0 = f.blocks[0]'(by omega) := blkAt_nat f 0 (by omega)
  have hent : Hd (entryOk f = ((f.blocks[0]'(by omega)).phis.isEmpty && (predsOf f 0).isEmpty)) := ⟨by unfold entryOk; rw [hb00]⟩
  have hpl := preds_len f 0
  clear hW0 hB0 hok hqc hfo hb00
  generalize hR : checkF m f = R
  have hR' := Hd.mk hR
  clear hR
  go_enter Tryz.func75, Tryz.ntmps75
  go_wp2_with fail
  rw [← hW0'.out]
  have x3 := hzm.out
  have x0 := hzf.out 0 _ rfl
  have x1 := hzf.out 1 _ rfl
  have x2 := hzf.out 2 _ rfl
  go_wp2_with fail
  refine (hpr _ hB0'.out).mono ?_; rintro e w1 ⟨u1, rfl, ho1, hb1⟩
  obtain ⟨Aq, cq, rfl, -, -, -, -⟩ := own_shape ho1
  replace x3 := (bat hb1 (w.heap.size) (by omega) 0).trans x3
  replace x0 := (bat hb1 (w.heap.size + 1) (by omega) 0).trans x0
  replace x1 := (bat hb1 (w.heap.size + 1) (by omega) 1).trans x1
  replace x2 := (bat hb1 (w.heap.size + 1) (by omega) 2).trans x2
  have hc1 := Hd.mk hb1
  have hB1 := Hd.mk (hB0'.out.then hb1)
  have hz1 := hb1.size
  clear hb1 ho1 hpr
  obtain ⟨eb, eo, ecs, hA_, heb, ⟨bv1, bv2, rfl, hr_, hr2_⟩, hat_⟩ := (hb0.out).in0 (hB1.out) (0) (by omega)
  cases hA_
  have hew := Nat.lt_of_lt_of_le heb (hB1.out).size
  have g0 := hat_ 0 _ rfl
  have g1 := hat_ 1 _ rfl
  have g2 := hat_ 2 _ rfl
  have g3 := hat_ 3 _ rfl
  have g4 := hat_ 4 _ rfl
  have g5 := hat_ 5 _ rfl
  clear hat_
  simp at g0 g1 g2 g3 g4 g5
  obtain ⟨Ap, cp, rfl, hcp, hlp, hrp⟩ := hr_.sm
  obtain ⟨Ai, ci, rfl, hci, hli, hri⟩ := hr2_.sm
  clear hr_ hr2_
  generalize f.blocks[0] = x at *
  by_cases e1 : (predsOf f 0).length = 0
  rotate_left
  · have hv := hR'.out.symm.trans (checkF_2 (by rw [hent.out]; cases hq : predsOf f 0 with
      | nil => rw [hq] at e1; exact absurd rfl e1
      | cons a r => simp))
    subst hv
    have el : (0 : Int) < ((predsOf f 0).length : Int) := by omega
    go_wp2
    go_ret
    exact ⟨rfl, hB1.out⟩
  by_cases e2 : x.phis.length = 0
  rotate_left
  · have hv := hR'.out.symm.trans (checkF_2 (by rw [hent.out]; cases hq : x.phis with
      | nil => rw [hq] at e2; exact absurd rfl e2
      | cons a r => simp))
    subst hv
    have el : (0 : Int) < (x.phis.length : Int) := by omega
    rw [e1]
    go_wp2
    go_ret
    exact ⟨rfl, hB1.out⟩
  have hE : entryOk f = true := by
    rw [hent.out, List.length_eq_zero_iff.1 e1, List.length_eq_zero_iff.1 e2]; rfl
  rw [e1]
  rw [e2] at g0
  clear hent e1 e2 hpl
  go_wp2_with fail
  refine (hph _ hB1.out).mono ?_; rintro e w2 ⟨rfl, hb2⟩
  replace x3 := (bat hb2 (w.heap.size) (by omega) 0).trans x3
  replace x0 := (bat hb2 (w.heap.size + 1) (by omega) 0).trans x0
  replace x1 := (bat hb2 (w.heap.size + 1) (by omega) 1).trans x1
  replace x2 := (bat hb2 (w.heap.size + 1) (by omega) 2).trans x2
  have hB2 := Hd.mk (hB1.out.then hb2)
  have hz2 := hb2.size
  clear hb2
  cases h2 : phisOk f with
  | false =>
    have hv := hR'.out.symm.trans (checkF_3 hE h2)
    subst hv
    clear hE h2
    go_wp2
    go_ret
    exact ⟨rfl, hB2.out⟩
  | true =>
    go_wp2_with fail
    refine (hty _ hB2.out).mono ?_; rintro e w3 ⟨rfl, hb3⟩
    replace x3 := (bat hb3 (w.heap.size) (by omega) 0).trans x3
    replace x0 := (bat hb3 (w.heap.size + 1) (by omega) 0).trans x0
    replace x1 := (bat hb3 (w.heap.size + 1) (by omega) 1).trans x1
    replace x2 := (bat hb3 (w.heap.size + 1) (by omega) 2).trans x2
    have hB3 := Hd.mk (hB2.out.then hb3)
    have hz3 := hb3.size
    clear hb3
    cases h3 : typesOk f with
    | false =>
      have hv := hR'.out.symm.trans (checkF_4 hE h2 h3)
      subst hv
      clear hE h2 h3
      go_wp2
      go_ret
      exact ⟨rfl, hB3.out⟩
    | true =>
      go_wp2_with fail
      refine (hca _ hB3.out).mono ?_; rintro e w4 ⟨rfl, hb4⟩
      replace x3 := (bat hb4 (w.heap.size) (by omega) 0).trans x3
      replace x0 := (bat hb4 (w.heap.size + 1) (by omega) 0).trans x0
      replace x1 := (bat hb4 (w.heap.size + 1) (by omega) 1).trans x1
      replace x2 := (bat hb4 (w.heap.size + 1) (by omega) 2).trans x2
      have hB4 := Hd.mk (hB3.out.then hb4)
      have hz4 := hb4.size
      clear hb4
      cases h4 : callsOk m f with
      | false =>
        have hv := hR'.out.symm.trans (checkF_5 hE h2 h3 h4)
        subst hv
        clear hE h2 h3 h4
        go_wp2
        go_ret
        exact ⟨rfl, hB4.out⟩
      | true =>
        go_wp2_with fail
        refine (hdo h2 _ hB4.out).mono ?_; rintro e w5 ⟨rfl, hb5⟩
        replace x3 := (bat hb5 (w.heap.size) (by omega) 0).trans x3
        replace x0 := (bat hb5 (w.heap.size + 1) (by omega) 0).trans x0
        replace x1 := (bat hb5 (w.heap.size + 1) (by omega) 1).trans x1
        replace x2 := (bat hb5 (w.heap.size + 1) (by omega) 2).trans x2
        have hB5 := Hd.mk (hB4.out.then hb5)
        have hz5 := hb5.size
        clear hb5
        cases h5 : domsOk f with
        | false =>
          have hv := hR'.out.symm.trans (checkF_6 hE h2 h3 h4 h5)
          subst hv
          clear hE h2 h3 h4 h5
          go_wp2
          go_ret
          exact ⟨rfl, hB5.out⟩
        | true =>
          have hv := hR'.out.symm.trans (checkF_0 hE h2 h3 h4 h5)
          subst hv
          clear hE h2 h3 h4 h5
          go_wp2
          go_ret
          exact ⟨rfl, hB5.out⟩
set_option maxRecDepth 20000 in
set_option maxHeartbeats 4000000 in
theorem s_ShapeOk (m : XMod) (cm : List Value) (w : World) (hm : KMod lm w m cm) : Calls Tryz.prog 74 #[.agg cm.toArray] w (Ret (.bool (shapeOk m)) w) := by
  have hm' := Hd.mk hm
  obtain ⟨vm, rfl, hrm⟩ := hm
  obtain ⟨Am, cm, rfl, hcap, hlm, hm0⟩ := hrm.sm
  clear hrm
  have hbl := fun o => (Below.refl w.heap.size w).al (Nat.le_refl _) o
  obtain ⟨W0, hW0⟩ : ∃ W0 : World, W0 = (w.alloc (.cells #[.slice Am m.funcs.length cm] 38)) := ⟨_, rfl⟩
  have hB0 : Below w.heap.size w W0 := by rw [hW0]; exact hbl _
  have hz0 : W0.heap.size = w.heap.size + 1 := by rw [hW0]; simp
  have hmc : Hd (W0.cell? ⟨w.heap.size, 0, none⟩ = some (.slice Am m.funcs.length cm)) := ⟨by rw [hW0]; simp⟩
  have hW0' := Hd.mk hW0
  have hB0' := Hd.mk hB0
  have hin := fun W => s_l1In m.funcs.length 1 3 W
  clear hW0 hB0
  generalize hR : shapeOk m = R
  have hR' := Hd.mk hR
  clear hR
  unfold shapeOk at hR'
  go_enter Tryz.func74, Tryz.ntmps74
  go_wp2_with fail
  rw [← hW0'.out]
  have x0 := hmc.out
  go_wp2_with fail
  refine (hin _).mono ?_; rintro e w1 ⟨rfl, rfl⟩
  clear hin
  cases h1 : inR m.funcs.length 1 3 with
  | false =>
    rw [h1] at hR'
    have hv : false = R := hR'.out
    subst hv
    clear h1
    go_wp2
    go_ret
    exact ⟨rfl, hB0'.out⟩
  | true =>
    rw [h1, Bool.true_and] at hR'
    clear h1
    go_wp2
    go_loopw [3] (fun s3 wr => ∃ k : Nat, k ≤ m.funcs.length ∧ s3 = .int .i64 k ∧ Hd ((m.funcs.take k).all (fun f => funcOk f m.funcs.length) = true) ∧ Hd (Below W0.heap.size W0 wr)) (fun s3 _ => m.funcs.length - (intOf s3).toNat)
    case atStart => exact ⟨0, Nat.zero_le _, rfl, ⟨rfl⟩, ⟨Below.refl _ _⟩⟩
    case round =>
      obtain ⟨k, hk, rfl, hall, hbr⟩ := hrel
      obtain ⟨wo, rfl⟩ : ∃ wo : World, wo = wr := ⟨_, rfl⟩
      have hBw := Hd.mk (hB0'.out.then hbr.out)
      have hzo := hbr.out.size
      have y0 := (bat hbr.out w.heap.size (by omega) 0).trans hmc.out
      have y1 : w.heap.size < wo.heap.size := by omega
      clear x0
      by_cases hlt : k < m.funcs.length
      · obtain ⟨eb, eo, ecs, hA_, heb, ⟨fv1, fv2, rfl, hr_, hr2_⟩, hat_⟩ := (hm0.out).in0 (hBw.out) (k) (hlt)
        cases hA_
        have hew := Nat.lt_of_lt_of_le heb (hBw.out).size
        have g0 := hat_ 0 _ rfl
        have g1 := hat_ 1 _ rfl
        have g2 := hat_ 2 _ rfl
        clear hat_
        simp at g0 g1 g2
        obtain ⟨Af, cf, rfl, hcf, hlf, hrf⟩ := hr_.sm
        obtain ⟨Ab, cb, rfl, hcb, hlb, hrb⟩ := hr2_.sm
        clear hr_ hr2_
        have hsn := Hd.mk (all_take_snoc (fun f => funcOk f m.funcs.length) m.funcs k hlt)
        have hfl := fun h => Hd.mk (all_false_of (fun f => funcOk f m.funcs.length) m.funcs k hlt h)
        generalize m.funcs[k] = f at *
        have hck := fun W (hW : Below wo.heap.size wo W) => s_l2Func f [.slice Af f.params.length cf, .int .i64 f.ret, .slice Ab f.blocks.length cb] m.funcs.length W ⟨_, _, rfl, hrf.out.mv (hBw.out.then hW), hrb.out.mv (hBw.out.then hW)⟩ (by omega) (by omega)
        have eh0 : (0 : Int) ≤ (k : Int) := by omega
        have eh1 : (k : Int) < (m.funcs.length : Int) := by omega
        cases h4 : funcOk f m.funcs.length with
        | true =>
          have hall2 := Hd.mk (show (m.funcs.take (k + 1)).all (fun f => funcOk f m.funcs.length) = true by rw [hsn.out, hall.out, h4]; rfl)
          rw [h4] at hck
          clear hfl hsn h4
          go_wp2
          refine wp_region_bel (by kernel_rfl) (by kernel_rfl) ?_
          simp only [List.toList_toArray]
          repeat' first
            | (refine seq_val (by rfl) (by intro W hS; have s0 := (bat hS w.heap.size y1 0).trans y0; have s1 := (bat hS eb hew _).trans g0; have s2 := (bat hS eb hew _).trans g1; have s3 := (bat hS eb hew _).trans g2; go_simp; first | done | rfl) ?_; simp only [Act.put, List.setIfInBounds_toArray, List.set_cons_zero, List.set_cons_succ])
            | (refine seq_skip (by rfl) ?_; simp only [Act.put, List.setIfInBounds_toArray, List.set_cons_zero, List.set_cons_succ])
            | (refine seq_ret 99 _ (by rfl) (by intro W hS; have s0 := (bat hS w.heap.size y1 0).trans y0; have s1 := (bat hS eb hew _).trans g0; have s2 := (bat hS eb hew _).trans g1; have s3 := (bat hS eb hew _).trans g2; go_simp; first | done | rfl) (fun W hS => hck W hS) ?_; simp only [Act.put, List.setIfInBounds_toArray, List.set_cons_zero, List.set_cons_succ])
            | fail
          refine seq_nil (fun W hS => ?_)
          have s0 := (bat hS w.heap.size y1 0).trans y0
          have s1 := (bat hS eb hew _).trans g0
          have s2 := (bat hS eb hew _).trans g1
          have s3 := (bat hS eb hew _).trans g2
          go_wp2
          go_roundw
          case rel => exact ⟨k + 1, by omega, by go_num, hall2, ⟨hbr.out.then hS⟩⟩
          case measure => simp [intOf]; omega
        | false =>
          have hv := (hfl h4).out.symm.trans hR'.out
          subst hv
          rw [h4] at hck
          clear hfl hsn h4
          go_wp2
          refine wp_region_bel (by kernel_rfl) (by kernel_rfl) ?_
          simp only [List.toList_toArray]
          repeat' first
            | (refine seq_val (by rfl) (by intro W hS; have s0 := (bat hS w.heap.size y1 0).trans y0; have s1 := (bat hS eb hew _).trans g0; have s2 := (bat hS eb hew _).trans g1; have s3 := (bat hS eb hew _).trans g2; go_simp; first | done | rfl) ?_; simp only [Act.put, List.setIfInBounds_toArray, List.set_cons_zero, List.set_cons_succ])
            | (refine seq_skip (by rfl) ?_; simp only [Act.put, List.setIfInBounds_toArray, List.set_cons_zero, List.set_cons_succ])
            | (refine seq_ret 99 _ (by rfl) (by intro W hS; have s0 := (bat hS w.heap.size y1 0).trans y0; have s1 := (bat hS eb hew _).trans g0; have s2 := (bat hS eb hew _).trans g1; have s3 := (bat hS eb hew _).trans g2; go_simp; first | done | rfl) (fun W hS => hck W hS) ?_; simp only [Act.put, List.setIfInBounds_toArray, List.set_cons_zero, List.set_cons_succ])
            | fail
          refine seq_nil (fun W hS => ?_)
          have s0 := (bat hS w.heap.size y1 0).trans y0
          have s1 := (bat hS eb hew _).trans g0
          have s2 := (bat hS eb hew _).trans g1
          have s3 := (bat hS eb hew _).trans g2
          go_wp2
          go_ret
          exact ⟨rfl, hBw.out.then hS⟩
      · have e : k = m.funcs.length := by omega
        subst e
        rw [List.take_length] at hall
        have hv := hall.out.symm.trans hR'.out
        subst hv
        go_wp2
        go_ret
        exact ⟨rfl, hBw.out⟩
set_option maxRecDepth 20000 in
set_option maxHeartbeats 4000000 in
theorem s_Checked (m : XMod) (cm : List Value) (w : World) (hm : KMod lm w m cm) : Calls Tryz.prog 46 #[.agg cm.toArray] w (Ret (.int .i64 (checkM m)) w) := by
  have hm' := Hd.mk hm
  obtain ⟨vm, rfl, hrm⟩ := hm
  obtain ⟨Am, cm, rfl, hcap, hlm, hm0⟩ := hrm.sm
  clear hrm
  have hbl := fun o => (Below.refl w.heap.size w).al (Nat.le_refl _) o
  obtain ⟨W0, hW0⟩ : ∃ W0 : World, W0 = (w.alloc (.cells #[.slice Am m.funcs.length cm] 38)) := ⟨_, rfl⟩
  have hB0 : Below w.heap.size w W0 := by rw [hW0]; exact hbl _
  have hz0 : W0.heap.size = w.heap.size + 1 := by rw [hW0]; simp
  have hmc : Hd (W0.cell? ⟨w.heap.size, 0, none⟩ = some (.slice Am m.funcs.length cm)) := ⟨by rw [hW0]; simp⟩
  have hW0' := Hd.mk hW0
  have hB0' := Hd.mk hB0
  have hsh := fun W (hW : Below w.heap.size w W) => s_ShapeOk m _ W (KM.mv hm'.out hW)
  clear hW0 hB0
  generalize hR : checkM m = R
  have hR' := Hd.mk hR
  clear hR
  unfold checkM at hR'
  go_enter Tryz.func46, Tryz.ntmps46
  go_wp2_with fail
  rw [← hW0'.out]
  have x0 := hmc.out
  go_wp2_with fail
  refine (hsh _ hB0'.out).mono ?_; rintro e w1 ⟨rfl, hb1⟩
  replace x0 := (bat hb1 w.heap.size (by omega) 0).trans x0
  have hc1 := Hd.mk hb1
  have hz1 := hb1.size
  clear hb1 hsh
  cases h1 : shapeOk m with
  | false =>
    rw [h1] at hR'
    have hv : 1 = R := hR'.out
    subst hv
    clear h1
    go_wp2
    go_ret
    exact ⟨rfl, hB0'.out.then hc1.out⟩
  | true =>
    rw [h1] at hR'
    have hR2 : Hd (firstBad m m.funcs = R) := ⟨hR'.out⟩
    have hfo := Hd.mk (shape_parts h1).2
    have hqc := Hd.mk (shape_calls h1)
    clear h1 hR'
    go_wp2
    go_loopw [3] (fun s3 wr => ∃ k : Nat, k ≤ m.funcs.length ∧ s3 = .int .i64 k ∧ Hd (∀ j (h : j < m.funcs.length), j < k → checkF m m.funcs[j] = 0) ∧ Hd (Below W0.heap.size W0 wr)) (fun s3 _ => m.funcs.length - (intOf s3).toNat)
    case atStart => exact ⟨0, Nat.zero_le _, rfl, ⟨fun j _ h => absurd h (Nat.not_lt_zero _)⟩, hc1⟩
    case round =>
      obtain ⟨k, hk, rfl, hall, hbr⟩ := hrel
      obtain ⟨wo, rfl⟩ : ∃ wo : World, wo = wr := ⟨_, rfl⟩
      have hBw := Hd.mk (hB0'.out.then hbr.out)
      have hzo := hbr.out.size
      have y0 := (bat hbr.out w.heap.size (by omega) 0).trans hmc.out
      have y1 : w.heap.size < wo.heap.size := by omega
      clear x0
      by_cases hlt : k < m.funcs.length
      · obtain ⟨eb, eo, ecs, hA_, heb, ⟨fv1, fv2, rfl, hr_, hr2_⟩, hat_⟩ := (hm0.out).in0 (hBw.out) (k) (hlt)
        cases hA_
        have hew := Nat.lt_of_lt_of_le heb (hBw.out).size
        have g0 := hat_ 0 _ rfl
        have g1 := hat_ 1 _ rfl
        have g2 := hat_ 2 _ rfl
        clear hat_
        simp at g0 g1 g2
        obtain ⟨Af, cf, rfl, hcf, hlf, hrf⟩ := hr_.sm
        obtain ⟨Ab, cb, rfl, hcb, hlb, hrb⟩ := hr2_.sm
        clear hr_ hr2_
        have hhit := fun h => Hd.mk (firstBad_hit m m.funcs k hlt hall.out h)
        have hnxt := fun (h : checkF m m.funcs[k] = 0) => Hd.mk (show ∀ j (hj : j < m.funcs.length), j < k + 1 → checkF m m.funcs[j] = 0 from fun j hj hjk => by
          by_cases e : j = k
          · subst e; exact h
          · exact hall.out j hj (by omega))
        have hfo1 := Hd.mk (hfo.out m.funcs[k] (List.getElem_mem hlt))
        have hqc1 := Hd.mk (hqc.out m.funcs[k] (List.getElem_mem hlt))
        have hal : Hd (∀ o, Below wo.heap.size wo (wo.alloc o)) := ⟨fun o => (Below.refl wo.heap.size wo).al (Nat.le_refl _) o⟩
        generalize m.funcs[k] = f at *
        have hck := fun W (hW : Below wo.heap.size wo W) => s_l4Func m _ f [.slice Af f.params.length cf, .int .i64 f.ret, .slice Ab f.blocks.length cb] m.funcs.length W (KM.mv hm'.out (hBw.out.then hW)) ⟨_, _, rfl, hrf.out.mv (hBw.out.then hW), hrb.out.mv (hBw.out.then hW)⟩ hfo1.out hqc1.out
        have eh0 : (0 : Int) ≤ (k : Int) := by omega
        have eh1 : (k : Int) < (m.funcs.length : Int) := by omega
        by_cases h4 : checkF m f = 0
        · have hall2 := hnxt h4
          rw [h4] at hck
          clear hhit hnxt h4
          go_wp2
          refine wp_region_bel (by kernel_rfl) (by kernel_rfl) ?_
          simp only [List.toList_toArray]
          repeat' first
            | (refine seq_val (by rfl) (by intro W hS; have s0 := (bat hS w.heap.size y1 0).trans y0; have s1 := (bat hS eb hew _).trans g0; have s2 := (bat hS eb hew _).trans g1; have s3 := (bat hS eb hew _).trans g2; go_simp; first | done | rfl) ?_; simp only [Act.put, List.setIfInBounds_toArray, List.set_cons_zero, List.set_cons_succ])
            | (refine seq_skip (by rfl) ?_; simp only [Act.put, List.setIfInBounds_toArray, List.set_cons_zero, List.set_cons_succ])
            | (refine seq_ret 75 _ (by rfl) (by intro W hS; have s0 := (bat hS w.heap.size y1 0).trans y0; have s1 := (bat hS eb hew _).trans g0; have s2 := (bat hS eb hew _).trans g1; have s3 := (bat hS eb hew _).trans g2; go_simp; first | done | rfl) (fun W hS => hck W hS) ?_; simp only [Act.put, List.setIfInBounds_toArray, List.set_cons_zero, List.set_cons_succ])
            | fail
          refine seq_nil (fun W hS => ?_)
          have s0 := (bat hS w.heap.size y1 0).trans y0
          have s1 := (bat hS eb hew _).trans g0
          have s2 := (bat hS eb hew _).trans g1
          have s3 := (bat hS eb hew _).trans g2
          go_wp2
          go_roundw
          case rel => exact ⟨k + 1, by omega, by go_num, hall2, ⟨hbr.out.then hS⟩⟩
          case measure => simp [intOf]; omega
        · have hv := (hhit h4).out.symm.trans hR2.out
          clear hhit hnxt
          have d4 := beqF h4
          have d5 : (checkF m f != 0) = true := by simpa using h4
          generalize checkF m f = q at *
          subst hv
          clear h4
          go_wp2
          refine wp_region_bel (by kernel_rfl) (by kernel_rfl) ?_
          simp only [List.toList_toArray]
          repeat' first
            | (refine seq_val (by rfl) (by intro W hS; have s0 := (bat hS w.heap.size y1 0).trans y0; have s1 := (bat hS eb hew _).trans g0; have s2 := (bat hS eb hew _).trans g1; have s3 := (bat hS eb hew _).trans g2; go_simp; first | done | rfl) ?_; simp only [Act.put, List.setIfInBounds_toArray, List.set_cons_zero, List.set_cons_succ])
            | (refine seq_skip (by rfl) ?_; simp only [Act.put, List.setIfInBounds_toArray, List.set_cons_zero, List.set_cons_succ])
            | (refine seq_ret 75 _ (by rfl) (by intro W hS; have s0 := (bat hS w.heap.size y1 0).trans y0; have s1 := (bat hS eb hew _).trans g0; have s2 := (bat hS eb hew _).trans g1; have s3 := (bat hS eb hew _).trans g2; go_simp; first | done | rfl) (fun W hS => hck W hS) ?_; simp only [Act.put, List.setIfInBounds_toArray, List.set_cons_zero, List.set_cons_succ])
            | fail
          refine seq_nil (fun W hS => ?_)
          have s0 := (bat hS w.heap.size y1 0).trans y0
          have s1 := (bat hS eb hew _).trans g0
          have s2 := (bat hS eb hew _).trans g1
          have s3 := (bat hS eb hew _).trans g2
          go_wp2
          go_ret
          exact ⟨rfl, hBw.out.then hS⟩
      · have e : k = m.funcs.length := by omega
        subst e
        have hv := (firstBad_none m m.funcs fun j hj => hall.out j hj hj).symm.trans hR2.out
        subst hv
        go_wp2
        go_ret
        exact ⟨rfl, hBw.out⟩
open Go.RowKit Go.ChangeShapes Go.WideShapes
theorem u8_wf {q : Int} (h : (Lit.int .u8 q).wf = true) : 0 ≤ q ∧ q < 256 := by
  have e1 : IntKind.u8.min = 0 := by decide
  have e2 : IntKind.u8.max = 255 := by decide
  have h' : (decide (IntKind.u8.min ≤ q) && decide (q ≤ IntKind.u8.max)) = true := h
  rw [e1, e2, Bool.and_eq_true, decide_eq_true_eq, decide_eq_true_eq] at h'
  omega
theorem op_byte {H : Type} {enc : TypeId × Value → H} {W : World} : Op enc W 5 1 KB := fun n cs y h => by
  obtain ⟨q, rfl, _, hw⟩ := DataW.trod_int Tryz.underlying5 h
  obtain ⟨q1, q2⟩ := u8_wf hw
  exact ⟨q, ⟨rfl, q1, q2⟩, rfl⟩
theorem cells_byte : Tryz.prog.cellsOf 5 = 1 := by kernel_rfl
theorem op_bytes {H : Type} {enc : TypeId × Value → H} {W : World} {n : Nat} {cs : List Value} {y : DataW H × List MemPlace} (h : DataW.trod enc Tryz.prog W 0 (fun _ => true) true n 22 cs = some y) : ∃ v xs, cs = [v] ∧ Rd lw 1 KB W v xs := op_slice Tryz.underlying22 cells_byte (by omega) op_byte h
end Go.Proofs.YtkcgejbnhpccdaaGreat
