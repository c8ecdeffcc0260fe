import Derived.Test.YtkcgejbnhpccdaaGreatT22
import Derived.Test.YtkcgejbnhpccdaaGreatT12
import Derived.Test.YtkcgejbnhpccdaaGreatT19
import Derived.Test.YtkcgejbnhpccdaaGreatT10
import Derived.Test.YtkcgejbnhpccdaaGreatT07
import Derived.Test.YtkcgejbnhpccdaaGreatT11
set_option linter.unusedSimpArgs false
set_option linter.unusedVariables false
namespace Go.Proofs.YtkcgejbnhpccdaaGreat
open Go.RowKit
def InsR (k : Int) (D D' : GD) : Prop := ∃ (vIn : Value) (nIn : Nat) (cIn : List Value) (next : Int) (vids vws : Value) (nid : Nat), D' = {D with vIn := vIn, nIn := nIn, cIn := cIn, next := next, vids := vids, vws := vws, nid := nid} ∧ D.next ≤ next ∧ next ≤ D.next + k ∧ (nIn : Int) - D.nIn ≤ next - D.next ∧ (nid : Int) - D.nid ≤ next - D.next
def Nm (D : GD) : Prop := (D.nIn : Int) ≤ D.next ∧ (D.nPh : Int) ≤ D.next ∧ (D.nid : Int) ≤ D.next
theorem InsR.refl (D : GD) : InsR 0 D D := ⟨D.vIn, D.nIn, D.cIn, D.next, D.vids, D.vws, D.nid, rfl, by omega, by omega, by omega, by omega⟩
theorem InsR.trans {k k' : Int} {D D' D'' : GD} (h : InsR k D D') (h' : InsR k' D' D'') : InsR (k + k') D D'' := by
  obtain ⟨vIn, nIn, cIn, next, vids, vws, nid, rfl, h1, h2, h3, h4⟩ := h
  obtain ⟨vIn', nIn', cIn', next', vids', vws', nid', rfl, i1, i2, i3, i4⟩ := h'
  simp only at i1 i2 i3 i4
  exact ⟨vIn', nIn', cIn', next', vids', vws', nid', rfl, by omega, by omega, by omega, by omega⟩
theorem InsR.mono {k k' : Int} {D D' : GD} (h : InsR k D D') (hk : k ≤ k') : InsR k' D D' := by
  obtain ⟨vIn, nIn, cIn, next, vids, vws, nid, rfl, h1, h2, h3, h4⟩ := h
  exact ⟨vIn, nIn, cIn, next, vids, vws, nid, rfl, h1, by omega, h3, h4⟩
theorem InsR.next {k : Int} {D D' : GD} (h : InsR k D D') : D.next ≤ D'.next ∧ D'.next ≤ D.next + k := by
  obtain ⟨vIn, nIn, cIn, next, vids, vws, nid, rfl, h1, h2, h3, h4⟩ := h
  exact ⟨h1, h2⟩
theorem InsR.nm {k : Int} {D D' : GD} (h : InsR k D D') (hn : Nm D) : Nm D' := by
  obtain ⟨vIn, nIn, cIn, next, vids, vws, nid, rfl, h1, h2, h3, h4⟩ := h
  obtain ⟨n1, n2, n3⟩ := hn
  exact ⟨by simp only; omega, by simp only; omega, by simp only; omega⟩
def instC (i : XInst) (v : Value) : List Value := [.int .i64 i.op, .int .i64 i.w, .int .i64 i.a, .int .i64 i.b, .int .i64 i.c, .int .i64 i.imm, v]
def RetG (k : Int) (C : GC) (D : GD) (W : World) (e : Ending) (w' : World) : Prop := ∃ q D', e = .returned (.int .i64 q) ∧ GP C D D' W w' ∧ InsR k D D' ∧ Nm D'
def RetG0 (k : Int) (C : GC) (D : GD) (W : World) (e : Ending) (w' : World) : Prop := ∃ D', e = .returned (.tuple #[]) ∧ GP C D D' W w' ∧ InsR k D D' ∧ Nm D'
set_option maxRecDepth 20000 in
set_option maxHeartbeats 4000000 in
theorem s_put (C : GC) (D : GD) (i : XInst) (A : Option Addr) (n c : Nat) (W : World) (h : GS C D W) (hm : Nm D) (hn : D.next + 1 ≤ 900) (hq : Bx (GE C D) (QInst (instC i (.slice A n c))) W) (h0 : (i.op = 24 ∨ i.op = 25) → i.w = 0) : Calls Tryz.prog 156 #[.pointer (some ⟨C.gg, 0, none⟩), instV i (.slice A n c)] W (RetG 1 C D W) := by
  obtain ⟨hm1, hm2, hm3⟩ := hm
  have hn0 := h.n0
  have hl2 := fun W => s_l2Width i (.slice A n c) W h0
  obtain ⟨Wb, hWb⟩ : ∃ Wb : World, Wb = W.alloc (.cells #[.int .i64 i.op, .int .i64 i.w, .int .i64 i.a, .int .i64 i.b, .int .i64 i.c, .int .i64 i.imm, .slice A n c] 26) := ⟨_, rfl⟩
  have hBb : Below W.heap.size W Wb := by rw [hWb]; exact (Below.refl _ _).al (Nat.le_refl _) _
  have hzb : W.heap.size < Wb.heap.size := by rw [hWb]; simp
  have hbx : Hd (∀ j u, (instC i (.slice A n c))[j]? = some u → Wb.cell? ⟨W.heap.size, j, none⟩ = some u) := ⟨fun j u hu => by rw [hWb]; exact new_cell _ _ _ rfl j u (by simpa [instC] using hu)⟩
  have g1 := Hd.mk (h.mv hBb)
  have g2 := Hd.mk (g1.out.trans (g1.out.gs.mv (W' := Wb.drew) (Below.refl _ _).drew))
  have c5 := g1.out.gs.at 5
  simp [GD.cells] at c5
  have hgl : C.gg < Wb.heap.size := g1.out.gs.lt
  have hqb := Hd.mk (hq.go g1.out.fr fun _ e => .inl e)
  have hWb' := Hd.mk hWb
  have hal := Hd.mk fun (o : Obj) => (Below.refl Wb.drew.heap.size Wb.drew).al (Nat.le_refl _) o
  have hoI : Hd (Wb.drew.ownsRow C.fl 26 7 D.vIn D.nIn D.cIn) := ⟨g2.out.gs.oIn⟩
  have hfl : C.fl ≤ Wb.heap.size := by have h7 := g1.out.gs.hgg; omega
  have hrw := Hd.mk (g2.out.gs.out g2.out.gs.oIn (by decide) (by decide))
  have hone : Hd (∀ u ∈ instC i (.slice A n c), u.oneCell' = true) := ⟨by
    intro u hu
    simp only [instC, List.mem_cons, List.not_mem_nil, or_false] at hu
    rcases hu with rfl | rfl | rfl | rfl | rfl | rfl | rfl <;> rfl⟩
  have b0 := hbx.out 0 _ rfl
  have b1 := hbx.out 1 _ rfl
  have b2 := hbx.out 2 _ rfl
  have b3 := hbx.out 3 _ rfl
  have b4 := hbx.out 4 _ rfl
  have b5 := hbx.out 5 _ rfl
  have b6 := hbx.out 6 _ rfl
  have hnI : D.nIn + 1 ≤ 1000 := by omega
  have hnd : D.nid + 1 ≤ 1000 := by omega
  have hle : W.heap.size < Wb.drew.heap.size := hzb
  have hkI := Hd.mk fun k (hk : D.vIn.ownBlock = some k) => (own_blk h.oIn k hk).1
  have hq' := Hd.mk hq
  have hglw := h.lt
  clear hWb h hq hBb
  unfold instV
  go_enter Tryz.func156, Tryz.ntmps156
  go_wp2
  rw [← hWb'.out]
  refine wp_via (fun a a' Wa => ∃ (u6 u7 u8 u9 u10 u11 u12 u13 u14 u15 u16 u17 v' : Value), a' = ((((((((((((a.put (some 6) u6).put (some 7) u7).put (some 8) u8).put (some 9) u9).put (some 10) u10).put (some 11) u11).put (some 12) u12).put (some 13) u13).put (some 14) u14).put (some 15) u15).put (some 16) u16).put (some 17) u17) ∧ Hd (GP C D {D with vIn := v', nIn := D.nIn + 1, cIn := D.cIn ++ instC i (.slice A n c)} W Wa) ∧ Hd (∀ j, Wa.cell? ⟨W.heap.size, j, none⟩ = Wb.cell? ⟨W.heap.size, j, none⟩) ∧ Hd (W.heap.size < Wa.heap.size)) ?_ ?_
  · go_region_law
      ((refine step_appE_at (by rfl) (.tmp 11) (.tmp 13) (by rfl) Tryz.underlying27 infoInst rfl (by decide) (by decide) C.fl D.vIn D.nIn D.cIn (by rfl) (own_mv hoI.out (hal.out _)) _ _ (by rfl) (instC i (.slice A n c)) rfl (fun j u hu => new_cell Wb.drew #[.int .i64 i.op, .int .i64 i.w, .int .i64 i.a, .int .i64 i.b, .int .i64 i.c, .int .i64 i.imm, .slice A n c] 26 rfl j u (by simpa [instC] using hu)) hone.out (by omega) (by simp; omega) ?_
        intro v' w4 ho4 hg4 hn4
        obtain ⟨Av, cv, rfl, -, -⟩ := own_shape ho4
        have hg3 := g2.out.gs.mv (hal.out (.cells #[.int .i64 i.op, .int .i64 i.w, .int .i64 i.a, .int .i64 i.b, .int .i64 i.c, .int .i64 i.imm, .slice A n c] 26))
        have h4c := hg3.gs.at' hg4 (fun e => (hrw.out _ e).1 rfl)
        have f4 := (row_facts h4c).2
        have d5 := (row_facts h4c).1 5
        simp [GD.cells] at d5
        have hgp := Hd.mk (g2.out.trans hg3)
        have h4' := Hd.mk h4c
        have ho4' := Hd.mk ho4
        have hg4' := Hd.mk hg4
        have hn4' := Hd.mk hn4
        have hx4 : Hd (∀ j, w4.cell? ⟨W.heap.size, j, none⟩ = Wb.cell? ⟨W.heap.size, j, none⟩) := ⟨fun j => (World.cell?_of_block (a := ⟨W.heap.size, j, none⟩) (hg4.block _ (by first | omega | (simp; done) | (simp; omega)) (fun e => absurd (hkI.out _ e.symm) (Nat.lt_irrefl _)))).trans (bat (hal.out _) W.heap.size hle j)⟩
        clear h4c ho4 hg4 hn4 hg3))
    all_goals
      unfold Exit.then
      go_simp
      have hz9 : W.heap.size < w4.heap.size := by
        have h9 := hg4'.out.size
        simp at h9
        omega
      have hx9 := fun j => (World.cell?_of_block (a := ⟨W.heap.size, j, none⟩) (Below.heap_setCell w4 ⟨C.gg, 5, none⟩ (.slice Av (D.nIn + 1) cv) W.heap.size (by show W.heap.size ≠ C.gg; omega))).trans (hx4.out j)
      refine ⟨⟨.slice Av (D.nIn + 1) cv, Hd.mk ?_⟩, by first | exact Hd.mk hz9 | exact ⟨Hd.mk hx9, Hd.mk hz9⟩⟩
      · exact hgp.out.trans (hgp.out.gs.insts _ (instC i (.slice A n c)) hg4'.out ho4'.out hn4'.out (hq'.out.go hgp.out.fr fun _ e => .inl e) rfl (Fr.set _ _ _ _) ((heap_set h4'.out).trans (by simp [GD.cells])) hnI)
  · rintro a' Wa ⟨u6, u7, u8, u9, u10, u11, u12, u13, u14, u15, u16, u17, v', rfl, hga, hxa, hza⟩
    have x0 := (hxa.out 0).trans b0
    have x1 := (hxa.out 1).trans b1
    have x2 := (hxa.out 2).trans b2
    have x3 := (hxa.out 3).trans b3
    have x4 := (hxa.out 4).trans b4
    have x5 := (hxa.out 5).trans b5
    have x6 := (hxa.out 6).trans b6
    have k10 := hga.out.gs.at 10
    simp [GD.cells] at k10
    have fz := hga.out.gs.fz
    have hlta := hga.out.gs.lt
    clear b0 b1 b2 b3 b4 b5 b6 hle c5 hgl hzb hglw hfl
    simp only [Act.put, List.setIfInBounds_toArray, List.set_cons_zero, List.set_cons_succ]
    unfold instV at hl2
    obtain ⟨wt, hwt⟩ : ∃ wt, wt = widthOf i := ⟨_, rfl⟩
    rw [← hwt] at hl2
    clear hwt
    go_wp2_with fail
    refine (hl2 Wa).mono ?_; rintro e w5 ⟨rfl, hb5⟩
    have hg5 := Hd.mk (hga.out.trans (hga.out.gs.mv hb5))
    have k10_5 := hg5.out.gs.at 10
    simp [GD.cells] at k10_5
    have fz5 := hg5.out.gs.fz
    have hlt5 := hg5.out.gs.lt
    clear k10 fz hlta x0 x1 x2 x3 x4 x5 x6 hb5
    by_cases hw : wt = 0
    · subst hw
      go_wp2
      go_ret
      exact ⟨_, {D with vIn := v', nIn := D.nIn + 1, cIn := D.cIn ++ instC i (.slice A n c), next := D.next + 1}, rfl, hg5.out.trans (hg5.out.gs.upd D.tm D.ret (D.next + 1) D.vids D.vws D.nid (Fr.set _ _ _ _) ((heap_set hg5.out.gs.cell).trans (by simp [GD.cells])) hg5.out.gs.eI hg5.out.gs.eW hg5.out.gs.wR (by first | omega | (simp only; omega)) (by omega) (by first | omega | (simp only; omega))), ⟨_, _, _, D.next + 1, _, _, _, rfl, by omega, by omega, by omega, by omega⟩, ⟨by first | omega | (simp only; omega), by first | omega | (simp only; omega), by first | omega | (simp only; omega)⟩⟩
    · have tw := beqF hw
      have hadd := fun W' hW' => s_add C {D with vIn := v', nIn := D.nIn + 1, cIn := D.cIn ++ instC i (.slice A n c)} wt W' hW' (by first | omega | (simp only; omega)) (by first | omega | (simp only; omega))
      go_wp2_with fail
      refine (hadd _ hg5.out.gs).mono ?_; rintro e w6 ⟨q, vids, vws, rfl, hg6⟩
      have hg6' := Hd.mk hg6
      clear hg6 hadd
      go_wp2
      go_ret
      exact ⟨_, {D with vIn := v', nIn := D.nIn + 1, cIn := D.cIn ++ instC i (.slice A n c), next := D.next + 1, vids := vids, vws := vws, nid := D.nid + 1}, rfl, hg5.out.trans hg6'.out, ⟨_, _, _, D.next + 1, _, _, _, rfl, by omega, by omega, by omega, by first | omega | (simp only; omega)⟩, ⟨by first | omega | (simp only; omega), by first | omega | (simp only; omega), by first | omega | (simp only; omega)⟩⟩
set_option maxRecDepth 20000 in
set_option maxHeartbeats 4000000 in
theorem s_phi (C : GC) (D : GD) (wd : Int) (A : Option Addr) (n c : Nat) (W : World) (h : GS C D W) (hm : Nm D) (hn : D.next + 1 ≤ 900) (hq : Bx (GE C D) (QPhi [.int .i64 wd, .slice A n c]) W) : Calls Tryz.prog 160 #[.pointer (some ⟨C.gg, 0, none⟩), .int .i64 wd, .slice A n c] W (fun e w' => ∃ q v' vids vws, e = .returned (.int .i64 q) ∧ GP C D {D with vPh := v', nPh := D.nPh + 1, cPh := D.cPh ++ [.int .i64 wd, .slice A n c], next := D.next + 1, vids := vids, vws := vws, nid := D.nid + 1} W w') := by
  obtain ⟨hm1, hm2, hm3⟩ := hm
  have hn0 := h.n0
  have c4 := h.at 4
  simp [GD.cells] at c4
  have hgl := h.lt
  have hal := Hd.mk fun (o : Obj) => (Below.refl W.heap.size W).al (Nat.le_refl _) o
  have hoP := Hd.mk h.oPh
  have hfl : C.fl ≤ W.heap.size := by have h7 := h.hgg; omega
  have hrw := Hd.mk (h.out h.oPh (by decide) (by decide))
  have hone : Hd (∀ u ∈ [Value.int .i64 wd, .slice A n c], u.oneCell' = true) := ⟨by
    intro u hu
    simp only [List.mem_cons, List.not_mem_nil, or_false] at hu
    rcases hu with rfl | rfl <;> rfl⟩
  have hnP : D.nPh + 1 ≤ 1000 := by omega
  have hh := Hd.mk h
  have hq' := Hd.mk hq
  clear h hq
  go_enter Tryz.func160, Tryz.ntmps160
  go_wp2_with (at_builtin; refine appE_at rfl _ _ rfl Tryz.underlying30 infoPhi rfl (by decide) (by decide) C.fl D.vPh D.nPh D.cPh rfl (own_mv hoP.out (hal.out _)) _ _ rfl [.int .i64 wd, .slice A n c] rfl (fun j u hu => new_cell W #[.int .i64 wd, .slice A n c] 165 rfl j u (by simpa using hu)) hone.out (by omega) (by simp; omega) ?_)
  intro v' w4 ho4 hg4 hn4
  obtain ⟨Av, cv, rfl, -, -⟩ := own_shape ho4
  have hg3 := hh.out.mv (hal.out (.cells #[.int .i64 wd, .slice A n c] 165))
  have h4c := hg3.gs.at' hg4 (fun e => (hrw.out _ e).1 rfl)
  have f4 := (row_facts h4c).2
  have d4 := (row_facts h4c).1 4
  simp [GD.cells] at d4
  have hgp := Hd.mk (hg3.trans (hg3.gs.phis _ [.int .i64 wd, .slice A n c] hg4 ho4 (by rw [World.size_alloc]; exact hn4) (hq'.out.go hg3.fr fun _ e => .inl e) rfl (Fr.set _ C.gg 4 (.slice Av (D.nPh + 1) cv)) ((heap_set h4c).trans (by simp [GD.cells])) hnP))
  clear h4c ho4 hg4 hn4 hg3
  have hadd := fun W' hW' => s_add C {D with vPh := .slice Av (D.nPh + 1) cv, nPh := D.nPh + 1, cPh := D.cPh ++ [.int .i64 wd, .slice A n c]} wd W' hW' (by first | omega | (simp only; omega)) (by first | omega | (simp only; omega))
  go_wp2_with fail
  refine (hadd _ hgp.out.gs).mono ?_; rintro e w6 ⟨q, vids, vws, rfl, hg6⟩
  have hg6' := Hd.mk hg6
  clear hg6 hadd
  go_wp2
  go_ret
  exact ⟨_, _, vids, vws, rfl, hgp.out.trans hg6'.out⟩
set_option maxRecDepth 40000 in
set_option maxHeartbeats 8000000 in
theorem s_Seen (x : XRes) (cs : List Value) (w : World) (hx : KRes w x cs) : Calls Tryz.prog 82 #[.agg cs.toArray] w (RetRes (seenR x) w) := by
  obtain ⟨v1, rfl, r1⟩ := hx
  obtain ⟨A1, c1, rfl, -, hl1, -⟩ := r1.sm
  have hc := fun W hW => s_l1Copy (.slice A1 x.out.length c1) x.out W (r1.mv hW)
  clear r1
  obtain ⟨W0, hW0⟩ : ∃ W0 : World, W0 = (w.alloc (.cells #[.int .i64 x.code, .int .i64 x.value, .slice A1 x.out.length c1, .string x.mem, .int .i64 x.steps] 40)).alloc (.cells #[.int .i64 0, .int .i64 0, .slice none 0 0, .string ⟨#[]⟩, .int .i64 0] 40) := ⟨_, rfl⟩
  have hB0 : Hd (Below w.heap.size w W0) := ⟨by rw [hW0]; exact ((Below.refl w.heap.size w).al (Nat.le_refl _) _).al (by simp) _⟩
  have hz0 : W0.heap.size = w.heap.size + 2 := by rw [hW0]; simp
  have hzo : Hd (W0.heap[w.heap.size]? = some (.cells #[.int .i64 x.code, .int .i64 x.value, .slice A1 x.out.length c1, .string x.mem, .int .i64 x.steps] 40 (0, 0))) := ⟨by rw [hW0]; exact heap_old (heap_new _ _ _ _ rfl) (by simp)⟩
  have hro : Hd (W0.heap[w.heap.size + 1]? = some (.cells #[.int .i64 0, .int .i64 0, .slice none 0 0, .string ⟨#[]⟩, .int .i64 0] 40 (0, 0))) := ⟨by rw [hW0]; exact heap_new _ _ _ _ (by simp)⟩
  have hW0' := Hd.mk hW0
  clear hW0
  go_enter Tryz.func82, Tryz.ntmps82
  go_wp2
  rw [← hW0'.out]
  refine wp_region_hos (fun W => Below W0.heap.size W0 W) (fun W W' => Below W.heap.size W W') [.k (.pointer (some ⟨w.heap.size, 0, none⟩)), .k (.int .i64 x.code), .k (.pointer (some ⟨w.heap.size, 1, none⟩)), .k (.int .i64 x.value), .k (.pointer (some ⟨w.heap.size, 2, none⟩)), .k (.slice A1 x.out.length c1), .n (fun v => ∃ A c, v = .slice A x.out.length c) (fun W v => W.ownsRow W0.heap.size 2 1 (v) x.out.length (x.out.map (Value.int .i64))), .k (.pointer (some ⟨w.heap.size, 3, none⟩)), .k (.string x.mem), .n (fun v => ∃ A c, v = .agg #[.int .i64 x.code, .int .i64 x.value, .slice A x.out.length c, .string x.mem, .int .i64 0]) (fun W v => ∃ A c, v = .agg #[.int .i64 x.code, .int .i64 x.value, .slice A x.out.length c, .string x.mem, .int .i64 0] ∧ W.ownsRow W0.heap.size 2 1 (.slice A x.out.length c) x.out.length (x.out.map (Value.int .i64)))] (by kernel_rfl) (by kernel_rfl) (by kernel_rfl) (by repeat (first | exact Below.refl _ _ | assumption | refine Below.drew ?_ | refine Below.al ?_ (by first | exact Nat.le_refl _ | assumption | omega | (simp; done) | (simp; omega)) _)) (fun _ => .refl _ _) ?hex ?hst ?hrun
  case hex =>
    simp only [ExS, Sp.pure]
    repeat' first | exact trivial | refine And.intro ?_ ?_ | exact ⟨_, rfl⟩ | exact ⟨_, none, 0, rfl⟩
  case hst =>
    simp only [StS, Sp.inW]
    repeat' first | exact trivial | refine And.intro ?_ ?_ | (intro W W' v hS hR hi; first | exact trivial | exact own_mv hi hR | (obtain ⟨A, c, rfl, h1⟩ := hi; exact ⟨A, c, rfl, own_mv h1 hR⟩))
  simp only [List.toList_toArray]
  refine hos_k (fun W hS hk => ?_) ?_
  · clear hk
    go_simp
    first | done | rfl
  simp only [Act.put, List.setIfInBounds_toArray, List.set_cons_zero, List.set_cons_succ]
  refine hos_k (fun W hS hk => ?_) ?_
  · clear hk
    have j0 := (row_facts ((hS.block w.heap.size (by omega)).trans hzo.out)).1 0
    simp at j0
    go_simp
    first | done | rfl
  simp only [Act.put, List.setIfInBounds_toArray, List.set_cons_zero, List.set_cons_succ]
  refine hos_k (fun W hS hk => ?_) ?_
  · clear hk
    go_simp
    first | done | rfl
  simp only [Act.put, List.setIfInBounds_toArray, List.set_cons_zero, List.set_cons_succ]
  refine hos_k (fun W hS hk => ?_) ?_
  · clear hk
    have j0 := (row_facts ((hS.block w.heap.size (by omega)).trans hzo.out)).1 1
    simp at j0
    go_simp
    first | done | rfl
  simp only [Act.put, List.setIfInBounds_toArray, List.set_cons_zero, List.set_cons_succ]
  refine hos_k (fun W hS hk => ?_) ?_
  · clear hk
    go_simp
    first | done | rfl
  simp only [Act.put, List.setIfInBounds_toArray, List.set_cons_zero, List.set_cons_succ]
  refine hos_k (fun W hS hk => ?_) ?_
  · clear hk
    have j0 := (row_facts ((hS.block w.heap.size (by omega)).trans hzo.out)).1 2
    simp at j0
    go_simp
    first | done | rfl
  simp only [Act.put, List.setIfInBounds_toArray, List.set_cons_zero, List.set_cons_succ]
  refine hos_n (fun W hS hk => ?_) ?_
  · refine opH_call 119 #[.slice A1 x.out.length c1] ?_ ?_
    · clear hk
      go_simp
      first | done | rfl
    · refine (hc _ (hB0.out.then hS)).mono ?_
      rintro e w' ⟨v, rfl, ho, hb1⟩
      obtain ⟨A2, c2, rfl, -, -⟩ := own_shape ho
      exact ⟨_, rfl, ⟨A2, c2, by simp⟩, by simpa using own_lower ho hS.size, hS.then hb1, hb1⟩
  rintro _ ⟨A2, c2, rfl⟩
  simp only [Act.put, List.setIfInBounds_toArray, List.set_cons_zero, List.set_cons_succ]
  refine hos_k (fun W hS hk => ?_) ?_
  · clear hk
    go_simp
    first | done | rfl
  simp only [Act.put, List.setIfInBounds_toArray, List.set_cons_zero, List.set_cons_succ]
  refine hos_k (fun W hS hk => ?_) ?_
  · clear hk
    have j0 := (row_facts ((hS.block w.heap.size (by omega)).trans hzo.out)).1 3
    simp at j0
    go_simp
    first | done | rfl
  simp only [Act.put, List.setIfInBounds_toArray, List.set_cons_zero, List.set_cons_succ]
  refine hos_n (fun W hS hk => ?_) ?_
  · obtain ⟨hk1, -⟩ := hk
    have ho := hk1 (by kernel_rfl)
    refine opH_val (.agg #[.int .i64 x.code, .int .i64 x.value, .slice A2 x.out.length c2, .string x.mem, .int .i64 0]) W ?_ ⟨⟨A2, c2, rfl⟩, ⟨A2, c2, rfl, ho⟩, hS, .refl _ _⟩
    clear hk1 ho
    go_simp
    first | done | rfl
  rintro _ ⟨A3, c3, rfl⟩
  simp only [Act.put, List.setIfInBounds_toArray, List.set_cons_zero, List.set_cons_succ]
  refine hos_end (fun W hS hal => ?_)
  obtain ⟨-, ⟨A, c, e, ho⟩, -⟩ := hal
  cases e
  have hrb := (row_facts ((hS.block (w.heap.size + 1) (by omega)).trans hro.out))
  have hsz := hS.size
  have ho' := Hd.mk ho
  have hS' := Hd.mk hS
  clear ho hS
  have y0 := hrb.1 0
  have y1 := hrb.1 1
  have y2 := hrb.1 2
  have y3 := hrb.1 3
  have y4 := hrb.1 4
  have yf := hrb.2
  simp at y0 y1 y2 y3 y4
  clear hrb
  refine tail_skip rfl _ (by go_simp; first | done | rfl) ?_
  simp only [Act.put, List.setIfInBounds_toArray, List.set_cons_zero, List.set_cons_succ]
  go_wp2
  refine bodyPost_ret (v := .agg #[.int .i64 x.code, .int .i64 x.value, .slice A3 x.out.length c3, .string x.mem, .int .i64 0]) (by simp [results, Tryz.results82, go_sem, y0, y1, y2, y3, y4]) rfl ⟨_, rfl, own_lower (own_abv ho'.out (Nat.le_refl _) ?h1) (by show w.heap.size ≤ W0.heap.size; omega), ?h2⟩
  case h1 =>
    repeat (refine Abv.setCell ?_ (by show w.heap.size + 1 < W0.heap.size; omega) _)
    exact Abv.refl _ _
  case h2 =>
    repeat (refine Below.setCell ?_ (by show w.heap.size ≤ w.heap.size + 1; omega) _)
    exact hB0.out.then hS'.out
theorem funcOk_spec (f : XFunc) (funcs : Int) : funcOk f funcs = ((decide (f.params.length ≤ 4) && (widthOk f.ret && (inR f.blocks.length 1 10 && decide (countOf f ≤ 60)))) && (f.params.all widthOk && f.blocks.all (blockOk (countOf f) funcs f.blocks.length))) := by
  simp only [funcOk]
  generalize decide (f.params.length ≤ 4) = a
  generalize widthOk f.ret = b
  generalize inR f.blocks.length 1 10 = c
  generalize f.params.all widthOk = d
  generalize decide (countOf f ≤ 60) = e
  cases a <;> cases b <;> cases c <;> cases d <;> cases e <;> simp
set_option maxHeartbeats 8000000 in
set_option maxRecDepth 100000 in
theorem s_l2Func (f : XFunc) (cs : List Value) (funcs : Int) (w : World) (hf : KFunc lm w f cs) (hf0 : 0 ≤ funcs) (hf1 : funcs ≤ 1048576) :
    Calls Tryz.prog 99 #[.agg cs.toArray, .int .i64 funcs] w (Ret (.bool (funcOk f funcs)) w) := by
  have hR := Hd.mk (funcOk_spec f funcs)
  have hcount := fun W hW => s_CountOf f cs W (KM.mv hf hW)
  have hc0 := countOf_nn f
  obtain ⟨v1, v2, rfl, hp, hb⟩ := hf
  obtain ⟨A1, c1, rfl, -, hl1, hp0⟩ := hp.sm
  obtain ⟨A2, c2, rfl, -, hl2, hb0⟩ := hb.sm
  have hbl := fun o => (Below.refl w.heap.size w).al (Nat.le_refl _) o
  clear hb hp
  generalize funcOk f funcs = R at *
  generalize countOf f = ids at *
  generalize hpp : f.params = pl at *
  generalize f.ret = r at *
  generalize f.blocks = l at *
  clear hpp
  cases hpre : (decide (pl.length ≤ 4) && (widthOk r && (inR l.length 1 10 && decide (ids ≤ 60)))) with
  | false =>
    have hR2 := hR.out
    rw [hpre] at hR2
    simp at hR2
    subst hR2
    by_cases h1 : 4 < pl.length
    · have d1 : decide (4 < (pl.length : Int)) = true := by simp; omega
      clear hpre
      go_enter Tryz.func99, Tryz.ntmps99
      go_wp2_with fail
      refine (hcount _ (hbl _)).mono ?_; rintro e w1 ⟨rfl, hb1⟩
      have k0 := bat hb1 w.heap.size (by simp)
      simp at k0
      go_wp2
      go_ret
      exact ⟨rfl, (hbl _).then hb1⟩
    have d1 : decide (4 < (pl.length : Int)) = false := by simp; omega
    rw [show decide (pl.length ≤ 4) = true by simp; omega] at hpre
    simp only [Bool.true_and] at hpre
    cases hw : widthOk r with
    | false =>
      clear hpre
      go_enter Tryz.func99, Tryz.ntmps99
      go_wp2_with fail
      refine (hcount _ (hbl _)).mono ?_; rintro e w1 ⟨rfl, hb1⟩
      have k0 := bat hb1 w.heap.size (by simp)
      simp at k0
      go_wp2_with (go_at_call 105; refine (s_WidthOk _ _).mono ?_; rintro e w' ⟨rfl, rfl⟩)
      go_ret
      exact ⟨rfl, (hbl _).then hb1⟩
    | true =>
      rw [hw] at hpre
      simp only [Bool.true_and] at hpre
      cases hn : inR l.length 1 10 with
      | false =>
        clear hpre
        go_enter Tryz.func99, Tryz.ntmps99
        go_wp2_with fail
        refine (hcount _ (hbl _)).mono ?_; rintro e w1 ⟨rfl, hb1⟩
        have k0 := bat hb1 w.heap.size (by simp)
        simp at k0
        go_wp2_with (first | (go_at_call 105; refine (s_WidthOk _ _).mono ?_; rintro e w' ⟨rfl, rfl⟩) | (go_at_call 47; refine (s_l1In _ _ _ _).mono ?_; rintro e w' ⟨rfl, rfl⟩))
        go_ret
        exact ⟨rfl, (hbl _).then hb1⟩
      | true =>
        rw [hn] at hpre
        simp only [Bool.true_and] at hpre
        have d2 : decide (60 < ids) = true := by simp at hpre ⊢; omega
        clear hpre
        go_enter Tryz.func99, Tryz.ntmps99
        go_wp2_with fail
        refine (hcount _ (hbl _)).mono ?_; rintro e w1 ⟨rfl, hb1⟩
        have k0 := bat hb1 w.heap.size (by simp)
        simp at k0
        go_wp2_with (first | (go_at_call 105; refine (s_WidthOk _ _).mono ?_; rintro e w' ⟨rfl, rfl⟩) | (go_at_call 47; refine (s_l1In _ _ _ _).mono ?_; rintro e w' ⟨rfl, rfl⟩))
        go_ret
        exact ⟨rfl, (hbl _).then hb1⟩
  | true =>
    rw [hpre] at hR
    simp only [Bool.and_eq_true, decide_eq_true_eq] at hpre
    obtain ⟨h1, hw, hn, hi60⟩ := hpre
    have d1 : decide (4 < (pl.length : Int)) = false := by simp; omega
    have d2 : decide (60 < ids) = false := by simp; omega
    go_enter Tryz.func99, Tryz.ntmps99
    go_wp2_with fail
    refine (hcount _ (hbl _)).mono ?_; rintro e w1 ⟨rfl, hb1⟩
    have k0 := bat hb1 w.heap.size (by simp)
    have hz1 := hb1.size
    simp at k0 hz1
    have hbw1 := Hd.mk ((hbl _).then hb1)
    clear hb1 hcount
    go_wp2_with (first | (go_at_call 105; refine (s_WidthOk _ _).mono ?_; rintro e w' ⟨rfl, rfl⟩) | (go_at_call 47; refine (s_l1In _ _ _ _).mono ?_; rintro e w' ⟨rfl, rfl⟩))
    clear d1 d2 hw hn
    go_loop [7] (fun s7 => ∃ k : Nat, k ≤ pl.length ∧ s7 = .int .i64 k ∧ Hd ((pl.take k).all widthOk = true)) (fun s7 => pl.length - (intOf s7).toNat)
    case atStart => exact ⟨0, Nat.zero_le _, rfl, ⟨by simp⟩⟩
    case round =>
      obtain ⟨k, hk, rfl, hall⟩ := hrel
      by_cases hlt : k < pl.length
      · obtain ⟨b, off, cs, hA, hbl', hk1, hat⟩ := hp0.out.in0 hbw1.out k hlt
        cases hA
        cases hk1
        have g0 := hat 0 _ rfl
        simp at g0
        clear hat
        have hsn := Hd.mk (all_take_snoc widthOk pl k hlt)
        have hfail := fun h => Hd.mk (all_false_of widthOk pl k hlt h)
        generalize pl[k] = y at *
        cases hq : widthOk y with
        | false =>
          have hR2 := hR.out
          rw [(hfail hq).out] at hR2
          simp at hR2
          subst hR2
          go_wp2_with (go_at_call 105; refine (s_WidthOk _ _).mono ?_; rintro e w' ⟨rfl, rfl⟩)
          go_ret
          exact ⟨rfl, hbw1.out⟩
        | true =>
          go_wp2_with (go_at_call 105; refine (s_WidthOk _ _).mono ?_; rintro e w' ⟨rfl, rfl⟩)
          go_round
          case rel => exact ⟨k + 1, by omega, by go_num, ⟨by rw [hsn.out, hall.out, hq]; rfl⟩⟩
          case measure => simp [intOf]; omega
      · have e : k = pl.length := by omega
        subst e
        rw [List.take_length] at hall
        rw [hall.out] at hR
        clear hp0 hall
        have hR' := Hd.mk (show R = l.all (blockOk ids funcs l.length) by rw [hR.out]; rfl)
        clear hR
        have hz1' : w.heap.size < w1.heap.size := by omega
        go_wp2
        go_loopw [8] (fun s8 wr => ∃ k : Nat, k ≤ l.length ∧ s8 = .int .i64 k ∧ Hd (Below w1.heap.size w1 wr) ∧ Hd ((l.take k).all (blockOk ids funcs l.length) = true)) (fun s8 _ => l.length - (intOf s8).toNat)
        case atStart => exact ⟨0, Nat.zero_le _, rfl, ⟨Below.refl _ _⟩, ⟨by simp⟩⟩
        case round =>
          obtain ⟨k, hk, rfl, hbr, hall⟩ := hrel
          obtain ⟨wo, rfl⟩ : ∃ wo : World, wo = wr := ⟨_, rfl⟩
          have hzr := hbr.out.size
          have hbw := Hd.mk (hbw1.out.then hbr.out)
          replace k0 := fun o => (bat hbr.out w.heap.size hz1' o).trans (k0 o)
          by_cases hlt : k < l.length
          · obtain ⟨b, off, cs, hA, hbl', ⟨v1, v2, rfl, hr, hr2⟩, hat⟩ := hb0.out.in0 hbw.out k hlt
            cases hA
            have g0 := hat 0 _ rfl
            have g1 := hat 1 _ rfl
            have g2 := hat 2 _ rfl
            have g3 := hat 3 _ rfl
            have g4 := hat 4 _ rfl
            have g5 := hat 5 _ rfl
            clear hat
            simp at g0 g1 g2 g3 g4 g5
            have hsn := Hd.mk (all_take_snoc (blockOk ids funcs l.length) l k hlt)
            have hbk : blockOk ids funcs l.length l[k] = (l[k].phis.all (phiOk ids) && (l[k].insts.all (instOk ids funcs) && termOk ids l.length l[k].term)) := by simp only [blockOk, Bool.and_assoc]
            have hfail := Hd.mk (fun h => all_false_of (blockOk ids funcs l.length) l k hlt h)
            have hbk' := Hd.mk hbk
            clear hbk
            generalize l[k] = x at *
            obtain ⟨A3, c3, rfl, -, hl3, hr0⟩ := hr.sm
            obtain ⟨A4, c4, rfl, -, hl4, hr20⟩ := hr2.sm
            clear hr hr2
            have hT := fun W => s_l2Term x.term ids l.length W hc0 (by omega) (by omega) (by omega)
            simp only [termV] at hT
            generalize x.term = t at *
            generalize x.phis = ps at *
            generalize x.insts = is at *
            have z0 : w.heap.size < wo.heap.size := by omega
            have hno : ∀ q1 q2 q3 : Bool, ps.all (phiOk ids) = q1 → is.all (instOk ids funcs) = q2 → termOk ids l.length t = q3 → (q1 && (q2 && q3)) = false → R = false := fun q1 q2 q3 e1 e2 e3 h => by rw [hR'.out]; exact hfail.out (by rw [hbk'.out, e1, e2, e3, h])
            have hno' := Hd.mk hno
            clear hno hfail
            go_wp2
            generalize hwx : wo.alloc (.cells #[.slice A3 ps.length c3, .slice A4 is.length c4, .int .i64 t.kind, .int .i64 t.a, .int .i64 t.x, .int .i64 t.y] 32) = wx
            have hbx : Below wo.heap.size wo wx := by subst hwx; exact (Below.refl _ _).al (Nat.le_refl _) _
            have kx : ∀ o, wx.cell? ⟨wo.heap.size, o, none⟩ = (#[.slice A3 ps.length c3, .slice A4 is.length c4, .int .i64 t.kind, .int .i64 t.a, .int .i64 t.x, .int .i64 t.y] : Array Value)[o]? := by subst hwx; intro o; simp
            have kf := fun o => (bat hbx w.heap.size z0 o).trans (k0 o)
            have hzx := hbx.size
            have hzx1 : wo.heap.size < wx.heap.size := by subst hwx; simp
            have hbwx := Hd.mk (hbw.out.then hbx)
            have hbrx := Hd.mk (hbr.out.then hbx)
            clear hwx hbx k0 g0 g1 g2 g3 g4 g5
            go_loop [10] (fun s10 => ∃ i : Nat, i ≤ ps.length ∧ s10 = .int .i64 i ∧ Hd ((ps.take i).all (phiOk ids) = true)) (fun s10 => ps.length - (intOf s10).toNat)
            case atStart => exact ⟨0, Nat.zero_le _, rfl, ⟨by simp⟩⟩
            case round =>
              obtain ⟨i, hi, rfl, hallP⟩ := hrel
              by_cases hlti : i < ps.length
              · obtain ⟨b5, off5, cs5, hA5, hbl5, ⟨v5, rfl, hr5⟩, hat5⟩ := hr0.out.in0 hbwx.out i hlti
                cases hA5
                have i0 := hat5 0 _ rfl
                have i1 := hat5 1 _ rfl
                clear hat5
                simp at i0 i1
                have hsnP := Hd.mk (all_take_snoc (phiOk ids) ps i hlti)
                have hfailP := Hd.mk (fun h => all_false_of (phiOk ids) ps i hlti h)
                have hpk := Hd.mk (show phiOk ids ps[i] = (widthOk ps[i].w && decide (ps[i].ins.length ≤ 10) && ps[i].ins.all (isIdB ids)) from rfl)
                generalize ps[i] = p at *
                obtain ⟨A6, c6, rfl, -, hl6, hr60⟩ := hr5.sm
                clear hr5
                cases hpw : widthOk p.w with
                | false =>
                  have e := hno'.out false _ _ (hfailP.out (by rw [hpk.out, hpw]; rfl)) rfl rfl rfl
                  subst e
                  go_wp2_with (go_at_call 105; refine (s_WidthOk _ _).mono ?_; rintro e w' ⟨rfl, rfl⟩)
                  go_ret
                  exact ⟨rfl, hbwx.out⟩
                | true =>
                  by_cases h10 : 10 < p.ins.length
                  · have d10 : decide (10 < (p.ins.length : Int)) = true := by simp; omega
                    have e := hno'.out false _ _ (hfailP.out (by rw [hpk.out, hpw, show decide (p.ins.length ≤ 10) = false by simp; omega]; rfl)) rfl rfl rfl
                    subst e
                    go_wp2_with (go_at_call 105; refine (s_WidthOk _ _).mono ?_; rintro e w' ⟨rfl, rfl⟩)
                    go_ret
                    exact ⟨rfl, hbwx.out⟩
                  · have d10 : decide (10 < (p.ins.length : Int)) = false := by simp; omega
                    rw [hpw, show decide (p.ins.length ≤ 10) = true by simp; omega] at hpk
                    generalize p.ins = ns at *
                    generalize p.w = pw at *
                    go_wp2_with (go_at_call 105; refine (s_WidthOk _ _).mono ?_; rintro e w' ⟨rfl, rfl⟩)
                    clear hpw d10
                    go_loop [11] (fun s11 => ∃ j : Nat, j ≤ ns.length ∧ s11 = .int .i64 j ∧ Hd ((ns.take j).all (isIdB ids) = true)) (fun s11 => ns.length - (intOf s11).toNat)
                    case atStart => exact ⟨0, Nat.zero_le _, rfl, ⟨by simp⟩⟩
                    case round =>
                      obtain ⟨j, hj, rfl, hallN⟩ := hrel
                      by_cases hltj : j < ns.length
                      · obtain ⟨b7, off7, cs7, hA7, hbl7, hk7, hat7⟩ := hr60.out.in0 hbwx.out j hltj
                        cases hA7
                        cases hk7
                        have n0 := hat7 0 _ rfl
                        simp at n0
                        clear hat7
                        have hsnN := Hd.mk (all_take_snoc (isIdB ids) ns j hltj)
                        have hfailN := Hd.mk (fun h => all_false_of (isIdB ids) ns j hltj h)
                        have hid : isIdB ids ns[j] = inR ns[j] 0 (ids - 1) := rfl
                        generalize ns[j] = y at *
                        cases hq : inR y 0 (ids - 1) with
                        | false =>
                          have e := hno'.out false _ _ (hfailP.out (by rw [hpk.out, hfailN.out (by rw [hid, hq])]; rfl)) rfl rfl rfl
                          subst e
                          go_wp2_with (go_at_call 47; refine (s_l1In _ _ _ _).mono ?_; rintro e w' ⟨rfl, rfl⟩)
                          go_ret
                          exact ⟨rfl, hbwx.out⟩
                        | true =>
                          go_wp2_with (go_at_call 47; refine (s_l1In _ _ _ _).mono ?_; rintro e w' ⟨rfl, rfl⟩)
                          go_round
                          case rel => exact ⟨j + 1, by omega, by go_num, ⟨by rw [hsnN.out, hallN.out, hid, hq]; rfl⟩⟩
                          case measure => simp [intOf]; omega
                      · have e : j = ns.length := by omega
                        subst e
                        rw [List.take_length] at hallN
                        rw [hallN.out] at hpk
                        go_wp2
                        go_round
                        case rel => exact ⟨i + 1, by omega, by go_num, ⟨by rw [hsnP.out, hallP.out, hpk.out]; rfl⟩⟩
                        case measure => simp [intOf]; omega
              · have e : i = ps.length := by omega
                subst e
                rw [List.take_length] at hallP
                have hall1 := hallP.out
                rw [hall1] at hbk'
                clear hallP
                go_wp2
                go_loopw [12] (fun s12 wr => ∃ i : Nat, i ≤ is.length ∧ s12 = .int .i64 i ∧ Hd (Below wx.heap.size wx wr) ∧ Hd ((is.take i).all (instOk ids funcs) = true)) (fun s12 _ => is.length - (intOf s12).toNat)
                case atStart => exact ⟨0, Nat.zero_le _, rfl, ⟨Below.refl _ _⟩, ⟨by simp⟩⟩
                case round =>
                  obtain ⟨i, hi, rfl, hbq, hallI⟩ := hrel
                  have hzq := hbq.out.size
                  have hbwq := Hd.mk (hbwx.out.then hbq.out)
                  replace kx := fun o => (bat hbq.out wo.heap.size hzx1 o).trans (kx o)
                  replace kf := fun o => (bat hbq.out w.heap.size (by omega) o).trans (kf o)
                  by_cases hlti : i < is.length
                  · obtain ⟨b5, off5, cs5, hA5, hbl5, ⟨v5, rfl, hr5⟩, hat5⟩ := hr20.out.in0 hbwq.out i hlti
                    cases hA5
                    have i0 := hat5 0 _ rfl
                    have i1 := hat5 1 _ rfl
                    have i2 := hat5 2 _ rfl
                    have i3 := hat5 3 _ rfl
                    have i4 := hat5 4 _ rfl
                    have i5 := hat5 5 _ rfl
                    have i6 := hat5 6 _ rfl
                    clear hat5
                    simp at i0 i1 i2 i3 i4 i5 i6
                    have hsnI := Hd.mk (all_take_snoc (instOk ids funcs) is i hlti)
                    have hfailI := Hd.mk (fun h => all_false_of (instOk ids funcs) is i hlti h)
                    have hI := s_l2Inst is[i] v5 ids funcs wr (hr5.mv hbwq.out) hc0 (by omega) hf0 hf1
                    simp only [instV] at hI
                    obtain ⟨A6, c6, rfl, -, -, -⟩ := hr5.sm
                    clear hr5
                    generalize hq : instOk ids funcs is[i] = q at *
                    generalize is[i] = x at *
                    clear hq
                    cases q with
                    | false =>
                      have e := hno'.out true false _ hall1 (hfailI.out rfl) rfl rfl
                      subst e
                      go_wp2_with fail
                      refine hI.mono ?_; rintro e wz ⟨rfl, hbz⟩
                      go_wp2
                      go_ret
                      exact ⟨rfl, hbwq.out.then hbz⟩
                    | true =>
                      go_wp2_with fail
                      refine hI.mono ?_; rintro e wz ⟨rfl, hbz⟩
                      have hbz' := Hd.mk (hbq.out.then hbz)
                      clear hbz hI
                      go_wp2
                      go_roundw
                      case rel => exact ⟨i + 1, by omega, by go_num, hbz', ⟨by rw [hsnI.out, hallI.out]; rfl⟩⟩
                      case measure => simp [intOf]; omega
                  · have e : i = is.length := by omega
                    subst e
                    rw [List.take_length] at hallI
                    have hall2 := hallI.out
                    rw [hall2] at hbk'
                    clear hallI
                    have hbrq := Hd.mk (hbrx.out.then hbq.out)
                    cases hq : termOk ids l.length t with
                    | false =>
                      rw [hq] at hT
                      have e := hno'.out true true false hall1 hall2 hq rfl
                      subst e
                      clear hq
                      go_wp2_with fail
                      refine (hT _).mono ?_; rintro e wz ⟨rfl, hbz⟩
                      go_wp2
                      go_ret
                      exact ⟨rfl, hbwq.out.then hbz⟩
                    | true =>
                      rw [hq] at hT hbk'
                      clear hq
                      go_wp2_with fail
                      refine (hT _).mono ?_; rintro e wz ⟨rfl, hbz⟩
                      have hbz' := Hd.mk (hbrq.out.then hbz)
                      clear hbz hT
                      go_wp2
                      go_roundw
                      case rel => exact ⟨k + 1, by omega, by go_num, hbz', ⟨by rw [hsn.out, hall.out, hbk'.out]; rfl⟩⟩
                      case measure => simp [intOf]; omega
          · have e : k = l.length := by omega
            subst e
            rw [List.take_length] at hall
            have hR2 := hR'.out
            rw [hall.out] at hR2
            subst hR2
            go_wp2
            go_ret
            exact ⟨rfl, hbw.out⟩
end Go.Proofs.YtkcgejbnhpccdaaGreat
