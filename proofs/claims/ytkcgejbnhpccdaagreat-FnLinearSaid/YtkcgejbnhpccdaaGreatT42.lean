import Derived.Test.YtkcgejbnhpccdaaGreatT41
import Derived.StillTailTactics
set_option linter.unusedSimpArgs false
set_option linter.unusedVariables false
namespace Go.Proofs.YtkcgejbnhpccdaaGreat
open Go.RowKit
def DoneX (mv : Value) (fuel g gm lo : Nat) (R : (Int × Int) × RS) (A : Option Addr) (w : World) (e : Ending) (w' : World) : Prop :=
  ∃ A' c' val, e = .returned (.int .i64 val) ∧ (R.1.2 = 0 → val = R.1.1) ∧ SX mv fuel g gm lo R.1.2 R.2 A' c' w' ∧ Off g gm (blk A) w w' ∧ Nxt w (blk A) (blk A')
def RunX (call : Callee) (m : XMod) (mv : Value) (fuel g gm lo : Nat) (d : Int) (B : World) : Prop := ∀ (k : Int) (args : List Int) (s : RS) (A : Option Addr) (c : Nat) (va : Value) (W : World), (0 ≤ k ∧ k < m.funcs.length) → ROk fuel s → (∀ x ∈ args, 0 ≤ x ∧ x ≤ 4294967295) → args.length = (m.funcs.getD k.toNat func0).params.length →
  SX mv fuel g gm lo 0 s A c W → RI lm W va args → Below B.heap.size B W → Calls Tryz.prog 77 #[.pointer (some ⟨g, 0, none⟩), .int .i64 k, va, .int .i64 d] W (DoneX mv fuel g gm lo (call k args s) A W)
set_option maxRecDepth 20000 in
set_option maxHeartbeats 16000000 in
theorem s_inst (call : Callee) (m : XMod) (mv : Value) (fuel g gm lo : Nat) (d : Int) (B : World) (f : XFunc) (cf : List Value) (gv n : Nat) (Av : Option Addr) (cv : Nat) (vals : List Int) (s : RS) (A : Option Addr) (c : Nat) (i : XInst) (va : Value) (Wb : World)
    (H : RunX call m mv fuel g gm lo (d + 1) B) (hd : 1 ≤ d ∧ d ≤ 6) (hBW : Below B.heap.size B Wb) (hS : SX mv fuel g gm lo 0 s A c Wb) (hx : VX g gm (blk A) gv Av n vals Wb) (hf : KFunc lm Wb f cf) (hok : funcOk f m.funcs.length = true)
    (hc : (n : Int) = countOf f) (hv : VOk n vals) (hs : ROk fuel s) (hio : instOk (countOf f) m.funcs.length i = true) (hia : RI lm Wb va i.args) (hcall : i.op = 26 → i.args.length = (m.funcs.getD i.imm.toNat func0).params.length) :
    Calls Tryz.prog 111 #[.pointer (some ⟨g, 0, none⟩), .agg cf.toArray, instV i va, .slice Av n cv, .int .i64 d] Wb (DoneX mv fuel g gm lo (doI call f i vals s) A Wb) := by
  have hids := Hd.mk (inst_parts hio).2.1
  obtain ⟨Aa, ca, rfl, hca, hla, -⟩ := hia.sm
  have hc60 := (func_fo hok).2.1
  have hf' := Hd.mk hf
  obtain ⟨v1, v2, rfl, hp, hb⟩ := hf
  obtain ⟨A1, c1, rfl, -, -, -⟩ := hp.sm
  obtain ⟨A2, c2, rfl, -, -, -⟩ := hb.sm
  clear hp hb
  have hn' := Hd.mk hc
  have hnc : (n : Int) ≤ 60 := by omega
  have hxc := Hd.mk (fun (id : Int) (h : 0 ≤ id ∧ id < countOf f) => (show 0 ≤ id ∧ id < (n : Int) from ⟨h.1, by omega⟩))
  have hok' := Hd.mk hok
  have hBW' := Hd.mk hBW
  have hv' := Hd.mk hv
  have hs' := Hd.mk hs
  have hio' := Hd.mk hio
  have hia' := Hd.mk hia
  have H' := Hd.mk H
  have hcall' := Hd.mk hcall
  generalize hD : doI call f i vals s = D
  have hD' := Hd.mk hD
  obtain ⟨wo, hwo⟩ : ∃ wo : World, wo = (Wb.alloc (.cells #[.slice A1 f.params.length c1, .int .i64 f.ret, .slice A2 f.blocks.length c2] 35)).alloc (.cells #[.int .i64 i.op, .int .i64 i.w, .int .i64 i.a, .int .i64 i.b, .int .i64 i.c, .int .i64 i.imm, .slice Aa i.args.length ca] 26) := ⟨_, rfl⟩
  have hBo : Hd (Below Wb.heap.size Wb wo) := ⟨by rw [hwo]; exact ((Below.refl Wb.heap.size Wb).al (Nat.le_refl _) _).al (by simp) _⟩
  have hz0 : Wb.heap.size + 1 < wo.heap.size := by rw [hwo]; simp
  have hz00 : Wb.heap.size < wo.heap.size := by omega
  have hzf : Hd (∀ o u, [Value.slice A1 f.params.length c1, .int .i64 f.ret, .slice A2 f.blocks.length c2][o]? = some u → wo.cell? ⟨Wb.heap.size, o, none⟩ = some u) := ⟨fun o u hu => by rw [hwo]; simpa using hu⟩
  have hzi : Hd (∀ o u, [Value.int .i64 i.op, .int .i64 i.w, .int .i64 i.a, .int .i64 i.b, .int .i64 i.c, .int .i64 i.imm, .slice Aa i.args.length ca][o]? = some u → wo.cell? ⟨Wb.heap.size + 1, o, none⟩ = some u) := ⟨fun o u hu => by rw [hwo]; exact new_cell _ _ _ (by simp) o u (by simpa using hu)⟩
  have hwo' := Hd.mk hwo
  have hSo := Hd.mk (hS.mv hBo.out)
  have hXo := Hd.mk (hx.below hBo.out)
  have hofo : Hd (Off g gm (blk A) Wb wo) := ⟨.of hBo.out⟩
  have hgW : g < Wb.heap.size := by obtain ⟨_, _, _, _, _, _, _, _, h, _⟩ := hS.cells; exact h
  clear hS hx hc hok hBW hv hs hio hia H hcall hD hwo
  unfold instV
  have x0 := hzi.out 0 _ rfl
  have x1 := hzi.out 1 _ rfl
  have x2 := hzi.out 2 _ rfl
  have x3 := hzi.out 3 _ rfl
  have x4 := hzi.out 4 _ rfl
  have x5 := hzi.out 5 _ rfl
  have x6 := hzi.out 6 _ rfl
  obtain ⟨cM, k0, k1, k2, k3, k4, k5, kf, kg, kgm, kne⟩ := hSo.out.cells
  have kf' := Hd.mk kf
  have hin := fun lo hi w => s_l1In i.op lo hi w
  have hwd : IntKind.i64.wrap (d + 1) = d + 1 := IntWalk.i64_in _ (by omega)
  obtain ⟨op, iw, ia, ib, ic, imm, args⟩ := i
  simp only at x0 x1 x2 x3 x4 x5 x6 hD' hia' hcall' hio' hin hla hca hids hzi hwo'
  clear kf
  unfold doI at hD'
  go_enter Tryz.func111, Tryz.ntmps111
  go_wp2_with fail
  rw [← hwo'.out]
  by_cases o1 : bin op = true
  · rw [if_pos o1] at hD'
    have hi1 : inR op 1 17 = true := o1
    have hin1 := fun w => hin 1 17 w
    rw [hi1] at hin1
    clear hin
    have hos : opsOf ⟨op, iw, ia, ib, ic, imm, args⟩ = [ia, ib] := by unfold opsOf; simp [o1]
    rw [hos] at hids
    clear hos
    obtain ⟨eia0, eia1⟩ := hxc.out ia (hids.out ia (by simp))
    obtain ⟨via, -⟩ := hXo.out.val ia eia0 eia1
    obtain ⟨eib0, eib1⟩ := hxc.out ib (hids.out ib (by simp))
    obtain ⟨vib, -⟩ := hXo.out.val ib eib0 eib1
    obtain ⟨hAv, hxa, -⟩ := hXo.out.2 (by omega)
    subst hAv
    have hgv := hxa.lt
    clear hxa
    have hxia := vl_rng hv'.out ia
    have hxib := vl_rng hv'.out ib
    generalize vl vals ia = xia at *
    generalize vl vals ib = xib at *
    have hbn := fun N => s_Binary op iw xia xib (wo.drewN N)
    clear o1 hi1
    by_cases h0 : (binV op iw xia xib).2 = 0
    · rw [if_pos h0] at hD'
      rw [h0] at hbn
      generalize (binV op iw xia xib).1 = r at *
      clear h0
      refine (hin1 _).mono ?_; rintro e w3 ⟨rfl, rfl⟩
      go_wp2
      go_quiet (first | (go_at_call 154; exact quietS' (hbn _)))
      go_wp2
      go_ret
      exact ⟨A, c, _, rfl, fun _ => by rw [← hD'.out], by rw [← hD'.out]; exact hSo.out.drewN _, hofo.out.drewN _, .inl rfl⟩
    · rw [if_neg h0] at hD'
      have d0 := bneT h0
      have d1 := beqF h0
      generalize (binV op iw xia xib).1 = r at *
      generalize (binV op iw xia xib).2 = r2 at *
      refine (hin1 _).mono ?_; rintro e w3 ⟨rfl, rfl⟩
      go_wp2
      go_quiet (first | (go_at_call 154; exact quietS' (hbn _)))
      go_wp2_with fail
      refine (s_fail mv fuel g gm lo s A c _ 1 (hSo.out.drewN nq)).mono ?_; rintro e w7 ⟨rfl, hS7, hO7⟩
      have hS7' := Hd.mk hS7
      have hO7' := Hd.mk hO7
      clear hS7 hO7
      go_wp2
      go_ret
      exact ⟨A, c, _, rfl, fun h => by rw [← hD'.out] at h; exact absurd (show (1 : Int) = 0 from h) (by decide), by rw [← hD'.out]; exact hS7'.out, (hofo.out.drewN nq).trans (.inl rfl) hO7'.out, .inl rfl⟩
  rw [if_neg o1] at hD'
  have b1 : bin op = false := by simpa using o1
  have p1 := Hd.mk b1
  have hin1 := fun w => hin 1 17 w
  rw [show inR op 1 17 = false from b1] at hin1
  refine (hin1 _).mono ?_; rintro e w3 ⟨rfl, rfl⟩
  clear o1 b1 hin1
  go_wp2_with fail
  by_cases o2 : cst op = true
  · rw [if_pos o2] at hD'
    have hin2 := fun w => hin 18 20 w
    rw [show inR op 18 20 = true from o2] at hin2
    have hos : opsOf ⟨op, iw, ia, ib, ic, imm, args⟩ = [ia] := by unfold opsOf; simp [o2, show bin op = false from p1.out, show (op == 24) = false from beqF (by have := cst_r o2; omega)]
    rw [hos] at hids
    clear hos
    obtain ⟨eia0, eia1⟩ := hxc.out ia (hids.out ia (by simp))
    obtain ⟨via, -⟩ := hXo.out.val ia eia0 eia1
    obtain ⟨hAv, hxa, -⟩ := hXo.out.2 (by omega)
    subst hAv
    have hgv := hxa.lt
    clear hxa
    have hxia := vl_rng hv'.out ia
    generalize vl vals ia = xia at *
    have hty := fun W (hW : Below wo.heap.size wo W) => s_TypeOfK f _ ia m.funcs.length W (KM.mv hf'.out (hBo.out.then hW)) hok'.out (by omega)
    have hct := fun W => sameRet (s_Casted op (typeOf f ia) iw xia W)
    generalize typeOf f ia = tf at *
    generalize (castV op tf iw xia).1 = r at *
    generalize (castV op tf iw xia).2 = r2 at *
    have y0 := hzf.out 0 _ rfl
    have y1 := hzf.out 1 _ rfl
    have y2 := hzf.out 2 _ rfl
    clear o2 hin
    refine (hin2 _).mono ?_; rintro e w3 ⟨rfl, rfl⟩
    go_wp2
    refine wp_region_bel (by kernel_rfl) (by kernel_rfl) ?_
    simp only [List.toList_toArray]
    repeat' first
      | (refine seq_val (by rfl) (by intro W hS; have s0 := (bat hS (Wb.heap.size + 1) hz0 0).trans x0; have s1 := (bat hS (Wb.heap.size + 1) hz0 1).trans x1; have s2 := (bat hS (Wb.heap.size + 1) hz0 2).trans x2; have t0 := (bat hS Wb.heap.size hz00 0).trans y0; have t1 := (bat hS Wb.heap.size hz00 1).trans y1; have t2 := (bat hS Wb.heap.size hz00 2).trans y2; have u0 := (bat hS gv hgv _).trans via; go_simp; first | done | rfl) ?_; simp only [Act.put, List.setIfInBounds_toArray, List.set_cons_zero, List.set_cons_succ])
      | (refine seq_skip (by rfl) ?_; simp only [Act.put, List.setIfInBounds_toArray, List.set_cons_zero, List.set_cons_succ])
      | (refine seq_ret 149 _ (by rfl) (by intro W hS; have s0 := (bat hS (Wb.heap.size + 1) hz0 0).trans x0; have s1 := (bat hS (Wb.heap.size + 1) hz0 1).trans x1; have s2 := (bat hS (Wb.heap.size + 1) hz0 2).trans x2; have t0 := (bat hS Wb.heap.size hz00 0).trans y0; have t1 := (bat hS Wb.heap.size hz00 1).trans y1; have t2 := (bat hS Wb.heap.size hz00 2).trans y2; have u0 := (bat hS gv hgv _).trans via; go_simp; first | done | rfl) (fun W hS => hty W hS) ?_; simp only [Act.put, List.setIfInBounds_toArray, List.set_cons_zero, List.set_cons_succ])
      | (refine seq_ret 155 _ (by rfl) (by intro W hS; have s0 := (bat hS (Wb.heap.size + 1) hz0 0).trans x0; have s1 := (bat hS (Wb.heap.size + 1) hz0 1).trans x1; have s2 := (bat hS (Wb.heap.size + 1) hz0 2).trans x2; have t0 := (bat hS Wb.heap.size hz00 0).trans y0; have t1 := (bat hS Wb.heap.size hz00 1).trans y1; have t2 := (bat hS Wb.heap.size hz00 2).trans y2; have u0 := (bat hS gv hgv _).trans via; go_simp; first | done | rfl) (fun W hS => hct W) ?_; simp only [Act.put, List.setIfInBounds_toArray, List.set_cons_zero, List.set_cons_succ])
      | fail
    refine seq_nil (fun W hS => ?_)
    have s0 := (bat hS (Wb.heap.size + 1) hz0 0).trans x0
    have s1 := (bat hS (Wb.heap.size + 1) hz0 1).trans x1
    have s2 := (bat hS (Wb.heap.size + 1) hz0 2).trans x2
    have t0 := (bat hS Wb.heap.size hz00 0).trans y0
    have t1 := (bat hS Wb.heap.size hz00 1).trans y1
    have t2 := (bat hS Wb.heap.size hz00 2).trans y2
    have u0 := (bat hS gv hgv _).trans via
    go_wp2
    go_ret
    exact ⟨A, c, _, rfl, fun _ => by rw [← hD'.out], by rw [← hD'.out]; exact hSo.out.mv hS, hofo.out.then hS, .inl rfl⟩
  rw [if_neg o2] at hD'
  have b2 : cst op = false := by simpa using o2
  have p2 := Hd.mk b2
  have hin2 := fun w => hin 18 20 w
  rw [show inR op 18 20 = false from b2] at hin2
  refine (hin2 _).mono ?_; rintro e w3 ⟨rfl, rfl⟩
  clear o2 b2 hin2 hin
  by_cases o21 : op = 21
  · subst o21
    rw [if_pos rfl] at hD'
    go_wp2
    go_ret
    exact ⟨A, c, _, rfl, fun _ => by rw [← hD'.out], by rw [← hD'.out]; exact hSo.out, hofo.out, .inl rfl⟩
  have t21 := beqF o21
  rw [if_neg o21] at hD'
  by_cases o22 : op = 22
  · subst o22
    rw [if_pos rfl] at hD'
    have hos : opsOf ⟨22, iw, ia, ib, ic, imm, args⟩ = [ia, ib, ic] := rfl
    rw [hos] at hids
    clear hos
    obtain ⟨eia0, eia1⟩ := hxc.out ia (hids.out ia (by simp))
    obtain ⟨via, -⟩ := hXo.out.val ia eia0 eia1
    obtain ⟨eib0, eib1⟩ := hxc.out ib (hids.out ib (by simp))
    obtain ⟨vib, -⟩ := hXo.out.val ib eib0 eib1
    obtain ⟨eic0, eic1⟩ := hxc.out ic (hids.out ic (by simp))
    obtain ⟨vic, -⟩ := hXo.out.val ic eic0 eic1
    obtain ⟨hAv, hxa, -⟩ := hXo.out.2 (by omega)
    subst hAv
    have hgv := hxa.lt
    clear hxa
    have hxia := vl_rng hv'.out ia
    have hxib := vl_rng hv'.out ib
    have hxic := vl_rng hv'.out ic
    generalize vl vals ia = xia at *
    generalize vl vals ib = xib at *
    generalize vl vals ic = xic at *
    by_cases h0 : xia = 1
    · rw [if_pos h0] at hD'
      subst h0
      go_wp2
      go_ret
      exact ⟨A, c, _, rfl, fun _ => by rw [← hD'.out], by rw [← hD'.out]; exact hSo.out, hofo.out, .inl rfl⟩
    · rw [if_neg h0] at hD'
      have d0 := beqF h0
      go_wp2
      go_ret
      exact ⟨A, c, _, rfl, fun _ => by rw [← hD'.out], by rw [← hD'.out]; exact hSo.out, hofo.out, .inl rfl⟩
  have t22 := beqF o22
  rw [if_neg o22] at hD'
  by_cases o27 : op = 27
  · subst o27
    rw [if_pos rfl] at hD'
    have hos : opsOf ⟨27, iw, ia, ib, ic, imm, args⟩ = [ia] := rfl
    rw [hos] at hids
    clear hos
    obtain ⟨eia0, eia1⟩ := hxc.out ia (hids.out ia (by simp))
    obtain ⟨via, -⟩ := hXo.out.val ia eia0 eia1
    obtain ⟨hAv, hxa, -⟩ := hXo.out.2 (by omega)
    subst hAv
    have hgv := hxa.lt
    clear hxa
    have hxia := vl_rng hv'.out ia
    generalize vl vals ia = xia at *
    go_wp2
    go_ret
    exact ⟨A, c, _, rfl, fun _ => by rw [← hD'.out], by rw [← hD'.out]; exact hSo.out, hofo.out, .inl rfl⟩
  have t27 := beqF o27
  rw [if_neg o27] at hD'
  by_cases o23 : op = 23
  · subst o23
    rw [if_neg (by decide), if_neg (by decide)] at hD'
    have hos : opsOf ⟨23, iw, ia, ib, ic, imm, args⟩ = [ia] := rfl
    rw [hos] at hids
    clear hos
    obtain ⟨eia0, eia1⟩ := hxc.out ia (hids.out ia (by simp))
    obtain ⟨via, -⟩ := hXo.out.val ia eia0 eia1
    obtain ⟨hAv, hxa, -⟩ := hXo.out.2 (by omega)
    subst hAv
    have hgv := hxa.lt
    clear hxa
    have hxia := vl_rng hv'.out ia
    generalize vl vals ia = xia at *
    by_cases h32 : 32 ≤ xia
    · rw [if_pos h32] at hD'
      have d3 : decide (32 ≤ xia) = true := by simpa using h32
      go_wp2_with fail
      refine (s_fail mv fuel g gm lo s A c _ 2 hSo.out).mono ?_; rintro e w7 ⟨rfl, hS7, hO7⟩
      have hS7' := Hd.mk hS7
      have hO7' := Hd.mk hO7
      clear hS7 hO7
      go_wp2
      go_ret
      exact ⟨A, c, _, rfl, fun h => by rw [← hD'.out] at h; exact absurd (show (2 : Int) = 0 from h) (by decide), by rw [← hD'.out]; exact hS7'.out, (hofo.out).trans (.inl rfl) hO7'.out, .inl rfl⟩
    rw [if_neg h32] at hD'
    have d3 : decide (32 ≤ xia) = false := by simpa using h32
    have y5 : 0 ≤ xia := hxia.1
    have y6 : xia < 32 := by omega
    have hml := hs'.out.mem
    have hby : Hd (ByR wo gm s.mem) := ⟨by obtain ⟨cm, h1, h2, -⟩ := hSo.out; exact h2⟩
    obtain ⟨hby1, hby2⟩ := hby.out.cell xia.toNat (by omega)
    rw [if_neg (by decide)] at hD'
    have hgt : Hd (s.mem.getD xia.toNat 0 = s.mem[xia.toNat]'(by omega)) := ⟨by rw [List.getD_eq_getElem?_getD, List.getElem?_eq_getElem (by omega)]; rfl⟩
    rw [hgt.out] at hD'
    have hbr := hs'.out.byt xia.toNat (by omega)
    generalize s.mem[xia.toNat]'(by omega) = bv at *
    clear hgt
    go_wp2
    go_quiet (fail)
    go_wp2
    go_ret
    exact ⟨A, c, _, rfl, fun _ => by rw [← hD'.out], by rw [← hD'.out]; exact hSo.out.drewN _, hofo.out.drewN _, .inl rfl⟩
  have t23 := beqF o23
  by_cases o24 : op = 24
  · subst o24
    rw [if_neg (by decide), if_neg (by decide)] at hD'
    have hos : opsOf ⟨24, iw, ia, ib, ic, imm, args⟩ = [ia, ib] := rfl
    rw [hos] at hids
    clear hos
    obtain ⟨eia0, eia1⟩ := hxc.out ia (hids.out ia (by simp))
    obtain ⟨via, -⟩ := hXo.out.val ia eia0 eia1
    obtain ⟨eib0, eib1⟩ := hxc.out ib (hids.out ib (by simp))
    obtain ⟨vib, -⟩ := hXo.out.val ib eib0 eib1
    obtain ⟨hAv, hxa, -⟩ := hXo.out.2 (by omega)
    subst hAv
    have hgv := hxa.lt
    clear hxa
    have hxia := vl_rng hv'.out ia
    have hxib := vl_rng hv'.out ib
    generalize vl vals ia = xia at *
    generalize vl vals ib = xib at *
    by_cases h32 : 32 ≤ xia
    · rw [if_pos h32] at hD'
      have d3 : decide (32 ≤ xia) = true := by simpa using h32
      go_wp2_with fail
      refine (s_fail mv fuel g gm lo s A c _ 2 hSo.out).mono ?_; rintro e w7 ⟨rfl, hS7, hO7⟩
      have hS7' := Hd.mk hS7
      have hO7' := Hd.mk hO7
      clear hS7 hO7
      go_wp2
      go_ret
      exact ⟨A, c, _, rfl, fun h => by rw [← hD'.out] at h; exact absurd (show (2 : Int) = 0 from h) (by decide), by rw [← hD'.out]; exact hS7'.out, (hofo.out).trans (.inl rfl) hO7'.out, .inl rfl⟩
    rw [if_neg h32] at hD'
    have d3 : decide (32 ≤ xia) = false := by simpa using h32
    have y5 : 0 ≤ xia := hxia.1
    have y6 : xia < 32 := by omega
    have hml := hs'.out.mem
    have hby : Hd (ByR wo gm s.mem) := ⟨by obtain ⟨cm, h1, h2, -⟩ := hSo.out; exact h2⟩
    obtain ⟨hby1, hby2⟩ := hby.out.cell xia.toNat (by omega)
    rw [if_pos rfl] at hD'
    generalize hbv : s.mem[xia.toNat]'(by omega) = bv at *
    have hst := Hd.mk (hSo.out.setMem xia.toNat (xib % 256))
    clear hbv
    go_wp2
    go_still_tail 16, (by kernel_rfl)
    change wpList _ _ _ _ _ wo.drew
    go_wp2
    go_ret
    exact ⟨A, c, _, rfl, fun _ => by rw [← hD'.out], by rw [← hD'.out]; exact hst.out, by first | exact (hofo.out.set (.inr rfl) _).drew | exact hofo.out.drew.set (.inr rfl) _, .inl rfl⟩
  have t24 := beqF o24
  by_cases o25 : op = 25
  · subst o25
    rw [if_neg (by decide), if_pos rfl] at hD'
    have hos : opsOf ⟨25, iw, ia, ib, ic, imm, args⟩ = [ia] := rfl
    rw [hos] at hids
    clear hos
    obtain ⟨eia0, eia1⟩ := hxc.out ia (hids.out ia (by simp))
    obtain ⟨via, -⟩ := hXo.out.val ia eia0 eia1
    obtain ⟨hAv, hxa, -⟩ := hXo.out.2 (by omega)
    subst hAv
    have hgv := hxa.lt
    clear hxa
    have hxia := vl_rng hv'.out ia
    generalize vl vals ia = xia at *
    by_cases h30 : s.out.length = 30
    · rw [if_pos h30] at hD'
      have d3 : ((s.out.length : Int) == 30) = true := by simp; omega
      go_wp2_with fail
      refine (s_fail mv fuel g gm lo s A c _ 7 hSo.out).mono ?_; rintro e w7 ⟨rfl, hS7, hO7⟩
      have hS7' := Hd.mk hS7
      have hO7' := Hd.mk hO7
      clear hS7 hO7
      go_wp2
      go_ret
      exact ⟨A, c, _, rfl, fun h => by rw [← hD'.out] at h; exact absurd (show (7 : Int) = 0 from h) (by decide), by rw [← hD'.out]; exact hS7'.out, (hofo.out).trans (.inl rfl) hO7'.out, .inl rfl⟩
    · rw [if_neg h30] at hD'
      have d3 : ((s.out.length : Int) == 30) = false := by simp; omega
      have hal := Hd.mk fun (o : Obj) => (Below.refl wo.heap.size wo.drew).al (Nat.le_refl _) o
      have hol2 := hs'.out.out
      have hrow : Hd (wo.ownsRow lo 2 1 (.slice A s.out.length c) s.out.length (s.out.map (Value.int .i64)) ∧ lo ≤ wo.heap.size ∧ g < lo) := ⟨by obtain ⟨cm, h1, h2, h3, i1, i2, i3, h4⟩ := hSo.out; exact ⟨h3, i3, i1⟩⟩
      have hlo := hrow.out.2.1
      have hglo := hrow.out.2.2
      have f2 := kf'.out 2
      go_wp2
      go_region_law
        ((refine step_app_at rfl _ _ rfl lo _ s.out [xia] rfl (own_mv (show wo.drew.ownsRow lo _ _ _ _ _ from hrow.out.1) (hal.out _)) _ 1 1 rfl (rd_one _ _) (by omega) (by simp; omega) ?_
          intro v' w4 ho4 hg4 hn4
          have hS4 := (hSo.out.drew).mv (hal.out (.cells #[.int .i64 xia] 2))
          obtain ⟨A2', c2', hv2, hst⟩ := hS4.setOut (xs := s.out ++ [xia]) hg4 (by simpa using ho4) rfl
          have hgk := fun j => (World.cell?_of_block (a := ⟨g, j, none⟩) (hg4.block g (by simp; omega) (fun e => by have := own_block_ge hrow.out.1 g (by first | exact e | exact e.symm); omega))).trans (bat (hal.out (.cells #[.int .i64 xia] 2)) g kg j)
          have hgf := fun j => (World.frozen?_of_block (a := ⟨g, j, none⟩) (hg4.block g (by simp; omega) (fun e => by have := own_block_ge hrow.out.1 g (by first | exact e | exact e.symm); omega))).trans (World.frozen?_of_block (a := ⟨g, j, none⟩) ((hal.out (.cells #[.int .i64 xia] 2)).block g kg))
          have z2 := (hgk 2).trans k2
          have f2' := (hgf 2).trans f2
          have hof4 : Off g gm (blk A) Wb w4 := ((hofo.out.drew).then (hal.out (.cells #[.int .i64 xia] 2))).grown hg4 (fun b hb => .inr (.inr (.inl (by rw [← blk_eq]; exact hb))))
          have hnx : Nxt Wb (blk A) (blk A2') := by
            rw [← blk_eq A s.out.length c, ← blk_eq A2' (s.out ++ [xia]).length c2', ← hv2]
            rcases hn4 with h | h
            · exact .inl h
            · exact .inr fun b hb => by rw [hb] at h; simp at h; have := hBo.out.size; omega
          subst hv2
          have hst' := Hd.mk hst
          have hof4' := Hd.mk hof4
          have hnx' := Hd.mk hnx
          clear hst hof4 hnx hS4 hgk hgf ho4 hg4 hn4))
      all_goals
        go_wp2
        go_ret
        exact ⟨A2', c2', _, rfl, fun _ => by rw [← hD'.out], by have h9 := hst'.out; rw [← hD'.out]; simpa using h9, by first | exact (hof4'.out.set (.inl rfl) _).drew | exact hof4'.out.set (.inl rfl) _, hnx'.out⟩
  have t25 := beqF o25
  obtain rfl : op = 26 := by
    by_cases h : op = 26
    · exact h
    · exact absurd (inst_op hio'.out p1.out p2.out o21 o22 o27 h o25 o24) o23
  rw [if_pos rfl] at hD'
  obtain ⟨hi0, hi1⟩ := inst_imm hio'.out rfl
  try simp only at hi0 hi1
  have hos : opsOf ⟨26, iw, ia, ib, ic, imm, args⟩ = args := rfl
  rw [hos] at hids
  have hal := Hd.mk (hcall'.out rfl)
  have hx6 := Hd.mk x6
  have hown : Hd ((wo.alloc (.cells #[] 2)).ownsRow wo.heap.size 2 1 (.slice (some ⟨wo.heap.size, 0, none⟩) 0 0) 0 []) := ⟨own_empty _ _ _ _ _ rfl (Nat.le_refl _)⟩
  have hb00 : Hd (Below wo.heap.size wo (wo.alloc (.cells #[] 2))) := ⟨(Below.refl _ _).al (Nat.le_refl _) _⟩
  go_wp2
  clear hos x6
  go_loopw [15, 16] (fun s15 s16 wr => ∃ k : Nat, k ≤ args.length ∧ s16 = .int .i64 k ∧ Hd (wr.ownsRow wo.heap.size 2 1 s15 ((args.take k).map (vl vals)).length (((args.take k).map (vl vals)).map (Value.int .i64))) ∧ Hd (Below wo.heap.size wo wr)) (fun _ s16 _ => args.length - (intOf s16).toNat)
  case atStart => exact ⟨0, Nat.zero_le _, rfl, by simpa using hown, hb00⟩
  case round =>
    obtain ⟨k, hk, rfl, hoR, hbr⟩ := hrel
    obtain ⟨wi, rfl⟩ : ∃ wi : World, wi = wr := ⟨_, rfl⟩
    have hzi2 := hbr.out.size
    have x6 := (bat hbr.out (Wb.heap.size + 1) hz0 6).trans hx6.out
    by_cases hlt : k < args.length
    · obtain ⟨e0, e1⟩ := hxc.out args[k] (hids.out args[k] (List.getElem_mem hlt))
      obtain ⟨m0, -⟩ := (hXo.out.below hbr.out).val args[k] e0 e1
      obtain ⟨hAv, hxa, -⟩ := hXo.out.2 (by omega)
      have hAv' := Hd.mk hAv
      have hgv := hxa.lt
      clear hxa
      subst hAv
      have hsn : Hd ((args.take (k + 1)).map (vl vals) = (args.take k).map (vl vals) ++ [vl vals args[k]]) := ⟨by rw [List.take_succ_eq_append_getElem hlt, List.map_append]; rfl⟩
      obtain ⟨zb, zo, zcs, hA_, hzb2, hk_, hat_⟩ := (hia'.out).in0 (hBo.out.then hbr.out) k hlt
      cases hA_; cases hk_
      have hzw := Nat.lt_of_lt_of_le hzb2 (hBo.out.then hbr.out).size
      have q0 := hat_ 0 _ rfl
      clear hat_
      try simp at q0
      have hlen : Hd (((args.take k).map (vl vals)).length = k) := ⟨by simp; omega⟩
      generalize (args.take k).map (vl vals) = xs at *
      generalize vl vals args[k] = ga at *
      generalize args[k] = id at *
      obtain ⟨As, cS, rfl, hcs, -, -, -⟩ := own_shape hoR.out
      have el0 : (0 : Int) ≤ (k : Int) := by omega
      have el1 : (k : Int) < (args.length : Int) := by omega
      have hal2 := Hd.mk fun (o : Obj) => (Below.refl wi.heap.size wi).al (Nat.le_refl _) o
      go_wp2_with (at_builtin; refine app_I rfl _ _ rfl wo.heap.size _ xs [ga] rfl (own_mv hoR.out (hal2.out _)) _ 1 1 rfl (rd_one _ _) (by have := hlen.out; omega) (by simp; omega) ?_; intro v' w6 ho6 hg6; have ho6' := Hd.mk ho6; have hb6 : Hd (Below wo.heap.size wo w6) := ⟨below_app (hbr.out.then (hal2.out (.cells #[.int .i64 ga] 2))) hg6 (by simp; omega) (own_mv hoR.out (hal2.out _)) (Nat.le_refl _)⟩)
      go_roundw
      case rel => exact ⟨k + 1, by omega, by go_num, ⟨by rw [hsn.out]; simpa using ho6'.out⟩, hb6⟩
      case measure => simp [intOf]; omega
    · have e : k = args.length := by omega
      subst e
      rw [List.take_length] at hoR
      have hri2 := OI.rd hoR.out (by simp; omega)
      have hBm := Hd.mk (hBW'.out.then (hBo.out.then hbr.out))
      have x5' := (bat hbr.out (Wb.heap.size + 1) hz0 5).trans x5
      have hrun := H'.out imm (args.map (vl vals)) s A c _ wi ⟨hi0, hi1⟩ hs'.out (fun x hx => by obtain ⟨a, -, rfl⟩ := List.mem_map.1 hx; exact vl_rng hv'.out a) (by rw [List.length_map]; exact hal.out) (hSo.out.mv hbr.out) hri2 hBm.out
      obtain ⟨Aq, cq, rfl, -, -, -, -⟩ := own_shape hoR.out
      rw [List.length_map] at hrun
      generalize call imm (args.map (vl vals)) s = R at *
      have hbr' := Hd.mk (hofo.out.then hbr.out)
      have hsz := Hd.mk (Nat.le_trans hBo.out.size hbr.out.size)
      clear hoR hri2 hal
      go_wp2_with fail
      refine hrun.mono ?_; rintro e w5 ⟨A', c', val, rfl, hval, hS5, hO5, hN5⟩
      have hS5' := Hd.mk hS5
      have hO5' := Hd.mk hO5
      have hN5' := Hd.mk hN5
      have hval' := Hd.mk hval
      clear hrun hS5 hO5 hN5 hval
      go_wp2
      go_ret
      exact ⟨A', c', _, rfl, by rw [← hD'.out]; exact hval'.out, by rw [← hD'.out]; exact hS5'.out, hbr'.out.trans (.inl rfl) hO5'.out, hN5'.out.imp id fun h b hb => Nat.le_trans hsz.out (h b hb)⟩
end Go.Proofs.YtkcgejbnhpccdaaGreat
