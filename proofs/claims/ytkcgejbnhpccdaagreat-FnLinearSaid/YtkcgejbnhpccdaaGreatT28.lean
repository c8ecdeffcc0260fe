import Derived.Test.YtkcgejbnhpccdaaGreatT27
import Derived.Test.YtkcgejbnhpccdaaGreatT10
import Derived.Test.YtkcgejbnhpccdaaGreatT17
import Derived.Deep.QuietTactic
import Derived.BigQuiet
set_option linter.unusedSimpArgs false
set_option linter.unusedVariables false
namespace Go.Proofs.YtkcgejbnhpccdaaGreat
open Go.RowKit
def DoneR (mv : Value) (fuel g gm lo : Nat) (d : Int) (R : (Int × Int) × RS) (A : Option Addr) (w : World) (e : Ending) (w' : World) : Prop :=
  ∃ A' c', e = .returned (.tuple #[.int .i64 R.1.1, .int .i64 R.1.2]) ∧ SI mv fuel g gm lo d R.2 A' c' w' ∧ Off g gm (blk A) w w' ∧ Nxt w (blk A) (blk A')
def RunH (call : Callee) (m : XMod) (mv : Value) (fuel g gm lo : Nat) (d : Int) (B : World) : Prop := ∀ (k : Int) (args : List Int) (s : RS) (A : Option Addr) (c : Nat) (cf : List Value) (va : Value) (W : World), (0 ≤ k ∧ k < m.funcs.length) → ROk fuel s → (∀ x ∈ args, 0 ≤ x ∧ x ≤ 4294967295) → args.length = (m.funcs.getD k.toNat func0).params.length →
  SI mv fuel g gm lo d s A c W → KFunc lm B (m.funcs.getD k.toNat func0) cf → RI lm W va args → (0 < args.length → ∀ b, va.ownBlock = some b → b ≠ g) → Below B.heap.size B W → Calls Tryz.prog 73 #[.pointer (some ⟨g, 0, none⟩), .agg cf.toArray, va] W (DoneR mv fuel g gm lo d (call k args s) A W)
theorem sameRet {P : Program} {f : FuncId} {args : Array Value} {w : World} {v : Value} (h : Calls P f args w (Same v w)) : Calls P f args w (Ret v w) := h.mono fun _ _ ⟨he, hw⟩ => ⟨he, hw ▸ Below.refl _ _⟩
theorem cst_r {op : Int} (h : cst op = true) : 18 ≤ op ∧ op ≤ 20 := by unfold cst inR at h; simpa using h
theorem inst_op {ids n : Int} {i : XInst} (h : instOk ids n i = true) (h1 : bin i.op = false) (h2 : cst i.op = false) (h3 : i.op ≠ 21) (h4 : i.op ≠ 22) (h5 : i.op ≠ 27) (h6 : i.op ≠ 26) (h7 : i.op ≠ 25) (h8 : i.op ≠ 24) : i.op = 23 := by
  have := (inst_parts h).1
  unfold bin inR at h1
  unfold cst inR at h2
  simp only [Bool.and_eq_false_iff, decide_eq_false_iff_not] at h1 h2
  omega
set_option maxRecDepth 20000 in
set_option maxHeartbeats 16000000 in
theorem c_doR (call : Callee) (m : XMod) (Am : Option Addr) (cm : Nat) (fuel g gm lo : Nat) (d : Int) (B : World) (f : XFunc) (pv bv : Value) (gx gv n : Nat) (vals : List Int) (s : RS) (A : Option Addr) (c : Nat) (i : XInst) (va : Value) (Wb : World)
    (hm : KMod lm B m [.slice Am m.funcs.length cm]) (H : RunH call m (.slice Am m.funcs.length cm) fuel g gm lo d B) (hBW : Below B.heap.size B Wb) (hS : SI (.slice Am m.funcs.length cm) fuel g gm lo d s A c Wb) (hF : FR pv bv f.ret gx gv n vals Wb) (hf : KFunc lm Wb f [pv, .int .i64 f.ret, bv]) (hfo : Fo f)
    (hn : vals.length = n) (hc : (n : Int) = countOf f) (hv : VOk n vals) (hs : ROk fuel s) (hio : instOk (countOf f) m.funcs.length i = true) (hia : RI lm Wb va i.args) (hcall : i.op = 26 → i.args.length = (m.funcs.getD i.imm.toNat func0).params.length) :
    Calls Tryz.prog 97 #[.pointer (some ⟨g, 0, none⟩), .pointer (some ⟨gx, 0, none⟩), instV i va] Wb (DoneR (.slice Am m.funcs.length cm) fuel g gm lo d (doI call f i vals s) A Wb) := by
  have hops := fun w (hw : Below Wb.heap.size Wb w) => c_OperandsOf i va w (hia.mv hw)
  have hids := Hd.mk (inst_parts hio).2.1
  obtain ⟨Aa, ca, rfl, hca, hla, -⟩ := hia.sm
  have hol := opsOf_len i hla
  have hc60 := hfo.2.1
  have hS' := Hd.mk hS
  have hF' := Hd.mk hF
  have hf' := Hd.mk hf
  have hfo' := Hd.mk hfo
  have hBW' := Hd.mk hBW
  have hm' := Hd.mk hm
  have hv' := Hd.mk hv
  have hs' := Hd.mk hs
  have hio' := Hd.mk hio
  have hia' := Hd.mk hia
  have H' := Hd.mk H
  have hcall' := Hd.mk hcall
  generalize hD : doI call f i vals s = D
  have hD' := Hd.mk hD
  obtain ⟨os, hos⟩ : ∃ os, os = opsOf i := ⟨_, rfl⟩
  rw [← hos] at hops hids hol
  have hos' := Hd.mk hos
  obtain ⟨W0, hW0⟩ : ∃ W0 : World, W0 = Wb.alloc (.cells #[.int .i64 i.op, .int .i64 i.w, .int .i64 i.a, .int .i64 i.b, .int .i64 i.c, .int .i64 i.imm, .slice Aa i.args.length ca] 26) := ⟨_, rfl⟩
  have hB0 : Hd (Below Wb.heap.size Wb W0) := ⟨by rw [hW0]; exact (Below.refl _ _).al (Nat.le_refl _) _⟩
  have hz0 : Wb.heap.size < W0.heap.size := by rw [hW0]; simp
  have hz0b : W0.heap.size ≤ Wb.heap.size + 1 := by rw [hW0]; simp
  have hzi : Hd (∀ o u, [Value.int .i64 i.op, .int .i64 i.w, .int .i64 i.a, .int .i64 i.b, .int .i64 i.c, .int .i64 i.imm, .slice Aa i.args.length ca][o]? = some u → W0.cell? ⟨Wb.heap.size, o, none⟩ = some u) := ⟨fun o u hu => by rw [hW0]; exact new_cell _ _ _ rfl o u (by simpa using hu)⟩
  obtain ⟨W1, hW1⟩ : ∃ W1 : World, W1 = W0.alloc (.cells #[] 2) := ⟨_, rfl⟩
  have hB01 : Hd (Below W0.heap.size W0 W1) := ⟨by rw [hW1]; exact (Below.refl _ _).al (Nat.le_refl _) _⟩
  have hown : Hd (W1.ownsRow (Wb.heap.size + 1) 2 1 (.slice (some ⟨Wb.heap.size + 1, 0, none⟩) 0 0) 0 []) := ⟨by rw [hW1]; exact own_empty _ _ _ _ _ (by omega) (by omega)⟩
  have hz1 : W0.heap.size < W1.heap.size := by rw [hW1]; simp
  have hW0' := Hd.mk hW0
  have hW1' := Hd.mk hW1
  have hcw := fun j => bat (Below.refl W0.heap.size W0 |>.al (Nat.le_refl _) (.cells #[] 2)) Wb.heap.size (by omega) j
  clear hS hF hf hfo hBW hm hv hs hio hia H hcall hD hos hW0 hW1
  unfold instV at *
  have x0 := hzi.out 0 _ rfl
  have x1 := hzi.out 1 _ rfl
  have x2 := hzi.out 2 _ rfl
  have x3 := hzi.out 3 _ rfl
  have x4 := hzi.out 4 _ rfl
  have x5 := hzi.out 5 _ rfl
  have x6 := hzi.out 6 _ rfl
  go_enter Tryz.func97, Tryz.ntmps97
  go_wp2_with fail
  rw [← hW0'.out]
  go_wp2_with fail
  rw [← hW1'.out]
  refine (hops _ (hB0.out.then hB01.out)).mono ?_; rintro e w2 ⟨u2, rfl, ho2, hb2⟩
  have hri := Hd.mk ho2
  obtain ⟨Au, cu, rfl, -, -, -, -⟩ := own_shape ho2
  have hB2 := Hd.mk ((hB0.out.then hB01.out).then hb2)
  have hB12 := Hd.mk hb2
  have hB02 := Hd.mk (hB01.out.then hb2)
  have hown2 := Hd.mk (own_mv hown.out hb2)
  have hz2 := hb2.size
  clear hops ho2 hb2 x0 x1 x2 x3 x4 x5 x6 hcw
  go_wp2
  go_loopw [8, 19] (fun s8 s19 wr => ∃ k : Nat, k ≤ os.length ∧ s19 = .int .i64 k ∧ Hd (wr.ownsRow (Wb.heap.size + 1) 2 1 s8 ((os.take k).map (vl vals)).length (((os.take k).map (vl vals)).map (Value.int .i64))) ∧ Hd (Below W0.heap.size W0 wr) ∧ Hd (Off (Wb.heap.size + 1) (Wb.heap.size + 1) none w2 wr) ∧ Hd (∀ b, s8.ownBlock = some b → b = Wb.heap.size + 1 ∨ w2.heap.size ≤ b)) (fun _ s19 _ => os.length - (intOf s19).toNat)
  case atStart => exact ⟨0, Nat.zero_le _, rfl, by simpa using hown2, hB02, ⟨Off.refl _ _ _ _⟩, ⟨fun b hb => .inl (by simpa [Value.ownBlock] using hb.symm)⟩⟩
  case round =>
    obtain ⟨k, hk, rfl, hoR, hbr, hof, hob⟩ := hrel
    obtain ⟨wo, rfl⟩ : ∃ wo : World, wo = wr := ⟨_, rfl⟩
    have hBo := Hd.mk (hB0.out.then hbr.out)
    have hzo := hbr.out.size
    have hFo := Hd.mk (hF'.out.mv hBo.out)
    obtain ⟨z0, z1, z2, z3, zx, zv⟩ := hFo.out.cells
    by_cases hlt : k < os.length
    · have hid := hids.out os[k] (List.getElem_mem hlt)
      have hsn : Hd ((os.take (k + 1)).map (vl vals) = (os.take k).map (vl vals) ++ [vl vals os[k]]) := ⟨by rw [List.take_succ_eq_append_getElem hlt, List.map_append]; rfl⟩
      have hrr := OI.rd (own_offb hri.out hof.out (by omega)) (by omega)
      obtain ⟨zb, zo, zcs, hA_, hzb2, hk_, hat_⟩ := hrr.in0 (Below.refl wo.heap.size wo) k hlt
      cases hA_; cases hk_
      have q0 := hat_ 0 _ rfl
      clear hat_ hrr
      simp at q0
      obtain ⟨m0, -⟩ := hFo.out.val os[k] hid.1 (by omega)
      have hlen : Hd (((os.take k).map (vl vals)).length = k) := ⟨by simp; omega⟩
      generalize (os.take k).map (vl vals) = xs at *
      generalize vl vals os[k] = ga at *
      generalize os[k] = id at *
      obtain ⟨As, cS, rfl, hcs, -, -, -⟩ := own_shape hoR.out
      have el0 : (0 : Int) ≤ (k : Int) := by omega
      have el1 : (k : Int) < (os.length : Int) := by omega
      have el4 : id < (n : Int) := by omega
      have el5 : 0 ≤ id := hid.1
      have hal := Hd.mk fun (o : Obj) => (Below.refl wo.heap.size wo).al (Nat.le_refl _) o
      have hz2o := hof.out.size
      go_wp2_with (at_builtin; refine app_at rfl _ _ rfl (Wb.heap.size + 1) _ xs [ga] rfl (own_mv hoR.out (hal.out _)) _ 1 1 rfl (rd_one _ _) (by have := hlen.out; omega) (by simp; omega) ?_; intro v' w6 ho6 hg6 hn6; have ho6' := Hd.mk ho6; have hb6 : Hd (Below W0.heap.size W0 w6) := ⟨below_app (hbr.out.then (hal.out (.cells #[.int .i64 ga] 2))) hg6 (by simp; omega) (own_mv hoR.out (hal.out _)) (by omega)⟩; have hf6 : Hd (Off (Wb.heap.size + 1) (Wb.heap.size + 1) none w2 w6) := ⟨(hof.out.then (hal.out (.cells #[.int .i64 ga] 2))).grown hg6 (fun b hb => by rcases hob.out b hb with h | h; exact .inl h; exact .inr (.inr (.inr h)))⟩; have ho7 : Hd (∀ b, v'.ownBlock = some b → b = Wb.heap.size + 1 ∨ w2.heap.size ≤ b) := ⟨fun b hb => by rcases hn6 with h | h; exact hob.out b (h.symm.trans hb); (rw [hb] at h; right; simp at h; omega)⟩; clear ho6 hg6 hn6)
      go_roundw
      case rel => exact ⟨k + 1, by omega, by go_num, ⟨by rw [hsn.out]; simpa using ho6'.out⟩, hb6, hf6, ho7⟩
      case measure => simp [intOf]; omega
    · have e : k = os.length := by omega
      subst e
      rw [List.take_length] at hoR
      have hlw : Wb.heap.size < wo.heap.size := by omega
      have x0 := (bat hbr.out Wb.heap.size (by omega) 0).trans (hzi.out 0 _ rfl)
      have x1 := (bat hbr.out Wb.heap.size (by omega) 1).trans (hzi.out 1 _ rfl)
      have x2 := (bat hbr.out Wb.heap.size (by omega) 2).trans (hzi.out 2 _ rfl)
      have x3 := (bat hbr.out Wb.heap.size (by omega) 3).trans (hzi.out 3 _ rfl)
      have x4 := (bat hbr.out Wb.heap.size (by omega) 4).trans (hzi.out 4 _ rfl)
      have x5 := (bat hbr.out Wb.heap.size (by omega) 5).trans (hzi.out 5 _ rfl)
      have x6 := (bat hbr.out Wb.heap.size (by omega) 6).trans (hzi.out 6 _ rfl)
      have hSo := Hd.mk (hS'.out.mv hBo.out)
      obtain ⟨cM, k0, k1, k2, k3, k4, k5, kf, kg, kgm, kne⟩ := hSo.out.cells
      have kf' := Hd.mk kf
      have hisb := fun w => c_isBinary i.op w
      have hisc := fun w => c_isCast i.op w
      have hofo : Hd (Off g gm (blk A) Wb wo) := ⟨.of hBo.out⟩
      obtain ⟨op, iw, ia, ib, ic, imm, args⟩ := i
      simp only at x0 x1 x2 x3 x4 x5 x6 hD' hos' hia' hcall' hio' hisb hisc hla hca
      have hgW : g < Wb.heap.size := by obtain ⟨_, _, _, _, _, _, _, _, h, _⟩ := hS'.out.cells; exact h
      have hz2o := hof.out.size
      have hsg := Hd.mk (fun (b : Nat) hb => (show b ≠ g from by have := hob.out b hb; omega))
      clear hS' hF' hri hown2 hbr hk hlt kf hof hob
      clear hB0 hB01 hB02 hB12 hB2 hzi hown hW0' hW1'
      unfold doI at hD'
      by_cases o1 : bin op = true
      · rw [if_pos o1] at hD'
        rw [o1] at hisb
        obtain rfl : os = [ia, ib] := by rw [hos'.out]; unfold opsOf; simp [o1]
        have hoR2 : wo.ownsRow (Wb.heap.size + 1) 2 1 _ 2 [.int .i64 (vl vals ia), .int .i64 (vl vals ib)] := hoR.out
        obtain ⟨Aq, cq, rfl, -, -, -, hq4⟩ := own_shape hoR2
        obtain ⟨qb, rfl, hqb, hqc⟩ := hq4 (by omega)
        have v0 := hqc 0 _ rfl
        have v1 := hqc 1 _ rfl
        clear hq4 hqc hoR hoR2
        have hxia := vl_rng hv'.out ia
        have hxib := vl_rng hv'.out ib
        generalize vl vals ia = xia at *
        generalize vl vals ib = xib at *
        have hbn := fun N => c_Binary op iw xia xib (wo.drewN N)
        clear hisc o1
        by_cases h0 : (binV op iw xia xib).2 = 0
        · rw [if_pos h0] at hD'
          rw [h0] at hbn
          generalize (binV op iw xia xib).1 = r at *
          clear h0
          go_wp2_with fail
          refine (hisb _).mono ?_; rintro e w3 ⟨rfl, rfl⟩
          go_wp2
          go_quiet (first | (go_at_call 139; exact quietS' (hbn _)))
          go_wp2
          go_ret2
          exact ⟨A, c, by rw [← hD'.out]; rfl, by rw [← hD'.out]; exact hSo.out.drewN _, hofo.out.drewN _, .inl rfl⟩
        · rw [if_neg h0] at hD'
          have d0 := bneT h0
          have d1 := beqF h0
          generalize (binV op iw xia xib).1 = r at *
          generalize (binV op iw xia xib).2 = r2 at *
          go_wp2_with fail
          refine (hisb _).mono ?_; rintro e w3 ⟨rfl, rfl⟩
          go_wp2
          go_quiet (first | (go_at_call 139; exact quietS' (hbn _)))
          go_wp2
          go_ret2
          exact ⟨A, c, by rw [← hD'.out]; rfl, by rw [← hD'.out]; exact hSo.out.drewN _, hofo.out.drewN _, .inl rfl⟩
      rw [if_neg o1] at hD'
      have b1 : bin op = false := by simpa using o1
      rw [b1] at hisb
      have p1 := Hd.mk b1
      clear o1 b1
      by_cases o2 : cst op = true
      · rw [if_pos o2] at hD'
        rw [o2] at hisc
        obtain rfl : os = [ia] := by rw [hos'.out]; unfold opsOf; simp [o2, show bin op = false from p1.out, show (op == 24) = false from beqF (by have := cst_r o2; omega)]
        have hoR2 : wo.ownsRow (Wb.heap.size + 1) 2 1 _ 1 [.int .i64 (vl vals ia)] := hoR.out
        obtain ⟨Aq, cq, rfl, -, -, -, hq4⟩ := own_shape hoR2
        obtain ⟨qb, rfl, hqb, hqc⟩ := hq4 (by omega)
        have v0 := hqc 0 _ rfl
        clear hq4 hqc hoR hoR2
        have hxia := vl_rng hv'.out ia
        generalize vl vals ia = xia at *
        have hty := fun W (hW : Below wo.heap.size wo W) => c_TypeOfB f _ ia W (KM.mv hf'.out (hBo.out.then hW)) hfo'.out
        have hct := fun W => sameRet (c_Casted op (typeOf f ia) iw xia W)
        generalize typeOf f ia = tf at *
        generalize (castV op tf iw xia).1 = r at *
        generalize (castV op tf iw xia).2 = r2 at *
        clear o2
        go_wp2_with fail
        refine (hisb _).mono ?_; rintro e w3 ⟨rfl, rfl⟩
        go_wp2_with fail
        refine (hisc _).mono ?_; rintro e w3 ⟨rfl, rfl⟩
        go_wp2
        refine wp_region_bel (by kernel_rfl) (by kernel_rfl) ?_
        simp only [List.toList_toArray]
        repeat' first
          | (refine seq_val (by rfl) (by intro W hS; have s0 := (bat hS Wb.heap.size hlw 0).trans x0; have s1 := (bat hS Wb.heap.size hlw 1).trans x1; have s2 := (bat hS Wb.heap.size hlw 2).trans x2; have t0 := (bat hS gx zx 0).trans z0; have t1 := (bat hS gx zx 1).trans z1; have t2 := (bat hS gx zx 2).trans z2; have u0 := (bat hS qb hqb 0).trans v0; go_simp; first | done | rfl) ?_; simp only [Act.put, List.setIfInBounds_toArray, List.set_cons_zero, List.set_cons_succ])
          | (refine seq_skip (by rfl) ?_; simp only [Act.put, List.setIfInBounds_toArray, List.set_cons_zero, List.set_cons_succ])
          | (refine seq_ret 142 _ (by rfl) (by intro W hS; have s0 := (bat hS Wb.heap.size hlw 0).trans x0; have s1 := (bat hS Wb.heap.size hlw 1).trans x1; have s2 := (bat hS Wb.heap.size hlw 2).trans x2; have t0 := (bat hS gx zx 0).trans z0; have t1 := (bat hS gx zx 1).trans z1; have t2 := (bat hS gx zx 2).trans z2; have u0 := (bat hS qb hqb 0).trans v0; go_simp; first | done | rfl) (fun W hS => hty W hS) ?_; simp only [Act.put, List.setIfInBounds_toArray, List.set_cons_zero, List.set_cons_succ])
          | (refine seq_ret 141 _ (by rfl) (by intro W hS; have s0 := (bat hS Wb.heap.size hlw 0).trans x0; have s1 := (bat hS Wb.heap.size hlw 1).trans x1; have s2 := (bat hS Wb.heap.size hlw 2).trans x2; have t0 := (bat hS gx zx 0).trans z0; have t1 := (bat hS gx zx 1).trans z1; have t2 := (bat hS gx zx 2).trans z2; have u0 := (bat hS qb hqb 0).trans v0; go_simp; first | done | rfl) (fun W hS => hct W) ?_; simp only [Act.put, List.setIfInBounds_toArray, List.set_cons_zero, List.set_cons_succ])
          | fail
        refine seq_nil (fun W hS => ?_)
        have s0 := (bat hS Wb.heap.size hlw 0).trans x0
        have s1 := (bat hS Wb.heap.size hlw 1).trans x1
        have s2 := (bat hS Wb.heap.size hlw 2).trans x2
        have t0 := (bat hS gx zx 0).trans z0
        have t1 := (bat hS gx zx 1).trans z1
        have t2 := (bat hS gx zx 2).trans z2
        have u0 := (bat hS qb hqb 0).trans v0
        go_wp2
        go_ret2
        exact ⟨A, c, by rw [← hD'.out]; rfl, by rw [← hD'.out]; exact hSo.out.mv hS, hofo.out.then hS, .inl rfl⟩
      rw [if_neg o2] at hD'
      have b2 : cst op = false := by simpa using o2
      rw [b2] at hisc
      have p2 := Hd.mk b2
      clear o2 b2
      by_cases o21 : op = 21
      · subst o21
        rw [if_pos rfl] at hD'
        go_wp2_with fail
        refine (hisb _).mono ?_; rintro e w3 ⟨rfl, rfl⟩
        go_wp2_with fail
        refine (hisc _).mono ?_; rintro e w3 ⟨rfl, rfl⟩
        go_wp2
        go_ret2
        exact ⟨A, c, by rw [← hD'.out]; rfl, by rw [← hD'.out]; exact hSo.out, hofo.out, .inl rfl⟩
      rw [if_neg o21] at hD'
      have t21 := beqF o21
      by_cases o22 : op = 22
      · subst o22
        rw [if_pos rfl] at hD'
        obtain rfl : os = [ia, ib, ic] := by rw [hos'.out]; rfl
        have hoR2 : wo.ownsRow (Wb.heap.size + 1) 2 1 _ 3 [.int .i64 (vl vals ia), .int .i64 (vl vals ib), .int .i64 (vl vals ic)] := hoR.out
        obtain ⟨Aq, cq, rfl, -, -, -, hq4⟩ := own_shape hoR2
        obtain ⟨qb, rfl, hqb, hqc⟩ := hq4 (by omega)
        have v0 := hqc 0 _ rfl
        have v1 := hqc 1 _ rfl
        have v2 := hqc 2 _ rfl
        clear hq4 hqc hoR hoR2
        have hxia := vl_rng hv'.out ia
        have hxib := vl_rng hv'.out ib
        have hxic := vl_rng hv'.out ic
        generalize vl vals ia = xia at *
        generalize vl vals ib = xib at *
        generalize vl vals ic = xic at *
        by_cases h0 : xia = 1
        · rw [if_pos h0] at hD'
          subst h0
          go_wp2_with fail
          refine (hisb _).mono ?_; rintro e w3 ⟨rfl, rfl⟩
          go_wp2_with fail
          refine (hisc _).mono ?_; rintro e w3 ⟨rfl, rfl⟩
          go_wp2
          go_ret2
          exact ⟨A, c, by rw [← hD'.out]; rfl, by rw [← hD'.out]; exact hSo.out, hofo.out, .inl rfl⟩
        · rw [if_neg h0] at hD'
          have d0 := beqF h0
          go_wp2_with fail
          refine (hisb _).mono ?_; rintro e w3 ⟨rfl, rfl⟩
          go_wp2_with fail
          refine (hisc _).mono ?_; rintro e w3 ⟨rfl, rfl⟩
          go_wp2
          go_ret2
          exact ⟨A, c, by rw [← hD'.out]; rfl, by rw [← hD'.out]; exact hSo.out, hofo.out, .inl rfl⟩
      rw [if_neg o22] at hD'
      have t22 := beqF o22
      by_cases o27 : op = 27
      · subst o27
        rw [if_pos rfl] at hD'
        obtain rfl : os = [ia] := by rw [hos'.out]; rfl
        have hoR2 : wo.ownsRow (Wb.heap.size + 1) 2 1 _ 1 [.int .i64 (vl vals ia)] := hoR.out
        obtain ⟨Aq, cq, rfl, -, -, -, hq4⟩ := own_shape hoR2
        obtain ⟨qb, rfl, hqb, hqc⟩ := hq4 (by omega)
        have v0 := hqc 0 _ rfl
        clear hq4 hqc hoR hoR2
        have hxia := vl_rng hv'.out ia
        generalize vl vals ia = xia at *
        go_wp2_with fail
        refine (hisb _).mono ?_; rintro e w3 ⟨rfl, rfl⟩
        go_wp2_with fail
        refine (hisc _).mono ?_; rintro e w3 ⟨rfl, rfl⟩
        go_wp2
        go_ret2
        exact ⟨A, c, by rw [← hD'.out]; rfl, by rw [← hD'.out]; exact hSo.out, hofo.out, .inl rfl⟩
      rw [if_neg o27] at hD'
      have t27 := beqF o27
      by_cases o26 : op = 26
      · subst o26
        rw [if_pos rfl] at hD'
        obtain ⟨hi0, hi1⟩ := inst_imm hio'.out rfl
        obtain ⟨him0, him1⟩ : 0 ≤ imm ∧ imm < m.funcs.length := ⟨hi0, hi1⟩
        obtain rfl : os = args := by rw [hos'.out]; rfl
        have hBm := Hd.mk (hBW'.out.then hBo.out)
        obtain ⟨vm, hvm, hrm⟩ := hm'.out
        simp only [List.cons.injEq, and_true] at hvm
        subst hvm
        have hmi : imm.toNat < m.funcs.length := by omega
        obtain ⟨eb, eo, ecs, hA_, heb, ⟨fv1, fv2, rfl, hr_, hr2_⟩, hat_⟩ := (hrm).in0 (hBm.out) (imm.toNat) (hmi)
        cases hA_
        have hew := Nat.lt_of_lt_of_le heb (hBm.out).size
        have g0 := hat_ 0 _ rfl
        have g1 := hat_ 1 _ rfl
        have g2 := hat_ 2 _ rfl
        clear hat_
        simp at g0 g1 g2
        obtain ⟨Af, cf, rfl, hcf, hlf, hrf⟩ := hr_.sm
        obtain ⟨Ab, cb, rfl, hcb, hlb, hrb⟩ := hr2_.sm
        clear hr_ hr2_
        have hgd : Hd (m.funcs.getD imm.toNat func0 = m.funcs[imm.toNat]) := ⟨by rw [List.getD_eq_getElem?_getD, List.getElem?_eq_getElem hmi]; rfl⟩
        have hal := hcall'.out rfl
        have hKf : KFunc lm B (m.funcs.getD imm.toNat func0) [.slice Af m.funcs[imm.toNat].params.length cf, .int .i64 m.funcs[imm.toNat].ret, .slice Ab m.funcs[imm.toNat].blocks.length cb] := by rw [hgd.out]; exact ⟨_, _, rfl, hrf.out, hrb.out⟩
        have hdr : Below wo.heap.size wo wo.drew := (Below.refl _ _).drew
        have hri2 := OI.rd hoR.out (by simp; omega)
        have hrun := H'.out imm (os.map (vl vals)) s A c _ _ wo.drew ⟨hi0, hi1⟩ hs'.out (fun x hx => by obtain ⟨a, -, rfl⟩ := List.mem_map.1 hx; exact vl_rng hv'.out a) (by rw [List.length_map]; exact hal) hSo.out.drew hKf (hri2.mv hdr) (fun _ => hsg.out) (hBm.out.then hdr)
        obtain ⟨Aq, cq, rfl, -, -, -, -⟩ := own_shape hoR.out
        rw [List.length_map] at hrun
        generalize m.funcs[imm.toNat] = fn at *
        generalize call imm (os.map (vl vals)) s = R at *
        clear hoR hgd hal hKf hri2 hrm hdr H' hcall' hio' hos' hids
        go_wp2_with fail
        refine (hisb _).mono ?_; rintro e w3 ⟨rfl, rfl⟩
        go_wp2_with fail
        refine (hisc _).mono ?_; rintro e w3 ⟨rfl, rfl⟩
        go_wp2
        go_region_with ((go_at_call 73; refine hrun.mono ?_; rintro e w5 ⟨A', c', rfl, hS5, hO5, hN5⟩; have hS5' := Hd.mk hS5; have hO5' := Hd.mk hO5; have hN5' := Hd.mk hN5; clear hS5 hO5 hN5))
        all_goals
          go_wp2
          go_ret2
          exact ⟨A', c', by rw [← hD'.out]; rfl, by rw [← hD'.out]; exact hS5'.out, hofo.out.drew.trans (.inl rfl) hO5'.out, hN5'.out.imp id fun h b hb => Nat.le_trans hBo.out.size (h b hb)⟩
      rw [if_neg o26] at hD'
      have t26 := beqF o26
      by_cases o25 : op = 25
      · subst o25
        rw [if_pos rfl] at hD'
        obtain rfl : os = [ia] := by rw [hos'.out]; rfl
        have hoR2 : wo.ownsRow (Wb.heap.size + 1) 2 1 _ 1 [.int .i64 (vl vals ia)] := hoR.out
        obtain ⟨Aq, cq, rfl, -, -, -, hq4⟩ := own_shape hoR2
        obtain ⟨qb, rfl, hqb, hqc⟩ := hq4 (by omega)
        have v0 := hqc 0 _ rfl
        clear hq4 hqc hoR hoR2
        have hxia := vl_rng hv'.out ia
        generalize vl vals ia = xia at *
        by_cases h30 : s.out.length = 30
        · rw [if_pos h30] at hD'
          have d3 : ((s.out.length : Int) == 30) = true := by simp; omega
          go_wp2_with fail
          refine (hisb _).mono ?_; rintro e w3 ⟨rfl, rfl⟩
          go_wp2_with fail
          refine (hisc _).mono ?_; rintro e w3 ⟨rfl, rfl⟩
          go_wp2
          go_ret2
          exact ⟨A, c, by rw [← hD'.out]; rfl, by rw [← hD'.out]; exact hSo.out, hofo.out, .inl rfl⟩
        · rw [if_neg h30] at hD'
          have d3 : ((s.out.length : Int) == 30) = false := by simp; omega
          have hal := Hd.mk fun (o : Obj) => (Below.refl wo.heap.size wo.drew).al (Nat.le_refl _) o
          have hol2 := hs'.out.out
          have hrow : Hd (wo.ownsRow lo 2 1 (.slice A s.out.length c) s.out.length (s.out.map (Value.int .i64)) ∧ lo ≤ wo.heap.size ∧ g < lo) := ⟨by obtain ⟨cm, h1, h2, h3, i1, i2, i3, h4⟩ := hSo.out; exact ⟨h3, i3, i1⟩⟩
          have hlo := hrow.out.2.1
          have hglo := hrow.out.2.2
          have f2 := kf'.out 2
          go_wp2_with fail
          refine (hisb _).mono ?_; rintro e w3 ⟨rfl, rfl⟩
          go_wp2_with fail
          refine (hisc _).mono ?_; rintro e w3 ⟨rfl, rfl⟩
          go_wp2
          go_region_law
            ((refine step_app_at rfl _ _ rfl lo _ s.out [xia] rfl (own_mv (show wo.drew.ownsRow lo _ _ _ _ _ from hrow.out.1) (hal.out _)) _ 1 1 rfl (rd_one _ _) (by omega) (by simp; omega) ?_
              intro v' w4 ho4 hg4 hn4
              have hS4 := (hSo.out.drew).mv (hal.out (.cells #[.int .i64 xia] 2))
              obtain ⟨A2, c2, hv2, hst⟩ := hS4.setOut (xs := s.out ++ [xia]) hg4 (by simpa using ho4) rfl
              have hgk := fun j => (World.cell?_of_block (a := ⟨g, j, none⟩) (hg4.block g (by simp; omega) (fun e => by have := own_block_ge hrow.out.1 g (by first | exact e | exact e.symm); omega))).trans (bat (hal.out (.cells #[.int .i64 xia] 2)) g kg j)
              have hgf := fun j => (World.frozen?_of_block (a := ⟨g, j, none⟩) (hg4.block g (by simp; omega) (fun e => by have := own_block_ge hrow.out.1 g (by first | exact e | exact e.symm); omega))).trans (World.frozen?_of_block (a := ⟨g, j, none⟩) ((hal.out (.cells #[.int .i64 xia] 2)).block g kg))
              have c2' := (hgk 2).trans k2
              have f2' := (hgf 2).trans f2
              have hof4 : Off g gm (blk A) Wb w4 := ((hofo.out.drew).then (hal.out (.cells #[.int .i64 xia] 2))).grown hg4 (fun b hb => .inr (.inr (.inl (by rw [← blk_eq]; exact hb))))
              have hnx : Nxt Wb (blk A) (blk A2) := by
                rw [← blk_eq A s.out.length c, ← blk_eq A2 (s.out ++ [xia]).length c2, ← hv2]
                rcases hn4 with h | h
                · exact .inl h
                · exact .inr fun b hb => by rw [hb] at h; simp at h; have := hBo.out.size; omega
              subst hv2
              have hst' := Hd.mk hst
              have hof4' := Hd.mk hof4
              have hnx' := Hd.mk hnx
              clear hst hof4 hnx hS4 hgk hgf ho4 hg4 hn4))
          all_goals
            go_wp2
            go_ret2
            exact ⟨A2, c2, by rw [← hD'.out]; rfl, by have h9 := hst'.out; rw [← hD'.out]; simpa using h9, by first | exact (hof4'.out.set (.inl rfl) _).drew | exact hof4'.out.set (.inl rfl) _, hnx'.out⟩
      rw [if_neg o25] at hD'
      have t25 := beqF o25
      have h23 : op ≠ 24 → op = 23 := fun h => inst_op hio'.out p1.out p2.out o21 o22 o27 o26 o25 h
      by_cases o24 : op = 24
      · subst o24
        obtain rfl : os = [ia, ib] := by rw [hos'.out]; rfl
        have hoR2 : wo.ownsRow (Wb.heap.size + 1) 2 1 _ 2 [.int .i64 (vl vals ia), .int .i64 (vl vals ib)] := hoR.out
        obtain ⟨Aq, cq, rfl, -, -, -, hq4⟩ := own_shape hoR2
        obtain ⟨qb, rfl, hqb, hqc⟩ := hq4 (by omega)
        have v0 := hqc 0 _ rfl
        have v1 := hqc 1 _ rfl
        clear hq4 hqc hoR hoR2
        have hxia := vl_rng hv'.out ia
        have hxib := vl_rng hv'.out ib
        generalize vl vals ia = xia at *
        generalize vl vals ib = xib at *
        by_cases h32 : 32 ≤ xia
        · rw [if_pos h32] at hD'
          have d3 : decide (32 ≤ xia) = true := by simpa using h32
          go_wp2_with fail
          refine (hisb _).mono ?_; rintro e w3 ⟨rfl, rfl⟩
          go_wp2_with fail
          refine (hisc _).mono ?_; rintro e w3 ⟨rfl, rfl⟩
          go_wp2
          go_ret2
          exact ⟨A, c, by rw [← hD'.out]; rfl, by rw [← hD'.out]; exact hSo.out, hofo.out, .inl rfl⟩
        rw [if_neg h32] at hD'
        have d3 : decide (32 ≤ xia) = false := by simpa using h32
        have y5 : 0 ≤ xia := hxia.1
        have y6 : xia < 32 := by omega
        have hml := hs'.out.mem
        have hby : Hd (ByR wo gm s.mem) := ⟨by obtain ⟨cm, h1, h2, -⟩ := hSo.out; exact h2⟩
        obtain ⟨hby1, hby2⟩ := hby.out.cell xia.toNat (by omega)
        rw [if_pos rfl] at hD'
        generalize hbv : s.mem[xia.toNat]'(by omega) = bv at *
        have hst := Hd.mk (hSo.out.setMem xia.toNat (xib % 256))
        clear hbv
        go_wp2_with fail
        refine (hisb _).mono ?_; rintro e w3 ⟨rfl, rfl⟩
        go_wp2_with fail
        refine (hisc _).mono ?_; rintro e w3 ⟨rfl, rfl⟩
        go_wp2
        go_still_tail 12, (by kernel_rfl)
        change wpList _ _ _ _ _ wo.drew
        go_wp2
        go_ret2
        exact ⟨A, c, by rw [← hD'.out]; rfl, by rw [← hD'.out]; exact hst.out, by first | exact (hofo.out.set (.inr rfl) _).drew | exact hofo.out.drew.set (.inr rfl) _, .inl rfl⟩
      obtain rfl := h23 o24
      obtain rfl : os = [ia] := by rw [hos'.out]; rfl
      have hoR2 : wo.ownsRow (Wb.heap.size + 1) 2 1 _ 1 [.int .i64 (vl vals ia)] := hoR.out
      obtain ⟨Aq, cq, rfl, -, -, -, hq4⟩ := own_shape hoR2
      obtain ⟨qb, rfl, hqb, hqc⟩ := hq4 (by omega)
      have v0 := hqc 0 _ rfl
      clear hq4 hqc hoR hoR2
      have hxia := vl_rng hv'.out ia
      generalize vl vals ia = xia at *
      by_cases h32 : 32 ≤ xia
      · rw [if_pos h32] at hD'
        have d3 : decide (32 ≤ xia) = true := by simpa using h32
        go_wp2_with fail
        refine (hisb _).mono ?_; rintro e w3 ⟨rfl, rfl⟩
        go_wp2_with fail
        refine (hisc _).mono ?_; rintro e w3 ⟨rfl, rfl⟩
        go_wp2
        go_ret2
        exact ⟨A, c, by rw [← hD'.out]; rfl, by rw [← hD'.out]; exact hSo.out, hofo.out, .inl rfl⟩
      rw [if_neg h32] at hD'
      have d3 : decide (32 ≤ xia) = false := by simpa using h32
      have y5 : 0 ≤ xia := hxia.1
      have y6 : xia < 32 := by omega
      have hml := hs'.out.mem
      have hby : Hd (ByR wo gm s.mem) := ⟨by obtain ⟨cm, h1, h2, -⟩ := hSo.out; exact h2⟩
      obtain ⟨hby1, hby2⟩ := hby.out.cell xia.toNat (by omega)
      rw [if_neg o24] at hD'
      have hgt : Hd (s.mem.getD xia.toNat 0 = s.mem[xia.toNat]'(by omega)) := ⟨by rw [List.getD_eq_getElem?_getD, List.getElem?_eq_getElem (by omega)]; rfl⟩
      rw [hgt.out] at hD'
      have hbr := hs'.out.byt xia.toNat (by omega)
      generalize s.mem[xia.toNat]'(by omega) = bv at *
      clear hgt
      go_wp2_with fail
      refine (hisb _).mono ?_; rintro e w3 ⟨rfl, rfl⟩
      go_wp2_with fail
      refine (hisc _).mono ?_; rintro e w3 ⟨rfl, rfl⟩
      go_wp2
      go_quiet (fail)
      go_wp2
      go_ret2
      exact ⟨A, c, by rw [← hD'.out]; rfl, by rw [← hD'.out]; exact hSo.out.drewN _, hofo.out.drewN _, .inl rfl⟩
end Go.Proofs.YtkcgejbnhpccdaaGreat
