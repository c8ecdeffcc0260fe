import Derived.Test.YtkcgejbnhpccdaaGreatT21
set_option linter.unusedSimpArgs false
set_option linter.unusedVariables false
namespace Go.Proofs.YtkcgejbnhpccdaaGreat
open Go.RowKit
theorem step_appI {ops : Array Oper} {o : Oper} {a : Act} {W : World} {K : Act → World → Prop} {Q : Exit → Act → World → Prop} {E : Prop} (hgd : o.guard = none) (s x : Operand)
    (ho : o.op = .call { callee := .builtin .append, args := #[s, x], argTypes := #[24, 24] }) (base : Nat) (v : Value) (xs ys : List Int) (hs : a.eval s = v)
    (hown : W.ownsRow base 2 1 v xs.length (xs.map (Value.int .i64))) (A : Option Addr) (n c : Nat) (hx : a.eval x = .slice A n c) (hr : RI lm W (.slice A n c) ys) (hl : xs.length ≤ 1099511627776) (hb : base ≤ W.heap.size)
    (hK : ∀ v' w', w'.ownsRow base 2 1 v' (xs ++ ys).length ((xs ++ ys).map (Value.int .i64)) → W.grownBy w' v.ownBlock → (v'.ownBlock = v.ownBlock ∨ v'.ownBlock = some W.heap.size) → K (a.put o.dst v') w') :
    if Region.wanted o (yielded ops a.tmps) = true then Oper.wp Tryz.prog o a W K Q else E := by
  have hw : Region.wanted o (yielded ops a.tmps) = true := by simp [Region.wanted, hgd]
  rw [if_pos hw]
  obtain ⟨i0, hi, hz0, hz1, hz2⟩ := info_parts infoI
  obtain ⟨rfl, hle, hn, hsrc⟩ := hr.src
  cases A with
  | none =>
    obtain rfl := hn rfl
    obtain ⟨A', c', hv, _, _, hc0, _⟩ := hr
    cases hv
    obtain rfl := hc0 rfl
    have hrun := run_append_owned_none (P := Tryz.prog) (w := W) base 24 o.type 2 i0 1 Tryz.underlying24 hi v xs.length _ hown
    unfold Oper.wp
    simp only [List.length_nil] at hx
    simp [execOp, ho, resolve, invoke, builtin, hs, hx, hrun, Result.andThen]
    exact hK v W (by simpa using hown) ⟨rfl, rfl, rfl, Nat.le_refl _, fun _ _ _ => rfl⟩ (.inl rfl)
  | some ad =>
    obtain ⟨v', w', hrun, r1, r2, _, r4⟩ := run_append_own_at (P := Tryz.prog) W base 24 o.type 2 i0 (.int .i64 0) 1 8 Tryz.underlying24 hi hz0 hz1 hz2 rfl (by decide) v xs.length _ hown ad ys.length c (ys.map (Value.int .i64)) (by simp) (hsrc ad rfl) (by simp [Value.oneCell']) (by unfold maxLen; omega) (by omega) hb
    unfold Oper.wp
    simp [execOp, ho, resolve, invoke, builtin, hs, hx, hrun, Result.andThen]
    exact hK v' w' (by simpa using r1) r2 r4
theorem cell_lt {X : World} {a : Addr} {u : Value} (hc : X.cell? a = some u) : a.block < X.heap.size := by
  unfold World.cell? at hc
  split at hc
  · rename_i hh; exact (Array.getElem?_eq_some_iff.1 hh).1
  · cases hc
theorem rd_one_of {X : World} {g : Nat} {x : Int} (hc : X.cell? ⟨g, 0, none⟩ = some (.int .i64 x)) : RI lm X (.slice (some ⟨g, 0, none⟩) 1 1) [x] :=
  rd_new [x] rfl (show 1 ≤ lm by decide) (cell_lt hc) (fun i hi => by
    have h0 : i = 0 := by simp at hi; omega
    subst h0
    exact ⟨[.int .i64 x], rfl, rfl, fun j hj => by
      have h1 : j = 0 := by simp at hj; omega
      subst h1
      simpa using hc⟩)
theorem gb_fresh {W w1 w2 : World} {v : Value} {base e sz n : Nat} {cs : List Value} (h : Below W.heap.size W w1) (hg : w1.grownBy w2 v.ownBlock) (ho : w1.ownsRow base e sz v n cs) (hb : W.heap.size ≤ base) : Below W.heap.size W w2 :=
  h.grown hg h.size fun k hk => Nat.le_trans hb (own_block_ge ho k (by first | exact hk | exact hk.symm))
theorem bx_ri {E : Nat → Prop} {v : Value} {n : Nat} {W : World} (h : Bx E (QI v n) W) : ∃ A c xs, v = .slice A n c ∧ xs.length = n ∧ ∀ X, Below W.heap.size W X → RI lm X (.slice A n c) xs := by
  obtain ⟨xs, h1, -, h2⟩ := h.out
  obtain ⟨A, c, hv, hr⟩ := h2
  exact ⟨A, c, xs, by rw [hv, h1], h1, fun X hX => by rw [← h1, ← hv]; exact (show RI lm W v xs from ⟨A, c, hv, hr⟩).mv hX⟩
theorem GE.lt {C : GC} {D : GD} {W : World} (h : GS C D W) : ∀ b, GE C D b → b < W.heap.size := by
  rintro b (e | rfl | e | e | e | e | e)
  · have := h.hgg; have := h.lt; omega
  · exact h.lt
  · exact (own_blk h.oP b e).1
  · exact (own_blk h.oB b e).1
  · exact (own_blk h.oPh b e).1
  · exact (own_blk h.oIn b e).1
  · exact (h.hex b e).2.1
theorem row_done {C : GC} {D : GD} {W Wa w2 : World} {v : Value} {ys : List Int} {g : Nat} (h : GS C D W) (hg : g < Wa.heap.size) (ha : W.heap.size ≤ Wa.heap.size) (hb : Below Wa.heap.size Wa w2) (ho : w2.ownsRow Wa.heap.size 2 1 v ys.length (ys.map (.int .i64))) (hl : ys.length ≤ lm) (j : Nat) (u : Value) :
    Fr (fun q => q = g) Wa (w2.setCell ⟨g, j, none⟩ u) ∧ Bx (GE C D) (QI v ys.length) (w2.setCell ⟨g, j, none⟩ u) := by
  refine ⟨(Fr.of _ hb).go (Fr.set w2 g j u) fun _ e => .inl e, fun w' hw' => ?_⟩
  have hk : ∀ k, v.ownBlock = some k → Wa.heap.size ≤ k := own_block_ge ho
  have h1 := own_fr ho (Fr.set w2 g j u) (fun k e => by have := hk k e; omega)
  have h2 := own_fr h1 hw' (fun k e e' => by have := hk k e; have := GE.lt h k e'; omega)
  exact ⟨ys, rfl, trivial, (OwI.of h2).rd hl⟩
set_option maxRecDepth 20000 in
set_option maxHeartbeats 4000000 in
theorem s_add (C : GC) (D : GD) (wd : Int) (W : World) (h : GS C D W) (hn : D.next + 1 ≤ 900) (hi : D.nid + 1 ≤ 1000) : Calls Tryz.prog 113 #[.pointer (some ⟨C.gg, 0, none⟩), .int .i64 wd] W (fun e w' => ∃ q vids vws, e = .returned (.int .i64 q) ∧ GP C D {D with next := D.next + 1, vids := vids, vws := vws, nid := D.nid + 1} W w') := by
  have k10 := h.at 10
  have k11 := h.at 11
  have k12 := h.at 12
  simp [GD.cells] at k10 k11 k12
  have hlt := h.lt
  have f0 := h.fz
  have hn0 := h.n0
  obtain ⟨A1, c1, xs, e1, l1, r1⟩ := bx_ri h.eI
  rw [e1] at k11
  have r1' := Hd.mk r1
  have l1' := Hd.mk l1
  have hh := Hd.mk h
  have hi' := Hd.mk hi
  clear h r1 l1 e1 hi
  go_enter Tryz.func113, Tryz.ntmps113
  go_wp2
  refine wp_via (fun a a' Wa => ∃ (u5 u6 u7 u8 u9 u10 u11 u12 u13 u14 u15 u16 u17 u18 u19 : Value) (V : Value), a' = (((((((((((((((a.put (some 5) u5).put (some 6) u6).put (some 7) u7).put (some 8) u8).put (some 9) u9).put (some 10) u10).put (some 11) u11).put (some 12) u12).put (some 13) u13).put (some 14) u14).put (some 15) u15).put (some 16) u16).put (some 17) u17).put (some 18) u18).put (some 19) u19) ∧ Hd (Fr (fun q => q = C.gg) W Wa) ∧ Hd (Wa.heap[C.gg]? = some (.cells (GD.cells {D with vids := V} C).toArray 141 (0, 0))) ∧ Hd (Bx (GE C D) (QI V (D.nid + 1)) Wa)) ?_ ?_
  · go_region_law
      (first
        | (refine step_appI (by rfl) (.tmp 6) (.tmp 10) (by rfl) W.heap.size (.slice (some ⟨W.heap.size, 0, none⟩) 0 0) [] xs (by rfl) ?_ A1 D.nid c1 (by rfl) ?_ (by simp) ?_ ?_
           · first | exact own_empty _ _ _ _ _ (by first | rfl | simp) (by simp) | exact own_mv (own_empty _ _ _ _ _ (by first | rfl | simp) (by simp)) ((Below.refl _ _).al (Nat.le_refl _) _) | exact own_mv (own_empty _ _ _ _ _ (by first | rfl | simp) (by simp)) ((Below.refl _ _).al (Nat.le_refl _) _).drew
           · exact r1'.out _ (by repeat (first | exact Below.refl _ _ | assumption | refine Below.drew ?_ | refine Below.al ?_ (by first | exact Nat.le_refl _ | assumption | omega | (simp; done) | (simp; omega)) _))
           · first | omega | (simp; done) | (simp; omega)
           intro v1 w1 ho1 hg1 hn1
           have hb1 : Below W.heap.size W w1 := Below.grown (a := W) (by repeat (first | exact Below.refl _ _ | assumption | refine Below.drew ?_ | refine Below.al ?_ (by first | exact Nat.le_refl _ | assumption | omega | (simp; done) | (simp; omega)) _)) hg1 (by first | omega | (simp; done) | (simp; omega)) (fun k hk => by simp [Value.ownBlock] at hk; omega)
           have ho1' : w1.ownsRow W.heap.size 2 1 v1 xs.length (xs.map (.int .i64)) := by simpa using ho1
           have hz1 := hb1.size
           have k10_1 := (bat hb1 C.gg hlt 10).trans k10
           have k11_1 := (bat hb1 C.gg hlt 11).trans k11
           have f_1 := fun j => (fat hb1 C.gg hlt j).trans (f0 j)
           have hgg1 : C.gg < w1.heap.size := by omega)
        | (refine step_appI (by rfl) (.tmp 6) (.tmp 10) (by rfl) W.heap.size (.slice (some ⟨W.heap.size + 1, 0, none⟩) 0 0) [] xs (by rfl) ?_ A1 D.nid c1 (by rfl) ?_ (by simp) ?_ ?_
           · first | exact own_empty _ _ _ _ _ (by first | rfl | simp) (by simp) | exact own_mv (own_empty _ _ _ _ _ (by first | rfl | simp) (by simp)) ((Below.refl _ _).al (Nat.le_refl _) _) | exact own_mv (own_empty _ _ _ _ _ (by first | rfl | simp) (by simp)) ((Below.refl _ _).al (Nat.le_refl _) _).drew
           · exact r1'.out _ (by repeat (first | exact Below.refl _ _ | assumption | refine Below.drew ?_ | refine Below.al ?_ (by first | exact Nat.le_refl _ | assumption | omega | (simp; done) | (simp; omega)) _))
           · first | omega | (simp; done) | (simp; omega)
           intro v1 w1 ho1 hg1 hn1
           have hb1 : Below W.heap.size W w1 := Below.grown (a := W) (by repeat (first | exact Below.refl _ _ | assumption | refine Below.drew ?_ | refine Below.al ?_ (by first | exact Nat.le_refl _ | assumption | omega | (simp; done) | (simp; omega)) _)) hg1 (by first | omega | (simp; done) | (simp; omega)) (fun k hk => by simp [Value.ownBlock] at hk; omega)
           have ho1' : w1.ownsRow W.heap.size 2 1 v1 xs.length (xs.map (.int .i64)) := by simpa using ho1
           have hz1 := hb1.size
           have k10_1 := (bat hb1 C.gg hlt 10).trans k10
           have k11_1 := (bat hb1 C.gg hlt 11).trans k11
           have f_1 := fun j => (fat hb1 C.gg hlt j).trans (f0 j)
           have hgg1 : C.gg < w1.heap.size := by omega)
        | (refine step_appI (by rfl) (.tmp 11) (.tmp 16) (by rfl) W.heap.size v1 xs [D.next] (by rfl) ?_ (some ⟨w1.heap.size, 0, none⟩) 1 1 (by rfl) (rd_one_of ?_) ?_ ?_ ?_
           · first | exact ho1' | exact own_mv ho1' ((Below.refl _ _).al (Nat.le_refl _) _) | exact own_mv ho1' ((Below.refl _ _).al (Nat.le_refl _) _).drew
           · first | exact new_cell _ _ _ (by first | rfl | simp) 0 _ rfl | (rw [World.cell?_of_block (hg1.block _ (by first | omega | (simp; done) | (simp; omega)) (by simp [Value.ownBlock]; try omega))]; first | exact new_cell _ _ _ (by first | rfl | simp) 0 _ rfl | (simp; done))
           · have := l1'.out; have := hi'.out; omega
           · first | omega | (simp; done) | (simp; omega)
           intro v2 w2 ho2 hg2 hn2
           have hb2 : Below W.heap.size W w2 := gb_fresh (by repeat (first | exact Below.refl _ _ | assumption | refine Below.drew ?_ | refine Below.al ?_ (by first | exact Nat.le_refl _ | assumption | omega | (simp; done) | (simp; omega)) _)) hg2 (by first | exact ho1' | exact own_mv ho1' ((Below.refl _ _).al (Nat.le_refl _) _) | exact own_mv ho1' ((Below.refl _ _).al (Nat.le_refl _) _).drew) (Nat.le_refl _)
           obtain ⟨B2, d2, rfl, -, -⟩ := own_shape ho2
           have hz2 := hb2.size
           have k11_2 := (bat hb2 C.gg hlt 11).trans k11
           have f_2 := fun j => (fat hb2 C.gg hlt j).trans (f0 j))
        | (refine step_appI (by rfl) (.tmp 11) (.tmp 16) (by rfl) W.heap.size v1 xs [D.next] (by rfl) ?_ (some ⟨W.heap.size, 0, none⟩) 1 1 (by rfl) (rd_one_of ?_) ?_ ?_ ?_
           · first | exact ho1' | exact own_mv ho1' ((Below.refl _ _).al (Nat.le_refl _) _) | exact own_mv ho1' ((Below.refl _ _).al (Nat.le_refl _) _).drew
           · first | exact new_cell _ _ _ (by first | rfl | simp) 0 _ rfl | (rw [World.cell?_of_block (hg1.block _ (by first | omega | (simp; done) | (simp; omega)) (by simp [Value.ownBlock]; try omega))]; first | exact new_cell _ _ _ (by first | rfl | simp) 0 _ rfl | (simp; done))
           · have := l1'.out; have := hi'.out; omega
           · first | omega | (simp; done) | (simp; omega)
           intro v2 w2 ho2 hg2 hn2
           have hb2 : Below W.heap.size W w2 := gb_fresh (by repeat (first | exact Below.refl _ _ | assumption | refine Below.drew ?_ | refine Below.al ?_ (by first | exact Nat.le_refl _ | assumption | omega | (simp; done) | (simp; omega)) _)) hg2 (by first | exact ho1' | exact own_mv ho1' ((Below.refl _ _).al (Nat.le_refl _) _) | exact own_mv ho1' ((Below.refl _ _).al (Nat.le_refl _) _).drew) (Nat.le_refl _)
           obtain ⟨B2, d2, rfl, -, -⟩ := own_shape ho2
           have hz2 := hb2.size
           have k11_2 := (bat hb2 C.gg hlt 11).trans k11
           have f_2 := fun j => (fat hb2 C.gg hlt j).trans (f0 j))
        | (refine step_appI (by rfl) (.tmp 11) (.tmp 16) (by rfl) W.heap.size v1 xs [D.next] (by rfl) ?_ (some ⟨W.heap.size + 1, 0, none⟩) 1 1 (by rfl) (rd_one_of ?_) ?_ ?_ ?_
           · first | exact ho1' | exact own_mv ho1' ((Below.refl _ _).al (Nat.le_refl _) _) | exact own_mv ho1' ((Below.refl _ _).al (Nat.le_refl _) _).drew
           · first | exact new_cell _ _ _ (by first | rfl | simp) 0 _ rfl | (rw [World.cell?_of_block (hg1.block _ (by first | omega | (simp; done) | (simp; omega)) (by simp [Value.ownBlock]; try omega))]; first | exact new_cell _ _ _ (by first | rfl | simp) 0 _ rfl | (simp; done))
           · have := l1'.out; have := hi'.out; omega
           · first | omega | (simp; done) | (simp; omega)
           intro v2 w2 ho2 hg2 hn2
           have hb2 : Below W.heap.size W w2 := gb_fresh (by repeat (first | exact Below.refl _ _ | assumption | refine Below.drew ?_ | refine Below.al ?_ (by first | exact Nat.le_refl _ | assumption | omega | (simp; done) | (simp; omega)) _)) hg2 (by first | exact ho1' | exact own_mv ho1' ((Below.refl _ _).al (Nat.le_refl _) _) | exact own_mv ho1' ((Below.refl _ _).al (Nat.le_refl _) _).drew) (Nat.le_refl _)
           obtain ⟨B2, d2, rfl, -, -⟩ := own_shape ho2
           have hz2 := hb2.size
           have k11_2 := (bat hb2 C.gg hlt 11).trans k11
           have f_2 := fun j => (fat hb2 C.gg hlt j).trans (f0 j)))
    all_goals
      unfold Exit.then
      go_simp
      refine ⟨⟨?_⟩, ⟨.slice B2 (xs.length + 1) d2, ⟨?_⟩, ⟨?_⟩⟩⟩
      · exact (row_done hh.out hlt (Nat.le_refl _) hb2 ho2 (by have h9 := l1'.out; have h8 := hi'.out; show (xs ++ [D.next]).length ≤ 1048576; simp; omega) 11 _).1
      · exact (heap_set ((hb2.block _ hlt).trans hh.out.cell)).trans (by simp [GD.cells])
      · have h9 := (row_done hh.out hlt (Nat.le_refl _) hb2 ho2 (by have h9 := l1'.out; have h8 := hi'.out; show (xs ++ [D.next]).length ≤ 1048576; simp; omega) 11 (.slice B2 (xs.length + 1) d2)).2
        rw [List.length_append, List.length_singleton] at h9
        rw [← l1'.out]
        exact h9
  · rintro a' Wa ⟨u5, u6, u7, u8, u9, u10, u11, u12, u13, u14, u15, u16, u17, u18, u19, V, rfl, hFa, hca, hba⟩
    obtain ⟨A2, c2, ys, e2, l2, r2⟩ := bx_ri (hh.out.eW.go (hFa.out.sub (E' := GE C D) (by rintro q rfl; simp [GE])) fun _ e => .inl e)
    have k12a := (row_facts hca.out).1 12
    have k10a := (row_facts hca.out).1 10
    have fa := (row_facts hca.out).2
    simp [GD.cells] at k12a k10a
    rw [e2] at k12a
    have hlta : C.gg < Wa.heap.size := (Array.getElem?_eq_some_iff.1 hca.out).1
    have r2' := Hd.mk r2
    have l2' := Hd.mk l2
    have hn9 : (0 : Int) ≤ D.next + 1 := by omega
    clear r1' r2 l2 e2 k10 k11 k12 f0 hlt
    simp only [Act.put, List.setIfInBounds_toArray, List.set_cons_zero, List.set_cons_succ]
    go_wp2_with (at_builtin; refine app_I rfl _ _ rfl Wa.heap.size _ [] ys rfl (own_empty _ _ _ _ _ rfl (by simp)) A2 D.nid c2 rfl (r2'.out _ ((Below.refl _ _).al (Nat.le_refl _) _)) (by simp) (by simp) ?_)
    intro v1 w1 ho1 hg1
    have hb1 : Below Wa.heap.size Wa w1 := Below.grown (a := Wa) ((Below.refl _ _).al (Nat.le_refl _) _) hg1 (by simp) (fun k hk => by simp [Value.ownBlock] at hk; omega)
    have ho1' : w1.ownsRow Wa.heap.size 2 1 v1 ys.length (ys.map (.int .i64)) := by simpa using ho1
    have hz1 := hb1.size
    have hlt1 : C.gg < w1.heap.size := by omega
    have k12_1 := (bat hb1 C.gg hlta 12).trans k12a
    have hal1 := Hd.mk fun (o : Obj) => (Below.refl w1.heap.size w1).al (Nat.le_refl _) o
    clear ho1 hg1
    go_wp2_with (at_builtin; refine app_I rfl _ _ rfl Wa.heap.size v1 ys [wd] rfl (own_mv ho1' (hal1.out _)) _ 1 1 rfl (rd_one _ _) (by have := l2'.out; have := hi'.out; omega) (by simp; omega) ?_)
    intro v2 w2 ho2 hg2
    have hb2 : Below Wa.heap.size Wa w2 := gb_fresh (hb1.then (hal1.out _)) hg2 (own_mv ho1' (hal1.out _)) (Nat.le_refl _)
    obtain ⟨B2, d2, rfl, -, -⟩ := own_shape ho2
    have hz2 := hb2.size
    have k12_2 := (bat hb2 C.gg hlta 12).trans k12a
    have k10_2 := (bat hb2 C.gg hlta 10).trans k10a
    have f_2 := fun j => (fat hb2 C.gg hlta j).trans (fa j)
    have hys : (ys ++ [wd]).length ≤ lm := by have h9 := l2'.out; have h8 := hi'.out; show _ ≤ 1048576; simp; omega
    have hrd := row_done (v := .slice B2 (ys.length + 1) d2) (ys := ys ++ [wd]) hh.out hlta hFa.out.size hb2 (by simpa using ho2) hys 12 (.slice B2 (ys.length + 1) d2)
    have hlen : (ys ++ [wd]).length = D.nid + 1 := by rw [List.length_append, List.length_singleton, l2'.out]
    have hrd1 := Hd.mk hrd.1
    have hrd2 : Hd (Bx (GE C D) (QI (.slice B2 (ys.length + 1) d2) (D.nid + 1)) (w2.setCell ⟨C.gg, 12, none⟩ (.slice B2 (ys.length + 1) d2))) := ⟨by
      have h9 := hrd.2
      rw [List.length_append, List.length_singleton] at h9
      rw [← l2'.out]
      exact h9⟩
    have hc2 := Hd.mk ((hb2.block _ hlta).trans hca.out)
    clear hrd ho2 hg2 hb2 hb1 hlen hys
    go_wp2
    go_ret
    have hF1 := (hFa.out.go hrd1.out fun _ e => .inl e).go (Fr.set _ C.gg 10 (.int .i64 (D.next + 1))) fun _ e => .inl e
    have hf3 : Fr (GE C D) (w2.setCell ⟨C.gg, 12, none⟩ (.slice B2 (ys.length + 1) d2)) ((w2.setCell ⟨C.gg, 12, none⟩ (.slice B2 (ys.length + 1) d2)).setCell ⟨C.gg, 10, none⟩ (.int .i64 (D.next + 1))) := (Fr.set _ C.gg 10 _).sub (by rintro q rfl; simp [GE])
    have hf2 : Fr (GE C D) Wa (w2.setCell ⟨C.gg, 12, none⟩ (.slice B2 (ys.length + 1) d2)) := hrd1.out.sub (by rintro q rfl; simp [GE])
    refine ⟨_, V, .slice B2 (ys.length + 1) d2, rfl, hh.out.mem D.tm D.ret (D.next + 1) V _ (D.nid + 1) (hF1.sub fun q e => .inl e) (hh.out.rs.fr hF1 hh.out.hgr hh.out.hgg) ?_ (hba.out.go (hf2.go hf3 fun _ e => .inl e) fun _ e => .inl e) (hrd2.out.go hf3 fun _ e => .inl e) hh.out.wR hn9 hn hi'.out⟩
    exact (heap_set (heap_set hc2.out)).trans (by simp [GD.cells])
end Go.Proofs.YtkcgejbnhpccdaaGreat
