import Derived.Test.YtkcgejbnhpccdaaGreatT50
import Derived.Test.YtkcgejbnhpccdaaGreatT10
set_option linter.unusedSimpArgs false
set_option linter.unusedVariables false
namespace Go.Proofs.YtkcgejbnhpccdaaGreat
open Go.RowKit
set_option maxRecDepth 40000 in
set_option maxHeartbeats 40000000 in
theorem s_oracle (lo g base T : Nat) (v : Value) (n : Nat) (cF : List Value) (w : World) (h : RdS lo w g) (hm : MD g base T v n cF w) : Calls Tryz.prog 58 #[.pointer (some ⟨g, 0, none⟩), .agg #[v]] w (RetO lo g w) := by
  have hgl := h.lt
  obtain ⟨k, rfl⟩ : ∃ k, n = k + 1 := ⟨n - 1, by have := hm.n1; omega⟩
  have hk2 : k ≤ 1 := by have := hm.n2; omega
  have hwk : IntKind.i64.wrap (((k + 1 : Nat) : Int) - 1) = (k : Int) := by rw [IntWalk.i64_in _ (by omega)]; omega
  have hk0 : (0 : Int) ≤ (k : Int) := by omega
  have hk1 : (k : Int) < ((k + 1 : Nat) : Int) := by omega
  obtain ⟨b, cap, A, c, ps, ret, A3, n3, c3, rfl, ⟨t0, t1, t2⟩, hps, hbx, hbl⟩ := hm.at k (by omega)
  obtain ⟨Wb, hWb⟩ : ∃ Wb : World, Wb = (w.alloc (.cells #[.slice (some ⟨b, 0, none⟩) (k + 1) cap] 38)).alloc (.cells #[.int .i64 0, .slice none 0 0, .string ⟨#[]⟩, .int .i64 0, .int .i64 0, .slice none 0 0, .string ⟨#[]⟩, .int .i64 0] 48) := ⟨_, rfl⟩
  have hzb : Wb.heap.size = w.heap.size + 2 := by rw [hWb]; simp
  have hBb : Below w.heap.size w Wb := by rw [hWb]; exact ((Below.refl w.heap.size w).al (Nat.le_refl _) _).al (by simp) _
  have hmb : Wb.heap[w.heap.size]? = some (.cells #[.slice (some ⟨b, 0, none⟩) (k + 1) cap] 38 (0, 0)) := by rw [hWb]; exact heap_old (heap_new _ _ _ _ rfl) (by simp)
  have hrb : Wb.heap[w.heap.size + 1]? = some (.cells #[.int .i64 0, .slice none 0 0, .string ⟨#[]⟩, .int .i64 0, .int .i64 0, .slice none 0 0, .string ⟨#[]⟩, .int .i64 0] 48 (0, 0)) := by rw [hWb]; exact heap_new _ _ _ _ (by simp)
  have hrs : RdS lo Wb g := by rw [hWb]; exact (h.al _).al _
  have hmd := Hd.mk (hm.bl hBb)
  have hp := s_args lo g A c ret (.slice A3 n3 c3) ps Wb hrs (hbx.out.go (Fr.of _ hBb) fun q e => .inl e) hps.1 hps.2
  have hBb' := Hd.mk hBb
  have hWb' := Hd.mk hWb
  have hmb' := Hd.mk hmb
  have hrb' := Hd.mk hrb
  clear hWb h hm hBb hrs hbx hps hmb hrb
  go_enter Tryz.func58, Tryz.ntmps58
  go_wp2_with fail
  rw [← hWb'.out]
  refine hp.mono ?_; rintro e w1 ⟨va, al, rfl, hal5, hoa, hr1, hg1⟩
  obtain ⟨Aa, ca, rfl, -, -, -, -⟩ := own_shape hoa
  have hp := s_mem lo g w1 hr1
  have hmd1 := Hd.mk (hmd.out.gb hg1)
  have hoa1 := Hd.mk hoa
  have hg1' := Hd.mk hg1
  have hr1' := Hd.mk hr1
  have m0 := (row_facts hmb'.out).1 0
  have m1 := (row_facts ((hg1.block w.heap.size (by omega) (by simp; omega)).trans hmb'.out)).1 0
  simp at m0 m1
  have hz1 := hg1.size
  clear hp hoa hr1 hg1 hmd
  have hp := s_mem lo g w1 hr1'.out
  go_wp2_with fail
  refine hp.mono ?_; rintro e w2 ⟨s, rfl, hs, hr2, hg2⟩
  have hmd2 := hmd1.out.gb hg2
  have hoa2 := own_fr hoa1.out (Fr.gb hg2) (fun q hq e => by have := own_in hoa1.out q hq; injection e with e; omega)
  have hbl2 := (Fr.gb hg1'.out).go (Fr.gb hg2) fun q e => .inl e
  have hmb2 := (hbl2.block w.heap.size (by omega) (by simp; omega)).trans hmb'.out
  have hrb2 := (hbl2.block (w.heap.size + 1) (by omega) (by simp; omega)).trans hrb'.out
  have hz2 := hg2.size
  have hoaI := own_in hoa1.out
  obtain ⟨W3, hW3⟩ : ∃ W3 : World, W3 = w2.alloc (.cells #[.int .i64 k, .slice Aa al.length ca, .string s, .int .i64 0, .int .i64 0, .slice none 0 0, .string ⟨#[]⟩, .int .i64 0] 48) := ⟨_, rfl⟩
  have hB3 : Below w2.heap.size w2 W3 := by rw [hW3]; exact (Below.refl _ _).al (Nat.le_refl _) _
  have hob3 : W3.heap[w2.heap.size]? = some (.cells #[.int .i64 k, .slice Aa al.length ca, .string s, .int .i64 0, .int .i64 0, .slice none 0 0, .string ⟨#[]⟩, .int .i64 0] 48 (0, 0)) := by rw [hW3]; exact heap_new _ _ _ _ rfl
  have hmd3 := hmd2.bl hB3
  obtain ⟨m, -, hkm⟩ := hmd3.rd
  have hoa3 := own_mv hoa2 hB3
  have hp := s_Invoked m [.slice (some ⟨b, 0, none⟩) (k + 1) cap] k (.slice Aa al.length ca) al s 2000 W3 hkm ((OwI.of hoa3).rd (by show _ ≤ 1048576; omega)) (by omega)
  have hF3 := Hd.mk ((Fr.of (fun q => q = g ∨ w.heap.size ≤ q) hBb'.out).go (hbl2.then hB3) fun q e => .inl (.inl (by injection e with e; exact e.symm)))
  have hrs3 := Hd.mk (hr2.frN (Fr.of (fun _ => False) hB3) fun _ _ e => e)
  have hoa3' := Hd.mk hoa3
  have hmb3 := (hB3.block _ (Array.getElem?_eq_some_iff.1 hmb2).1).trans hmb2
  have hrb3 := Hd.mk ((hB3.block _ (Array.getElem?_eq_some_iff.1 hrb2).1).trans hrb2)
  have m2 := (row_facts hmb2).1 0
  simp at m2
  have hl2 : w.heap.size < w2.heap.size := (Array.getElem?_eq_some_iff.1 hmb2).1
  have hob3' := Hd.mk hob3
  have hW3' := Hd.mk hW3
  have hz3 : W3.heap.size = w2.heap.size + 1 := by rw [hW3]; simp
  have hoaI' := Hd.mk hoaI
  clear hr2 hg2 hmd2 hoa2 hbl2 hmb2 hrb2 hW3 hB3 hob3 hmd3 hkm hoa3 hmb3 hoaI hmd1 hg1' hr1' hrb' hmb' hBb' m0 m1 t0 t1 t2
  go_wp2_with fail
  rw [← hW3'.out]
  have hout := resR_out m k al s 2000
  have hout5 : ((resR m k al s 2000).out ++ [5]).length ≤ lm := by have := resR_out30 m k al s 2000; simp [lm]; omega
  generalize resR m k al s 2000 = R at *
  refine hp.mono ?_; rintro e w4 ⟨V4, rfl, hV4, hb4⟩
  unfold resV
  have hp := s_Seen R [.int .i64 R.code, .int .i64 R.value, V4, .string R.mem, .int .i64 R.steps] w4 (res_K hV4 hout)
  have hb4' := Hd.mk hb4
  obtain ⟨A4, c4, rfl, -, -, -, -⟩ := own_shape hV4
  clear hV4 hb4 m2
  go_wp2_with fail
  refine hp.mono ?_; rintro e w5 ⟨V5, rfl, hV5, hb5⟩
  unfold resV seenR
  simp only [seenR] at hV5
  have hb35 := hb4'.out.then hb5
  have hob5 := (hb35.block _ (by omega)).trans hob3'.out
  have f5 := (row_facts hob5).2
  have p3 := (row_facts hob5).1 3
  have p4 := (row_facts hob5).1 4
  have p5 := (row_facts hob5).1 5
  have p6 := (row_facts hob5).1 6
  have p7 := (row_facts hob5).1 7
  simp at p3 p4 p5 p6 p7
  obtain ⟨A5, c5, rfl, -, -, -, -⟩ := own_shape hV5
  obtain ⟨w6, hw6⟩ : ∃ w6 : World, w6 = ((((w5.setCell ⟨w2.heap.size, 3, none⟩ (.int .i64 R.code)).setCell ⟨w2.heap.size, 4, none⟩ (.int .i64 R.value)).setCell ⟨w2.heap.size, 5, none⟩ (.slice A5 R.out.length c5)).setCell ⟨w2.heap.size, 6, none⟩ (.string R.mem)).setCell ⟨w2.heap.size, 7, none⟩ (.int .i64 0) := ⟨_, rfl⟩
  have hF6 : Fr (fun q => q = w2.heap.size) w5 w6 := by
    rw [hw6]
    exact ((((Fr.set w5 w2.heap.size 3 _).go (Fr.set _ w2.heap.size 4 _) fun q e => .inl e).go (Fr.set _ w2.heap.size 5 _) fun q e => .inl e).go (Fr.set _ w2.heap.size 6 _) fun q e => .inl e).go (Fr.set _ w2.heap.size 7 _) fun q e => .inl e
  have hob6 : Hd (w6.heap[w2.heap.size]? = some (.cells #[.int .i64 k, .slice Aa al.length ca, .string s, .int .i64 R.code, .int .i64 R.value, .slice A5 R.out.length c5, .string R.mem, .int .i64 0] 48 (0, 0))) := ⟨by
    rw [hw6]
    exact (heap_set (heap_set (heap_set (heap_set (heap_set hob5))))).trans (by simp)⟩
  have hz5 := hb35.size
  have hz4 := hb4'.out.size
  have hz45 := hb5.size
  have hVI := own_in hV5
  have hV6 := Hd.mk (own_fr hV5 hF6 (fun q hq e => by have := hVI q hq; omega))
  have hoa6 := Hd.mk (own_fr (own_mv hoa3'.out hb35) hF6 (fun q hq e => by have := hoaI'.out q hq; omega))
  have hrb6 := Hd.mk ((hF6.block (w.heap.size + 1) (by omega) (by omega)).trans ((hb35.block _ (by omega)).trans hrb3.out))
  have hrs6 := Hd.mk ((hrs3.out.frN (Fr.of (fun _ => False) hb35) fun _ _ e => e).frN hF6 fun q hq e => by omega)
  have hFr6 := Hd.mk ((hF3.out.then hb35).go hF6 fun q e => .inl (.inr (by omega)))
  have hl5 : w2.heap.size < w5.heap.size := by omega
  have hz6 : w5.heap.size ≤ w6.heap.size := hF6.size
  have hVI' := Hd.mk fun q hq => (hVI q hq).1
  have hw6' := Hd.mk hw6
  have hp := s_below lo g 4 w6 hrs6.out (by omega)
  clear hb35 hob5 hF6 hw6 hVI hV5 hb5 hb4' hrs3 hF3 hoa3' hrb3 hob3'
  go_wp2_with fail
  rw [← hw6'.out]
  refine hp.mono ?_; rintro e w7 ⟨vq, rfl, ⟨q, rfl, q1, q2⟩, hr7, hg7⟩
  have hF7 : Fr (fun q => q = g) w6 w7 := (Fr.gb hg7).sub fun q e => by injection e with e; exact e.symm
  have hob7 := Hd.mk ((hF7.block _ (by omega) (by omega)).trans hob6.out)
  have hrb7 := Hd.mk ((hF7.block _ (by omega) (by omega)).trans hrb6.out)
  have hV7 := Hd.mk (own_fr hV6.out hF7 (fun q hq e => by have := hVI'.out q hq; omega))
  have hoa7 := Hd.mk (own_fr hoa6.out hF7 (fun q hq e => by have := hoaI'.out q hq; omega))
  have hFr7 := Hd.mk (hFr6.out.go hF7 fun q e => .inl (.inl e))
  have hr7' := Hd.mk hr7
  have hz7 : w6.heap.size ≤ w7.heap.size := hF7.size
  clear hr7 hg7 hF7 hob6 hrb6 hV6 hoa6 hFr6 hw6' hrs6 f5 p3 p4 p5 p6 p7 hp
  have hq4 : q = 1 ∨ q = 2 ∨ (q ≠ 1 ∧ q ≠ 2) := by omega
  rcases hq4 with rfl | rfl | ⟨hq1, hq2⟩
  · have hp := s_off lo g w7 hr7'.out
    go_wp2_with fail
    refine hp.mono ?_; rintro e w8 ⟨vq, rfl, ⟨z, rfl⟩, hr8, hg8⟩
    have hF8 : Fr (fun q => q = g) w7 w8 := (Fr.gb hg8).sub fun q e => by injection e with e; exact e.symm
    have hob8 := (hF8.block _ (by omega) (by omega)).trans hob7.out
    have hz8 : w7.heap.size ≤ w8.heap.size := hF8.size
    have hob8h := Hd.mk hob8
    have hrb8h := Hd.mk ((hF8.block _ (by omega) (by omega)).trans hrb7.out)
    have f8 := (row_facts hob8).2
    obtain ⟨w9, hw9⟩ : ∃ w9 : World, w9 = w8.setCell ⟨w2.heap.size, 4, none⟩ (.int .i64 z) := ⟨_, rfl⟩
    have hF9 : Fr (fun q => q = w2.heap.size) w8 w9 := by rw [hw9]; exact Fr.set _ _ _ _
    have hob9 : Hd (w9.heap[w2.heap.size]? = some (.cells #[.int .i64 k, .slice Aa al.length ca, .string s, .int .i64 R.code, .int .i64 z, .slice A5 R.out.length c5, .string R.mem, .int .i64 0] 48 (0, 0))) := ⟨by rw [hw9]; exact (heap_set hob8).trans (by simp)⟩
    have hrb9 := Hd.mk ((hF9.block _ (by omega) (by omega)).trans ((hF8.block _ (by omega) (by omega)).trans hrb7.out))
    have hV9 := Hd.mk (own_fr (own_fr hV7.out hF8 (fun q hq e => by have := hVI'.out q hq; omega)) hF9 (fun q hq e => by have := hVI'.out q hq; omega))
    have hoa9 := Hd.mk (own_fr (own_fr hoa7.out hF8 (fun q hq e => by have := hoaI'.out q hq; omega)) hF9 (fun q hq e => by have := hoaI'.out q hq; omega))
    have hFr9 := Hd.mk ((hFr7.out.go hF8 fun q e => .inl (.inl e)).go hF9 fun q e => .inl (.inr (by omega)))
    have hr9 := Hd.mk (hr8.frN hF9 fun q hq e => by omega)
    have hz9 : w8.heap.size ≤ w9.heap.size := hF9.size
    have hl89 : w2.heap.size < w8.heap.size := by omega
    have hw9' := Hd.mk hw9
    clear hF8 hob8 hw9 hF9 hr8 hg8 hp
    have hne1 : w.heap.size + 1 ≠ w2.heap.size := by omega
    have hne2 : w2.heap.size ≠ w.heap.size + 1 := by omega
    have bo := row_facts hob8h.out
    have br := row_facts hrb8h.out
    have x0 := bo.1 0
    have y0 := br.1 0
    have x1 := bo.1 1
    have y1 := br.1 1
    have x2 := bo.1 2
    have y2 := br.1 2
    have x3 := bo.1 3
    have y3 := br.1 3
    have x4 := bo.1 4
    have y4 := br.1 4
    have x5 := bo.1 5
    have y5 := br.1 5
    have x6 := bo.1 6
    have y6 := br.1 6
    have x7 := bo.1 7
    have y7 := br.1 7
    have yf := br.2
    simp at x0 y0 x1 y1 x2 y2 x3 y3 x4 y4 x5 y5 x6 y6 x7 y7
    have hl9 : w2.heap.size < w8.heap.size := (Array.getElem?_eq_some_iff.1 hob8h.out).1
    have hl8 : w.heap.size + 1 < w8.heap.size := (Array.getElem?_eq_some_iff.1 hrb8h.out).1
    clear bo br
    go_wp2
    have hFz : Fr (fun q => q = w.heap.size + 1) w9 (((((((((w8.setCell ⟨w2.heap.size, 4, none⟩ (.int .i64 z)).setCell ⟨w.heap.size + 1, 0, none⟩ (.int .i64 k)).setCell ⟨w.heap.size + 1, 1, none⟩ (.slice Aa al.length ca)).setCell ⟨w.heap.size + 1, 2, none⟩ (.string s)).setCell ⟨w.heap.size + 1, 3, none⟩ (.int .i64 R.code)).setCell ⟨w.heap.size + 1, 4, none⟩ (.int .i64 z)).setCell ⟨w.heap.size + 1, 5, none⟩ (.slice A5 R.out.length c5)).setCell ⟨w.heap.size + 1, 6, none⟩ (.string R.mem)).setCell ⟨w.heap.size + 1, 7, none⟩ (.int .i64 0)) := by
      rw [hw9'.out]
      exact ((((((((Fr.set (w8.setCell ⟨w2.heap.size, 4, none⟩ (.int .i64 z)) (w.heap.size + 1) 0 _).go (Fr.set _ (w.heap.size + 1) 1 _) fun q e => .inl e).go (Fr.set _ (w.heap.size + 1) 2 _) fun q e => .inl e).go (Fr.set _ (w.heap.size + 1) 3 _) fun q e => .inl e).go (Fr.set _ (w.heap.size + 1) 4 _) fun q e => .inl e).go (Fr.set _ (w.heap.size + 1) 5 _) fun q e => .inl e).go (Fr.set _ (w.heap.size + 1) 6 _) fun q e => .inl e).go (Fr.set _ (w.heap.size + 1) 7 _) fun q e => .inl e)
    refine bodyPost_ret (v := .agg #[.int .i64 k, .slice Aa al.length ca, .string s, .int .i64 R.code, .int .i64 z, .slice A5 R.out.length c5, .string R.mem, .int .i64 0]) (by simp [results, Tryz.results58, go_sem, y0, y1, y2, y3, y4, y5, y6, y7]) rfl ⟨⟨k, al, s, ⟨R.code, z, R.out, R.mem, 0⟩⟩, Aa, ca, A5, c5, rfl, hs, own_bxr (own_fr hoa9.out hFz fun q hq e => ?_) (fun q hq e => ?_) ?_, own_bxr (own_fr hV9.out hFz fun q hq e => ?_) (fun q hq e => ?_) ?_, hr9.out.frN hFz fun q hq e => ?_, fr_gb (hFr9.out.go hFz fun q e => .inl (.inr ?_))⟩
    · have := hoaI'.out q hq; omega
    · have := hoaI'.out q hq; have h1 := own_in hoa9.out q hq; have h2 := hFz.size; omega
    · show al.length ≤ 1048576; omega
    · have := hVI'.out q hq; omega
    · have := hVI'.out q hq; have h1 := own_in hV9.out q hq; have h2 := hFz.size; omega
    · exact hout
    · omega
    · omega
  · have x5 := (row_facts hob7.out).1 5
    have f7 := (row_facts hob7.out).2
    simp at x5
    have hal7 := Hd.mk fun (ob : Obj) => (Below.refl w7.heap.size w7).al (Nat.le_refl _) ob
    have hl7 : w2.heap.size < w7.heap.size := by omega
    have hz56 : w4.heap.size ≤ w7.heap.size := by omega
    go_wp2_with (at_builtin; refine appI_at rfl _ _ rfl w4.heap.size _ R.out [5] rfl (own_mv hV7.out (hal7.out _)) _ 1 1 rfl (rd_one _ _) (by have : R.out.length ≤ 1048576 := hout; omega) (by simp; omega) ?_)
    intro v8 w8 ho8x hg8 hn8
    obtain ⟨L, hL⟩ : ∃ L : List Int, L = R.out ++ [5] := ⟨_, rfl⟩
    have ho8 : w8.ownsRow w4.heap.size 2 1 v8 L.length (L.map (.int .i64)) := by rw [hL]; simpa using ho8x
    have hout1 : L.length ≤ lm := by rw [hL]; exact hout5
    clear ho8x hL
    obtain ⟨A8, c8, rfl, -, -, -, -⟩ := own_shape ho8
    have hV7I := own_in (own_mv hV7.out (hal7.out (.cells #[.int .i64 5] 2)))
    have hF8 : Fr (fun q => (Value.slice A5 R.out.length c5).ownBlock = some q) w7 w8 := (Fr.of _ (hal7.out (.cells #[.int .i64 5] 2))).go (Fr.gb hg8) fun q e => .inl e
    have no8 : ∀ q, q ≤ w2.heap.size → ¬ ((Value.slice A5 R.out.length c5).ownBlock = some q) := fun q hq e => by have := hV7I q e; omega
    have hob8 := (hF8.block _ (by omega) (no8 _ (Nat.le_refl _))).trans hob7.out
    have hob8h := Hd.mk hob8
    have hrb8h := Hd.mk ((hF8.block _ (by omega) (no8 _ (by omega))).trans hrb7.out)
    have f8 := (row_facts hob8).2
    have hz8 : w7.heap.size ≤ w8.heap.size := hF8.size
    obtain ⟨w9, hw9⟩ : ∃ w9 : World, w9 = w8.setCell ⟨w2.heap.size, 5, none⟩ (.slice A8 L.length c8) := ⟨_, rfl⟩
    have hF9 : Fr (fun q => q = w2.heap.size) w8 w9 := by rw [hw9]; exact Fr.set _ _ _ _
    have hob9 : Hd (w9.heap[w2.heap.size]? = some (.cells #[.int .i64 k, .slice Aa al.length ca, .string s, .int .i64 R.code, .int .i64 R.value, .slice A8 L.length c8, .string R.mem, .int .i64 0] 48 (0, 0))) := ⟨by rw [hw9]; exact (heap_set hob8).trans (by simp)⟩
    have hVI8 := own_in ho8
    have hVI8' := Hd.mk fun q hq => (hVI8 q hq).1
    have hrb9 := Hd.mk ((hF9.block _ (by omega) (by omega)).trans ((hF8.block _ (by omega) (no8 _ (by omega))).trans hrb7.out))
    have hV9 := Hd.mk (own_fr ho8 hF9 (fun q hq e => by have := hVI8 q hq; omega))
    have hoa9 := Hd.mk (own_fr (own_fr hoa7.out hF8 (fun q hq e => by have := hoaI'.out q hq; exact no8 q (by omega) e)) hF9 (fun q hq e => by have := hoaI'.out q hq; omega))
    have hFr9 := Hd.mk ((hFr7.out.go hF8 fun q e => .inl (.inr (by have := hV7I q e; omega))).go hF9 fun q e => .inl (.inr (by omega)))
    have hr9 := Hd.mk ((hr7'.out.frN hF8 fun q hq e => no8 q (by omega) e).frN hF9 fun q hq e => by omega)
    have hz9 : w8.heap.size ≤ w9.heap.size := hF9.size
    have hl89 : w2.heap.size < w8.heap.size := by omega
    have hw9' := Hd.mk hw9
    clear hF8 hob8 hw9 hF9 hg8 hn8 no8 hV7I hVI8 ho8
    have hne1 : w.heap.size + 1 ≠ w2.heap.size := by omega
    have hne2 : w2.heap.size ≠ w.heap.size + 1 := by omega
    have bo := row_facts hob8h.out
    have br := row_facts hrb8h.out
    have x0 := bo.1 0
    have y0 := br.1 0
    have x1 := bo.1 1
    have y1 := br.1 1
    have x2 := bo.1 2
    have y2 := br.1 2
    have x3 := bo.1 3
    have y3 := br.1 3
    have x4 := bo.1 4
    have y4 := br.1 4
    have x5 := bo.1 5
    have y5 := br.1 5
    have x6 := bo.1 6
    have y6 := br.1 6
    have x7 := bo.1 7
    have y7 := br.1 7
    have yf := br.2
    simp at x0 y0 x1 y1 x2 y2 x3 y3 x4 y4 x5 y5 x6 y6 x7 y7
    have hl9 : w2.heap.size < w8.heap.size := (Array.getElem?_eq_some_iff.1 hob8h.out).1
    have hl8 : w.heap.size + 1 < w8.heap.size := (Array.getElem?_eq_some_iff.1 hrb8h.out).1
    clear bo br
    go_wp2
    have hFz : Fr (fun q => q = w.heap.size + 1) w9 (((((((((w8.setCell ⟨w2.heap.size, 5, none⟩ (.slice A8 L.length c8)).setCell ⟨w.heap.size + 1, 0, none⟩ (.int .i64 k)).setCell ⟨w.heap.size + 1, 1, none⟩ (.slice Aa al.length ca)).setCell ⟨w.heap.size + 1, 2, none⟩ (.string s)).setCell ⟨w.heap.size + 1, 3, none⟩ (.int .i64 R.code)).setCell ⟨w.heap.size + 1, 4, none⟩ (.int .i64 R.value)).setCell ⟨w.heap.size + 1, 5, none⟩ (.slice A8 L.length c8)).setCell ⟨w.heap.size + 1, 6, none⟩ (.string R.mem)).setCell ⟨w.heap.size + 1, 7, none⟩ (.int .i64 0)) := by
      rw [hw9'.out]
      exact ((((((((Fr.set (w8.setCell ⟨w2.heap.size, 5, none⟩ (.slice A8 L.length c8)) (w.heap.size + 1) 0 _).go (Fr.set _ (w.heap.size + 1) 1 _) fun q e => .inl e).go (Fr.set _ (w.heap.size + 1) 2 _) fun q e => .inl e).go (Fr.set _ (w.heap.size + 1) 3 _) fun q e => .inl e).go (Fr.set _ (w.heap.size + 1) 4 _) fun q e => .inl e).go (Fr.set _ (w.heap.size + 1) 5 _) fun q e => .inl e).go (Fr.set _ (w.heap.size + 1) 6 _) fun q e => .inl e).go (Fr.set _ (w.heap.size + 1) 7 _) fun q e => .inl e)
    refine bodyPost_ret (v := .agg #[.int .i64 k, .slice Aa al.length ca, .string s, .int .i64 R.code, .int .i64 R.value, .slice A8 L.length c8, .string R.mem, .int .i64 0]) (by simp [results, Tryz.results58, go_sem, y0, y1, y2, y3, y4, y5, y6, y7]) rfl ⟨⟨k, al, s, ⟨R.code, R.value, L, R.mem, 0⟩⟩, Aa, ca, A8, c8, rfl, hs, own_bxr (own_fr hoa9.out hFz fun q hq e => ?_) (fun q hq e => ?_) ?_, own_bxr (own_fr hV9.out hFz fun q hq e => ?_) (fun q hq e => ?_) ?_, hr9.out.frN hFz fun q hq e => ?_, fr_gb (hFr9.out.go hFz fun q e => .inl (.inr ?_))⟩
    · have := hoaI'.out q hq; omega
    · have := hoaI'.out q hq; have h1 := own_in hoa9.out q hq; have h2 := hFz.size; omega
    · show al.length ≤ 1048576; omega
    · have := hVI8'.out q hq; omega
    · have := hVI8'.out q hq; have h1 := own_in hV9.out q hq; have h2 := hFz.size; omega
    · exact hout1
    · omega
    · omega
  · have d1 := beqF hq1
    have d2 := beqF hq2
    have hne1 : w.heap.size + 1 ≠ w2.heap.size := by omega
    have hne2 : w2.heap.size ≠ w.heap.size + 1 := by omega
    have bo := row_facts hob7.out
    have br := row_facts hrb7.out
    have x0 := bo.1 0
    have y0 := br.1 0
    have x1 := bo.1 1
    have y1 := br.1 1
    have x2 := bo.1 2
    have y2 := br.1 2
    have x3 := bo.1 3
    have y3 := br.1 3
    have x4 := bo.1 4
    have y4 := br.1 4
    have x5 := bo.1 5
    have y5 := br.1 5
    have x6 := bo.1 6
    have y6 := br.1 6
    have x7 := bo.1 7
    have y7 := br.1 7
    have yf := br.2
    simp at x0 y0 x1 y1 x2 y2 x3 y3 x4 y4 x5 y5 x6 y6 x7 y7
    have hl9 : w2.heap.size < w7.heap.size := (Array.getElem?_eq_some_iff.1 hob7.out).1
    have hl8 : w.heap.size + 1 < w7.heap.size := (Array.getElem?_eq_some_iff.1 hrb7.out).1
    clear bo br
    go_wp2
    have hFz : Fr (fun q => q = w.heap.size + 1) w7 ((((((((w7.setCell ⟨w.heap.size + 1, 0, none⟩ (.int .i64 k)).setCell ⟨w.heap.size + 1, 1, none⟩ (.slice Aa al.length ca)).setCell ⟨w.heap.size + 1, 2, none⟩ (.string s)).setCell ⟨w.heap.size + 1, 3, none⟩ (.int .i64 R.code)).setCell ⟨w.heap.size + 1, 4, none⟩ (.int .i64 R.value)).setCell ⟨w.heap.size + 1, 5, none⟩ (.slice A5 R.out.length c5)).setCell ⟨w.heap.size + 1, 6, none⟩ (.string R.mem)).setCell ⟨w.heap.size + 1, 7, none⟩ (.int .i64 0)) := ((((((((Fr.set w7 (w.heap.size + 1) 0 _).go (Fr.set _ (w.heap.size + 1) 1 _) fun q e => .inl e).go (Fr.set _ (w.heap.size + 1) 2 _) fun q e => .inl e).go (Fr.set _ (w.heap.size + 1) 3 _) fun q e => .inl e).go (Fr.set _ (w.heap.size + 1) 4 _) fun q e => .inl e).go (Fr.set _ (w.heap.size + 1) 5 _) fun q e => .inl e).go (Fr.set _ (w.heap.size + 1) 6 _) fun q e => .inl e).go (Fr.set _ (w.heap.size + 1) 7 _) fun q e => .inl e)
    refine bodyPost_ret (v := .agg #[.int .i64 k, .slice Aa al.length ca, .string s, .int .i64 R.code, .int .i64 R.value, .slice A5 R.out.length c5, .string R.mem, .int .i64 0]) (by simp [results, Tryz.results58, go_sem, y0, y1, y2, y3, y4, y5, y6, y7]) rfl ⟨⟨k, al, s, ⟨R.code, R.value, R.out, R.mem, 0⟩⟩, Aa, ca, A5, c5, rfl, hs, own_bxr (own_fr hoa7.out hFz fun q hq e => ?_) (fun q hq e => ?_) ?_, own_bxr (own_fr hV7.out hFz fun q hq e => ?_) (fun q hq e => ?_) ?_, hr7'.out.frN hFz fun q hq e => ?_, fr_gb (hFr7.out.go hFz fun q e => .inl (.inr ?_))⟩
    · have := hoaI'.out q hq; omega
    · have := hoaI'.out q hq; have h1 := own_in hoa7.out q hq; have h2 := hFz.size; omega
    · show al.length ≤ 1048576; omega
    · have := hVI'.out q hq; omega
    · have := hVI'.out q hq; have h1 := own_in hV7.out q hq; have h2 := hFz.size; omega
    · exact hout
    · omega
    · omega
theorem infoMd : (Tryz.prog.info? 38).map (fun i => (i.zero, i.size, i.bytes)) = some (some (.agg #[.slice none 0 0]), 1, 24) := by kernel_rfl
def QM (cs : List Value) (w : World) : Prop := ∃ x : XMod, True ∧ KMod lm w x cs
theorem MD.qm {g base T n : Nat} {v : Value} {cF : List Value} {W : World} (h : MD g base T v n cF W) : Bx (fun q => q < base ∨ T ≤ q) (QM [v]) W := by
  have hb := own_in h.o
  have h1 := FEs.rd (E := fun q => q < base ∨ T ≤ q) h.o h.fe (fun k hk e => by have := hb k hk; have := h.oT k hk; omega) (fun q e => .inl e) (by have := h.n2; show _ ≤ 1048576; omega)
  exact h1.imp fun w ⟨xs, _, _, h3⟩ => ⟨⟨xs⟩, trivial, v, rfl, h3⟩
theorem nil_qm (E : Nat → Prop) (W : World) : Bx E (QM [.slice none 0 0]) W := fun _ _ => ⟨⟨[]⟩, trivial, _, rfl, rd_nilK⟩
def RetDF (w : World) (e : Ending) (w' : World) : Prop := ∃ (ms : List XMod) (A : Option Addr) (c : Nat) (x : XOra) (A1 : Option Addr) (c1 : Nat) (A2 : Option Addr) (c2 : Nat), e = .returned (.tuple #[.slice A ms.length c, .agg (oraV x A1 c1 A2 c2).toArray]) ∧ (2 ≤ ms.length ∧ ms.length ≤ 7) ∧ Rd lm 1 (KMod lm) w' (.slice A ms.length c) ms ∧ x.mem.size = 32 ∧ RI lm w' (.slice A1 x.args.length c1) x.args ∧ RI lm w' (.slice A2 x.want.out.length c2) x.want.out ∧ Below w.heap.size w w'
structure LS (lo g base T ob mb Eo1 Eo2 : Nat) (w : World) (mod : Value) (n : Nat) (cF : List Value) (oc : List Value) (x : XOra) (A1 : Option Addr) (c1 : Nat) (A2 : Option Addr) (c2 : Nat) (i : Nat) (vl : Value) (cl : List Value) (W : World) : Prop where
  rs : RdS lo W g
  md : MD g base T mod n cF W
  row : W.ownsRow (ob + 1) 38 1 vl i cl
  el : Elt (fun q => q < base ∨ T ≤ q) 1 i cl QM W
  hob : W.heap[ob]? = some (.cells oc.toArray 48 (0, 0))
  hmb : W.heap[mb]? = some (.cells #[mod] 38 (0, 0))
  hrb : W.heap[w.heap.size]? = some (.cells #[.int .i64 0, .slice none 0 0, .string ⟨#[]⟩, .int .i64 0, .int .i64 0, .slice none 0 0, .string ⟨#[]⟩, .int .i64 0] 48 (0, 0))
  q1 : Bx (fun q => q < Eo1 ∨ Eo2 ≤ q) (fun w => RI lm w (.slice A1 x.args.length c1) x.args) W
  q2 : Bx (fun q => q < Eo1 ∨ Eo2 ≤ q) (fun w => RI lm w (.slice A2 x.want.out.length c2) x.want.out) W
  fr : Fr (fun q => w.heap.size ≤ q) w W
  ord : w.heap.size < g ∧ g < base ∧ base ≤ T ∧ T ≤ mb ∧ mb < Eo1 ∧ Eo1 ≤ Eo2 ∧ Eo2 ≤ ob ∧ lo ≤ w.heap.size
theorem LS.go {lo g base T ob mb Eo1 Eo2 : Nat} {w : World} {mod : Value} {n : Nat} {cF oc : List Value} {x : XOra} {A1 : Option Addr} {c1 : Nat} {A2 : Option Addr} {c2 i : Nat} {vl : Value} {cl : List Value} {W W' : World} (h : LS lo g base T ob mb Eo1 Eo2 w mod n cF oc x A1 c1 A2 c2 i vl cl W) {E : Nat → Prop} (hF : Fr E W W') (hr : RdS lo W' g) {i' : Nat} {vl' : Value} {cl' : List Value}
    (hE : ∀ q, E q → q = g ∨ ob < q) (ho : W'.ownsRow (ob + 1) 38 1 vl' i' cl') (he : Elt (fun q => q < base ∨ T ≤ q) 1 i' cl' QM W') : LS lo g base T ob mb Eo1 Eo2 w mod n cF oc x A1 c1 A2 c2 i' vl' cl' W' := by
  have o := h.ord
  have hE' : ∀ q, E q → q < base ∨ T ≤ q := fun q e => by have := hE q e; omega
  have hEo : Fr (fun q => q < Eo1 ∨ Eo2 ≤ q) W W' := hF.sub fun q e => by have := hE q e; omega
  exact ⟨hr, h.md.go hF hE', ho, he, (hF.block _ (Array.getElem?_eq_some_iff.1 h.hob).1 (fun e => by have := hE _ e; omega)).trans h.hob, (hF.block _ (Array.getElem?_eq_some_iff.1 h.hmb).1 (fun e => by have := hE _ e; omega)).trans h.hmb, (hF.block _ (Array.getElem?_eq_some_iff.1 h.hrb).1 (fun e => by have := hE _ e; omega)).trans h.hrb,
    h.q1.go hEo fun q e => .inl e, h.q2.go hEo fun q e => .inl e, h.fr.go hF fun q e => .inl (by have := hE q e; omega), o⟩
theorem LS.gb {lo g base T ob mb Eo1 Eo2 : Nat} {w : World} {mod : Value} {n : Nat} {cF oc : List Value} {x : XOra} {A1 : Option Addr} {c1 : Nat} {A2 : Option Addr} {c2 i : Nat} {vl : Value} {cl : List Value} {W W' : World} (h : LS lo g base T ob mb Eo1 Eo2 w mod n cF oc x A1 c1 A2 c2 i vl cl W) (hg : W.grownBy W' (some g)) (hr : RdS lo W' g) : LS lo g base T ob mb Eo1 Eo2 w mod n cF oc x A1 c1 A2 c2 i vl cl W' := by
  have hF : Fr (fun q => q = g) W W' := (Fr.gb hg).sub fun q e => by injection e with e; exact e.symm
  have o := h.ord
  exact h.go hF hr (fun q e => .inl e) (own_fr h.row hF fun k hk e => by have := own_in h.row k hk; omega) (h.el.go (hF.sub fun q e => by omega) fun q e => .inl e)
theorem LS.app {lo g base T ob mb Eo1 Eo2 : Nat} {w : World} {mod : Value} {n : Nat} {cF oc : List Value} {x : XOra} {A1 : Option Addr} {c1 : Nat} {A2 : Option Addr} {c2 i : Nat} {vl : Value} {cl : List Value} {W W' : World} (h : LS lo g base T ob mb Eo1 Eo2 w mod n cF oc x A1 c1 A2 c2 i vl cl W) (u : Value) (hu : Bx (fun q => q < base ∨ T ≤ q) (QM [u]) W) {v' : Value} (hg : W.grownBy W' vl.ownBlock) (ho : W'.ownsRow (ob + 1) 38 1 v' (i + 1) (cl ++ [u])) : LS lo g base T ob mb Eo1 Eo2 w mod n cF oc x A1 c1 A2 c2 (i + 1) v' (cl ++ [u]) W' := by
  have hF := Fr.gb hg
  have o := h.ord
  have hE : ∀ q, vl.ownBlock = some q → q = g ∨ ob < q := fun q e => .inr (by have := own_in h.row q e; omega)
  have hE' : Fr (fun q => q < base ∨ T ≤ q) W W' := hF.sub fun q e => by have := hE q e; omega
  exact h.go hF (h.rs.frN hF fun q hq e => by have := own_in h.row q e; omega) hE ho ((h.el.app (by have := h.row.1; omega) [u] rfl hu).go hE' fun q e => .inl e)
theorem LS.bl {lo g base T ob mb Eo1 Eo2 : Nat} {w : World} {mod : Value} {n : Nat} {cF oc : List Value} {x : XOra} {A1 : Option Addr} {c1 : Nat} {A2 : Option Addr} {c2 i : Nat} {vl : Value} {cl : List Value} {W W' : World} (h : LS lo g base T ob mb Eo1 Eo2 w mod n cF oc x A1 c1 A2 c2 i vl cl W) (hb : Below W.heap.size W W') : LS lo g base T ob mb Eo1 Eo2 w mod n cF oc x A1 c1 A2 c2 i vl cl W' :=
  h.go (Fr.of (fun _ => False) hb) (h.rs.frN (Fr.of (fun _ => False) hb) fun _ _ e => e) (fun _ e => e.elim) (own_mv h.row hb) (h.el.go (Fr.of _ hb) fun q e => .inl e)
set_option maxRecDepth 40000 in
set_option maxHeartbeats 4000000 in
theorem s_DrawFirstBad (v : Value) (xs : List Int) (w : World) (hv : Rd lm 1 KB w v xs) : Calls Tryz.prog 25 #[v] w (RetDF w) := by
  obtain ⟨A0, c0, rfl, -, -, -⟩ := hv.sm
  obtain ⟨W0, hW0⟩ : ∃ W0 : World, W0 = w.alloc (.cells #[.int .i64 0, .slice none 0 0, .string ⟨#[]⟩, .int .i64 0, .int .i64 0, .slice none 0 0, .string ⟨#[]⟩, .int .i64 0] 48) := ⟨_, rfl⟩
  have hB0 : Below w.heap.size w W0 := by rw [hW0]; exact (Below.refl _ _).al (Nat.le_refl _) _
  have hz0 : W0.heap.size = w.heap.size + 1 := by rw [hW0]; simp
  have hrb0 : W0.heap[w.heap.size]? = some (.cells #[.int .i64 0, .slice none 0 0, .string ⟨#[]⟩, .int .i64 0, .int .i64 0, .slice none 0 0, .string ⟨#[]⟩, .int .i64 0] 48 (0, 0)) := by rw [hW0]; exact heap_new _ _ _ _ rfl
  have hp := s_l1Open (.slice A0 xs.length c0) xs w W0 hv hB0
  have hW0' := Hd.mk hW0
  clear hW0 hv
  go_enter Tryz.func25, Tryz.ntmps25
  go_wp2_with fail
  rw [← hW0'.out]
  refine hp.mono ?_; rintro e w1 ⟨rfl, hr1, hb1⟩
  rw [hz0] at hr1 hb1
  simp only [hz0]
  have hrb1 := (hb1.block w.heap.size (by omega)).trans hrb0
  have hF1 := Hd.mk ((Fr.of (fun q => w.heap.size ≤ q) hB0).then (by rw [hz0]; exact hb1))
  obtain ⟨g, hg⟩ : ∃ g, g = w.heap.size + 1 := ⟨_, rfl⟩
  rw [← hg] at hr1 ⊢
  have hg' := Hd.mk hg
  have hgl := hr1.lt
  have hp := s_module w.heap.size g w1 hr1
  have hrb1' := Hd.mk hrb1
  clear hB0 hz0 hrb0 hr1 hb1 hW0' hg hrb1
  go_wp2_with fail
  refine hp.mono ?_; rintro e w2 ⟨v2, n, cF, rfl, hn, ho, hfe, hr2, hg2⟩
  have hF2 := Hd.mk (hF1.out.go (Fr.gb hg2) fun q e => .inl (by have := hg'.out; injection e with e; omega))
  have hrb2 := Hd.mk ((hg2.block w.heap.size (by have := hg'.out; omega) (by have := hg'.out; simp; omega)).trans hrb1'.out)
  have hmd2 : MD g w1.heap.size w2.heap.size v2 n cF w2 := ⟨ho, hfe, hgl, Nat.le_refl _, fun q hq => (own_in ho q hq).2, hn.1, hn.2⟩
  obtain ⟨AF, cap, rfl, -, -, -, -⟩ := own_shape ho
  obtain ⟨W3, hW3⟩ : ∃ W3 : World, W3 = w2.alloc (.cells #[.slice AF n cap] 38) := ⟨_, rfl⟩
  have hB3 : Below w2.heap.size w2 W3 := by rw [hW3]; exact (Below.refl _ _).al (Nat.le_refl _) _
  have hmb3 : W3.heap[w2.heap.size]? = some (.cells #[.slice AF n cap] 38 (0, 0)) := by rw [hW3]; exact heap_new _ _ _ _ rfl
  have hmd3 := Hd.mk (hmd2.bl hB3)
  have hr3 := hr2.frN (Fr.of (fun _ => False) hB3) fun _ _ e => e
  have hF3 := Hd.mk (hF2.out.then hB3)
  have hrb3 := Hd.mk ((hB3.block _ (Array.getElem?_eq_some_iff.1 hrb2.out).1).trans hrb2.out)
  have hz12 := hg2.size
  have hz23 := hB3.size
  have hl3 : w2.heap.size < W3.heap.size := (Array.getElem?_eq_some_iff.1 hmb3).1
  have hmb3' := Hd.mk hmb3
  have hW3' := Hd.mk hW3
  have hgw2 : g < w2.heap.size := hr2.lt
  have hp := s_oracle w.heap.size g w1.heap.size w2.heap.size (.slice AF n cap) n cF W3 hr3 hmd3.out
  clear hmd2 ho hfe hr2 hg2 hB3 hmb3 hW3 hrb2 hF2 hrb1' hF1 hr3
  go_wp2_with fail
  rw [← hW3'.out]
  refine hp.mono ?_; rintro e w4 ⟨x, A1, c1, A2, c2, rfl, hx, hq1, hq2, hr4, hg4⟩
  rw [show (oraV x A1 c1 A2 c2).toArray = #[.int .i64 x.func, .slice A1 x.args.length c1, .string x.mem, .int .i64 x.want.code, .int .i64 x.want.value, .slice A2 x.want.out.length c2, .string x.want.mem, .int .i64 x.want.steps] from rfl]
  obtain ⟨W5, hW5⟩ : ∃ W5 : World, W5 = (w4.alloc (.cells #[.int .i64 x.func, .slice A1 x.args.length c1, .string x.mem, .int .i64 x.want.code, .int .i64 x.want.value, .slice A2 x.want.out.length c2, .string x.want.mem, .int .i64 x.want.steps] 48)).alloc (.cells #[] 38) := ⟨_, rfl⟩
  have hb45 : Below w4.heap.size w4 W5 := by rw [hW5]; exact ((Below.refl w4.heap.size w4).al (Nat.le_refl _) _).al (by simp) _
  have hz34 := hg4.size
  have hF4 : Fr (fun q => q = g) W3 w4 := (Fr.gb hg4).sub fun q e => by injection e with e; exact e.symm
  have hgn := hg'.out
  have hls := Hd.mk (show LS w.heap.size g w1.heap.size w2.heap.size w4.heap.size w2.heap.size W3.heap.size w4.heap.size w (.slice AF n cap) n cF [.int .i64 x.func, .slice A1 x.args.length c1, .string x.mem, .int .i64 x.want.code, .int .i64 x.want.value, .slice A2 x.want.out.length c2, .string x.want.mem, .int .i64 x.want.steps] x A1 c1 A2 c2 0 (.slice (some ⟨w4.heap.size + 1, 0, none⟩) 0 0) [] W5 from
    ⟨hr4.frN (Fr.of (fun _ => False) hb45) fun _ _ e => e, (hmd3.out.gb hg4).bl hb45, by rw [hW5]; exact own_empty _ _ _ _ _ (by simp) (by simp), Elt.nil, by rw [hW5]; exact heap_old (heap_new _ _ _ _ rfl) (by simp), (hb45.block _ (by omega)).trans ((hF4.block _ hl3 (by omega)).trans hmb3'.out), (hb45.block _ (by omega)).trans ((hF4.block _ (Array.getElem?_eq_some_iff.1 hrb3.out).1 (by omega)).trans hrb3.out), hq1.go (Fr.of _ hb45) fun q e => .inl e, hq2.go (Fr.of _ hb45) fun q e => .inl e, (hF3.out.go hF4 fun q e => .inl (by omega)).then hb45, by omega⟩)
  have hp := s_below w.heap.size g 7 W5 hls.out.rs (by omega)
  have hW5' := Hd.mk hW5
  clear hb45 hz34 hF4 hgn hg4 hr4 hq1 hq2 hF3 hrb3 hmd3 hmb3' hW5 hW3'
  go_wp2_with fail
  rw [← hW5'.out]
  refine hp.mono ?_; rintro e w6 ⟨vq, rfl, ⟨bad, rfl, bad0, bad1⟩, hr6, hg6⟩
  have hl6 := Hd.mk (hls.out.gb hg6 hr6)
  obtain ⟨ob, hob⟩ : ∃ ob, ob = w4.heap.size := ⟨_, rfl⟩
  obtain ⟨mb, hmb⟩ : ∃ mb, mb = w2.heap.size := ⟨_, rfl⟩
  obtain ⟨ba, hba⟩ : ∃ ba, ba = w1.heap.size := ⟨_, rfl⟩
  obtain ⟨e1, he1⟩ : ∃ e1, e1 = W3.heap.size := ⟨_, rfl⟩
  rw [← hob, ← hmb, ← hba, ← he1] at hl6
  rw [← hob, ← hmb]
  clear hr6 hg6 hls hp hob hmb hba he1 hW5' hgl hz12 hz23 hl3 hgw2 hg'
  go_wp2
  go_loopw [7, 9] (fun s7 s9 wr => ∃ (i : Nat) (cl : List Value), i ≤ 7 ∧ s9 = .int .i64 i ∧ Hd (LS w.heap.size g ba mb ob mb e1 ob w (.slice AF n cap) n cF [.int .i64 x.func, .slice A1 x.args.length c1, .string x.mem, .int .i64 x.want.code, .int .i64 x.want.value, .slice A2 x.want.out.length c2, .string x.want.mem, .int .i64 x.want.steps] x A1 c1 A2 c2 i s7 cl wr)) (fun _ s9 _ => 7 - (intOf s9).toNat)
  case atStart => exact ⟨0, [], by omega, rfl, hl6⟩
  case round =>
    obtain ⟨i, cl, hi7, rfl, hl⟩ := hrel
    clear hl6
    have hp := s_below w.heap.size g 6 wr hl.out.rs (by omega)
    go_wp2_with fail
    refine hp.mono ?_; rintro e w7 ⟨vq, rfl, ⟨r, rfl, r0, r1⟩, hr7, hg7⟩
    have hl7 := Hd.mk (hl.out.gb hg7 hr7)
    have hwr : IntKind.i64.wrap (2 + r) = 2 + r := IntWalk.i64_in _ (by omega)
    clear hr7 hg7 hl hp
    by_cases hlt : (i : Int) < 2 + r
    · obtain ⟨Al, cal, rfl, -, -, -, -⟩ := own_shape hl7.out.row
      have m0 := (row_facts hl7.out.hmb).1 0
      simp at m0
      have hlm := (Array.getElem?_eq_some_iff.1 hl7.out.hmb).1
      have hbo := Hd.mk hl7.out.ord
      have hlo := (Array.getElem?_eq_some_iff.1 hl7.out.hob).1
      have hal := Hd.mk fun (o : Obj) => (Below.refl w7.heap.size w7).al (Nat.le_refl _) o
      have hwi : IntKind.i64.wrap ((i : Int) + 1) = (i : Int) + 1 := IntWalk.i64_in _ (by omega)
      by_cases hbad : (i : Int) < bad
      · have hone : Hd (∀ u ∈ ([.slice AF n cap] : List Value), u.oneCell' = true) := ⟨by
          intro u hu
          rw [List.mem_singleton.1 hu]; rfl⟩
        go_wp2_with (at_builtin; refine appE_at rfl _ _ rfl Tryz.underlying53 infoMd rfl (by decide) (by decide) (ob + 1) _ i cl rfl (own_mv hl7.out.row (hal.out _)) _ _ rfl [.slice AF n cap] rfl (fun j u hu => new_cell w7 #[.slice AF n cap] 38 rfl j u (by simpa using hu)) hone.out (by omega) (by simp; omega) ?_)
        intro v9 w9 ho9 hg9 hn9
        have hl8 := hl7.out.bl (hal.out (.cells #[.slice AF n cap] 38))
        have hl9 := Hd.mk (hl8.app (.slice AF n cap) hl8.md.qm hg9 ho9)
        clear ho9 hg9 hn9 hl8
        go_wp2
        go_roundw
        case rel => exact ⟨i + 1, _, by omega, by go_num, hl9⟩
        case measure => simp [intOf]; omega
      · have hone : Hd (∀ u ∈ ([.slice none 0 0] : List Value), u.oneCell' = true) := ⟨by
          intro u hu
          rw [List.mem_singleton.1 hu]; rfl⟩
        go_wp2_with (at_builtin; refine appE_at rfl _ _ rfl Tryz.underlying53 infoMd rfl (by decide) (by decide) (ob + 1) _ i cl rfl (own_mv hl7.out.row (hal.out _)) _ _ rfl [.slice none 0 0] rfl (fun j u hu => new_cell w7 #[.slice none 0 0] 38 rfl j u (by simpa using hu)) hone.out (by omega) (by simp; omega) ?_)
        intro v9 w9 ho9 hg9 hn9
        have hl8 := hl7.out.bl (hal.out (.cells #[.slice none 0 0] 38))
        have hl9 := Hd.mk (hl8.app (.slice none 0 0) (nil_qm _ _) hg9 ho9)
        clear ho9 hg9 hn9 hl8
        go_wp2
        go_roundw
        case rel => exact ⟨i + 1, _, by omega, by go_num, hl9⟩
        case measure => simp [intOf]; omega
    obtain ⟨Al, cal, rfl, hcal, -, -, -⟩ := own_shape hl7.out.row
    go_wp2
    have hob7 := hl7.out.hob
    have hlo := (Array.getElem?_eq_some_iff.1 hob7).1
    have hrb7 := hl7.out.hrb
    have hlr := (Array.getElem?_eq_some_iff.1 hrb7).1
    have hor := hl7.out.ord
    refine wp_region_hos (fun W => Hd (Below w7.heap.size w7 W)) (fun _ _ => True) [.k (.slice Al i cal), .k (.agg #[.int .i64 x.func, .slice A1 x.args.length c1, .string x.mem, .int .i64 x.want.code, .int .i64 x.want.value, .slice A2 x.want.out.length c2, .string x.want.mem, .int .i64 x.want.steps]), .k (.slice Al i cal)] (by kernel_rfl) (by kernel_rfl) (by kernel_rfl) ⟨(Below.refl _ _).drew⟩ (fun _ => trivial) ?hex ?hst ?hrun
    case hex =>
      simp only [ExS, Sp.pure]
      repeat' first | exact trivial | refine And.intro ?_ ?_ | exact ⟨_, rfl⟩
    case hst =>
      simp only [StS, Sp.inW]
      repeat' first | exact trivial | refine And.intro ?_ ?_ | (intro W W' v hS hR hi; exact trivial)
    simp only [List.toList_toArray]
    refine hos_k (fun W hS hk => ?_) ?_
    · clear hk
      go_simp
      first | done | rfl
    simp only [Act.put, List.setIfInBounds_toArray, List.set_cons_zero, List.set_cons_succ]
    refine hos_k (fun W hS hk => ?_) ?_
    · have hh := row_facts ((hS.out.block _ hlo).trans hob7)
      have j0 := hh.1 0
      have j1 := hh.1 1
      have j2 := hh.1 2
      have j3 := hh.1 3
      have j4 := hh.1 4
      have j5 := hh.1 5
      have j6 := hh.1 6
      have j7 := hh.1 7
      simp at j0 j1 j2 j3 j4 j5 j6 j7
      clear hk hh hor
      go_simp
      first | done | rfl
    simp only [Act.put, List.setIfInBounds_toArray, List.set_cons_zero, List.set_cons_succ]
    refine hos_k (fun W hS hk => ?_) ?_
    · clear hk
      go_simp
      first | done | rfl
    simp only [Act.put, List.setIfInBounds_toArray, List.set_cons_zero, List.set_cons_succ]
    refine hos_end (fun W hS hal => ?_)
    have y := row_facts ((hS.out.block _ hlr).trans hrb7)
    have y0 := y.1 0
    have y1 := y.1 1
    have y2 := y.1 2
    have y3 := y.1 3
    have y4 := y.1 4
    have y5 := y.1 5
    have y6 := y.1 6
    have y7 := y.1 7
    have yf := y.2
    simp at y0 y1 y2 y3 y4 y5 y6 y7
    have hlW : w.heap.size < W.heap.size := Nat.lt_of_lt_of_le hlr hS.out.size
    have hor' := Hd.mk hor
    clear hor y hal hob7 hrb7
    refine tail_skip rfl _ (by go_simp; first | done | rfl) ?_
    simp only [Act.put, List.setIfInBounds_toArray, List.set_cons_zero, List.set_cons_succ]
    go_wp2
    have hor := hor'.out
    have hFz : Fr (fun q => q = w.heap.size) W ((((((((W.setCell ⟨w.heap.size, 0, none⟩ (.int .i64 x.func)).setCell ⟨w.heap.size, 1, none⟩ (.slice A1 x.args.length c1)).setCell ⟨w.heap.size, 2, none⟩ (.string x.mem)).setCell ⟨w.heap.size, 3, none⟩ (.int .i64 x.want.code)).setCell ⟨w.heap.size, 4, none⟩ (.int .i64 x.want.value)).setCell ⟨w.heap.size, 5, none⟩ (.slice A2 x.want.out.length c2)).setCell ⟨w.heap.size, 6, none⟩ (.string x.want.mem)).setCell ⟨w.heap.size, 7, none⟩ (.int .i64 x.want.steps)) := ((((((((Fr.set W w.heap.size 0 _).go (Fr.set _ w.heap.size 1 _) fun q e => .inl e).go (Fr.set _ w.heap.size 2 _) fun q e => .inl e).go (Fr.set _ w.heap.size 3 _) fun q e => .inl e).go (Fr.set _ w.heap.size 4 _) fun q e => .inl e).go (Fr.set _ w.heap.size 5 _) fun q e => .inl e).go (Fr.set _ w.heap.size 6 _) fun q e => .inl e).go (Fr.set _ w.heap.size 7 _) fun q e => .inl e)
    have hrow := own_fr (own_mv hl7.out.row hS.out) hFz (fun k hk e => by have := own_in hl7.out.row k hk; omega)
    have hel := (hl7.out.el.go (Fr.of _ hS.out) fun q e => .inl e).go (hFz.sub fun q e => by omega) fun q e => .inl e
    obtain ⟨ms, hms, -, hrd⟩ := (Elt.rd (K := KMod lm) (P := fun _ => True) (E := fun _ => False) hrow (hel.go (Fr.refl _ _) fun q e => e.elim) (fun k hk e => e) (by decide) (show i ≤ 1048576 by omega)).out
    rw [← hms] at hrd
    refine bodyPost_ret (v := .tuple #[.slice Al i cal, .agg #[.int .i64 x.func, .slice A1 x.args.length c1, .string x.mem, .int .i64 x.want.code, .int .i64 x.want.value, .slice A2 x.want.out.length c2, .string x.want.mem, .int .i64 x.want.steps]]) (by simp [results, Tryz.results25, go_sem, y0, y1, y2, y3, y4, y5, y6, y7]) rfl ⟨ms, Al, cal, x, A1, c1, A2, c2, by rw [hms]; rfl, ⟨by omega, by omega⟩, hrd, hx, (hl7.out.q1.go (Fr.of _ hS.out) fun q e => .inl e) _ (hFz.sub fun q e => by omega), (hl7.out.q2.go (Fr.of _ hS.out) fun q e => .inl e) _ (hFz.sub fun q e => by omega), ((hl7.out.fr.then hS.out).go hFz fun q e => .inl (by omega)).below (Nat.le_refl _) fun q hq e => by omega⟩
end Go.Proofs.YtkcgejbnhpccdaaGreat
