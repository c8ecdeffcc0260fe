/- Contracts of the reference's reader of bytes: word, near, off, passes. No conditions. -/
import Derived.Test.YtdnbiohohbnhgaaDoorW6
set_option linter.unusedSimpArgs false
set_option linter.unusedVariables false
namespace Go.Proofs.YtdnbiohohbnhgaaDoor
open Go.RowKit
theorem gb_trans {a b c : World} {r : Option Nat} (h : a.grownBy b r) (k : b.grownBy c r) : a.grownBy c r :=
  ⟨k.os.trans h.os, k.tape.trans h.tape, k.output.trans h.output, Nat.le_trans h.size k.size, fun i hi hne => (k.block i (Nat.lt_of_lt_of_le hi h.size) hne).trans (h.block i hi hne)⟩
theorem gb_al {w W : World} {r : Option Nat} (h : w.grownBy W r) (o : Obj) : w.grownBy (W.alloc o) r :=
  ⟨h.os, h.tape, h.output, by have := h.size; simp; omega, fun i hi hne => by
    rw [← h.block i hi hne]
    exact ((Below.refl W.heap.size W).al (Nat.le_refl _) o).block i (Nat.lt_of_lt_of_le hi h.size)⟩
theorem RS.lt {lo g : Nat} {w : World} (h : RS lo w g) : g < w.heap.size := by
  obtain ⟨-, A, n, c, p, h1, -⟩ := h
  exact (Array.getElem?_eq_some_iff.1 h1).1
theorem RS.al {lo g : Nat} {w : World} (h : RS lo w g) (o : Obj) : RS lo (w.alloc o) g :=
  h.mv (row := none) ⟨rfl, rfl, rfl, by simp, fun i hi _ => ((Below.refl w.heap.size w).al (Nat.le_refl _) o).block i hi⟩ (by simp) (fun k hk => by cases hk)
set_option maxHeartbeats 1000000 in
theorem s_word (lo g : Nat) (w : World) (h : RS lo w g) : Calls Tryd.prog 53 #[.pointer (some ⟨g, 0, none⟩)] w (RetR lo g (fun v => ∃ q : Int, v = .int .u64 q) w) := by
  have h' := Hd.mk h
  clear h
  go_enter Tryd.func53, Tryd.ntmps53
  go_wp2
  go_loopw [3, 4] (fun s3 s4 wr => ∃ (k : Nat) (x : Int), k ≤ 8 ∧ s4 = .int .i64 k ∧ s3 = .int .u64 x ∧ Hd (RS lo wr g) ∧ Hd (w.grownBy wr (some g))) (fun _ s4 _ => 8 - (intOf s4).toNat)
  case atStart => exact ⟨0, 0, by omega, rfl, rfl, h', ⟨World.grownBy.refl _ _⟩⟩
  case round =>
    clear h'
    obtain ⟨k, x, hk, rfl, rfl, hr, hg⟩ := hrel
    by_cases hlt : k < 8
    · have hx := s_next lo g wr hr.out
      go_wp2_with fail
      refine hx.mono ?_; rintro e w1 ⟨v, rfl, ⟨q, rfl, q1, q2⟩, hr1, hg1⟩
      have hr' := Hd.mk hr1
      have hg' := Hd.mk (gb_trans hg.out hg1)
      clear hr1 hg1 hg hr
      go_wp2
      go_roundw
      case rel => exact ⟨k + 1, _, by omega, by go_num, rfl, hr', hg'⟩
      case measure => simp [intOf]; omega
    · have e : k = 8 := by omega
      subst e
      go_wp2
      go_ret
      exact ⟨_, rfl, ⟨_, rfl⟩, hr.out, hg.out⟩
def AnyI (v : Value) : Prop := ∃ q : Int, v = .int .i64 q
set_option maxHeartbeats 1000000 in
theorem s_near (lo g : Nat) (w : World) (h : RS lo w g) : Calls Tryd.prog 46 #[.pointer (some ⟨g, 0, none⟩), .int .i64 1, .int .i64 9] w (RetR lo g AnyI w) := by
  have hx := s_below lo g 8 w h (by omega)
  clear h
  go_enter Tryd.func46, Tryd.ntmps46
  go_wp2_with fail
  refine hx.mono ?_; rintro e w1 ⟨v, rfl, ⟨q, rfl, q1, q2⟩, hr, hg⟩
  have hw := s_word lo g w1 hr
  have hr' := Hd.mk hr
  have hg' := Hd.mk hg
  clear hr hg hx
  by_cases h0 : q = 0
  · subst h0
    go_wp2
    go_ret
    exact ⟨_, rfl, ⟨_, rfl⟩, hr'.out, hg'.out⟩
  have t0 := beqF h0
  by_cases h1 : q = 1
  · subst h1
    go_wp2
    go_ret
    exact ⟨_, rfl, ⟨_, rfl⟩, hr'.out, hg'.out⟩
  have t1 := beqF h1
  go_wp2_with fail
  refine hw.mono ?_; rintro e w2 ⟨v, rfl, ⟨x, rfl⟩, hr2, hg2⟩
  have hr2' := Hd.mk hr2
  have hg2' := Hd.mk (gb_trans hg'.out hg2)
  clear hr2 hg2 hr' hg'
  go_wp2
  go_ret
  exact ⟨_, rfl, ⟨_, rfl⟩, hr2'.out, hg2'.out⟩
set_option maxHeartbeats 1000000 in
theorem s_off (lo g : Nat) (w : World) (h : RS lo w g) : Calls Tryd.prog 38 #[.pointer (some ⟨g, 0, none⟩), .int .i64 1, .int .i64 9] w (RetR lo g AnyI w) := by
  have hx := s_once lo g 24 w h (by omega)
  clear h
  go_enter Tryd.func38, Tryd.ntmps38
  go_wp2_with fail
  refine hx.mono ?_; rintro e w1 ⟨v, rfl, ⟨b, rfl⟩, hr, hg⟩
  have hn := s_near lo g w1 hr
  have hr' := Hd.mk hr
  have hg' := Hd.mk hg
  clear hr hg hx
  cases b
  · go_wp2_with fail
    refine hn.mono ?_; rintro e w2 ⟨v, rfl, ⟨x, rfl⟩, hr2, hg2⟩
    have hr2' := Hd.mk hr2
    have hg2' := Hd.mk (gb_trans hg'.out hg2)
    clear hr2 hg2 hr' hg'
    go_wp2
    go_ret
    exact ⟨_, rfl, ⟨_, rfl⟩, hr2'.out, hg2'.out⟩
  · have hgl : g < w1.heap.size := hr'.out.lt
    go_wp2_with fail
    refine (s_below lo g 4 _ (hr'.out.al _) (by omega)).mono ?_; rintro e w2 ⟨v, rfl, ⟨q, rfl, q1, q2⟩, hr2, hg2⟩
    have hbk := hg2.block w1.heap.size (by simp) (fun e => by cases e; omega)
    have hh : w2.heap[w1.heap.size]? = some (.cells #[.int .i64 0, .int .i64 10, .int .i64 (-9223372036854775808), .int .i64 9223372036854775807] 2 (0, 0)) := by
      rw [hbk]; exact heap_new _ _ _ _ rfl
    obtain ⟨c1, -⟩ := row_facts hh
    have k0 := c1 0
    have k1 := c1 1
    have k2 := c1 2
    have k3 := c1 3
    simp at k0 k1 k2 k3
    have hr2' := Hd.mk hr2
    have hg2' := Hd.mk (gb_trans (gb_al hg'.out _) hg2)
    clear hr2 hg2 hr' hg' hbk hh c1
    have h4 : q = 0 ∨ q = 1 ∨ q = 2 ∨ q = 3 := by omega
    rcases h4 with rfl | rfl | rfl | rfl
    all_goals
      go_wp2
      go_ret
      exact ⟨_, rfl, ⟨_, rfl⟩, hr2'.out, hg2'.out⟩
theorem own_gb {W W' : World} {base e sz n : Nat} {v : Value} {cs : List Value} {r : Option Nat} (h : W.ownsRow base e sz v n cs) (hg : W.grownBy W' r) (hne : v.ownBlock = none ∨ r ≠ v.ownBlock) : W'.ownsRow base e sz v n cs := by
  refine ⟨h.1, ?_⟩
  rcases h.2 with h' | ⟨g, cap, cur, hv, h1, h2, h3⟩
  · exact .inl h'
  · refine .inr ⟨g, cap, cur, hv, h1, (hg.block g (Array.getElem?_eq_some_iff.1 h2).1 (fun e => ?_)).trans h2, h3⟩
    rcases hne with hn | hn
    · rw [hv] at hn; simp [Value.ownBlock] at hn
    · apply hn; rw [hv]; simp only [Value.ownBlock]; first | exact e | exact e.symm
theorem RS.ne {lo g : Nat} {W : World} {base n : Nat} {v : Value} {cs : List Value} (h : RS lo W g) (ho : W.ownsRow base 2 1 v n cs) : some g ≠ v.ownBlock := by
  obtain ⟨-, A, n', c, p, h1, -⟩ := h
  exact fun e => own_ne ho h1 (by decide) e.symm
theorem gb_own {w W W' : World} {r row : Option Nat} (h : w.grownBy W r) (hg : W.grownBy W' row) (hr : ∀ k, row = some k → w.heap.size ≤ k) : w.grownBy W' r :=
  ⟨hg.os.trans h.os, hg.tape.trans h.tape, hg.output.trans h.output, Nat.le_trans h.size hg.size, fun i hi hne => (hg.block i (Nat.lt_of_lt_of_le hi h.size) (fun e => by
    have := hr i (by first | exact e | exact e.symm)
    omega)).trans (h.block i hi hne)⟩
/-- A fresh list of the reader's. -/
def RetP (lo g : Nat) (most : Nat) (w : World) (e : Ending) (w' : World) : Prop := ∃ (v : Value) (l : List Int), e = .returned v ∧ l.length ≤ most ∧ w'.ownsRow w.heap.size 2 1 v l.length (l.map (Value.int .i64)) ∧ RS lo w' g ∧ w.grownBy w' (some g)
set_option maxHeartbeats 4000000 in
theorem s_passes (lo g : Nat) (most : Nat) (w : World) (h : RS lo w g) (hm : most ≤ 100) : Calls Tryd.prog 27 #[.pointer (some ⟨g, 0, none⟩), .int .i64 most] w (RetP lo g (most + 1) w) := by
  have hx := fun W hW => s_below lo g (most + 1) W hW (by omega)
  have h' := Hd.mk h
  have hgl := h.lt
  clear h
  go_enter Tryd.func27, Tryd.ntmps27
  go_wp2_with fail
  refine (hx _ (h'.out.al _)).mono ?_; rintro e w1 ⟨v, rfl, ⟨q, rfl, q1, q2⟩, hr, hg⟩
  have ho : w1.ownsRow w.heap.size 2 1 (.slice (some ⟨w.heap.size, 0, none⟩) 0 0) 0 [] := own_gb (own_empty w w.heap.size w.heap.size 2 1 rfl (Nat.le_refl _)) hg (.inr (by simp [Value.ownBlock]; omega))
  have hG := gb_trans (gb_al (World.grownBy.refl w (some g)) _) hg
  obtain ⟨m, rfl⟩ : ∃ m : Nat, q = m := ⟨q.toNat, by omega⟩
  have hm0 : m ≤ most := by omega
  have ho' := Hd.mk ho
  have hr' := Hd.mk hr
  have hG' := Hd.mk hG
  clear ho hr hG hg hx h' q1 q2
  go_wp2
  go_loopw [5, 6] (fun s5 s6 wr => ∃ (i : Nat) (l : List Int) (A : Option Addr) (c : Nat), l.length + i ≤ most ∧ s6 = .int .i64 i ∧ s5 = .slice A l.length c ∧ Hd (wr.ownsRow w.heap.size 2 1 (.slice A l.length c) l.length (l.map (Value.int .i64))) ∧ Hd (RS lo wr g) ∧ Hd (w.grownBy wr (some g))) (fun _ s6 _ => (intOf s6).toNat)
  case atStart => exact ⟨m, [], _, _, by simpa using hm0, rfl, rfl, ho', hr', hG'⟩
  case round =>
    clear ho' hr' hG'
    obtain ⟨i, l, A, c, hl, rfl, rfl, ho, hr, hG⟩ := hrel
    have hzr := hG.out.size
    by_cases hi : 0 < i
    · have hx := s_below lo g 9 wr hr.out (by omega)
      go_wp2_with fail
      refine hx.mono ?_; rintro e w2 ⟨v, rfl, ⟨q, rfl, q1, q2⟩, hr2, hg2⟩
      have ho2 := Hd.mk (own_gb ho.out hg2 (.inr (RS.ne hr.out ho.out)))
      have hG2 := Hd.mk (gb_trans hG.out hg2)
      have hr2' := Hd.mk hr2
      have hz2 := hg2.size
      clear hr2 hg2 hx ho hr hG
      go_wp2_with (at_builtin; refine app_I rfl _ _ rfl w.heap.size _ l [1 + q] rfl ?h1 _ 1 1 rfl (rd_one _ _) ?h2 ?h3 ?h4)
      case h1 => exact own_mv ho2.out ((Below.refl _ _).al (Nat.le_refl _) _)
      case h2 => omega
      case h3 => simp; omega
      case h4 =>
        intro v' w4 ho4 hg4
        have ho3 := own_mv ho2.out ((Below.refl w2.heap.size w2).al (Nat.le_refl _) (.cells #[.int .i64 (1 + q)] 2))
        have hr3 := hr2'.out.al (.cells #[.int .i64 (1 + q)] 2)
        have hr4 : RS lo w4 g := hr3.mv hg4 (fun e => RS.ne hr3 ho3 e.symm) (fun k hk => by have := own_block_ge ho3 k hk; have := hr2'.out.1; omega)
        have hG4 := gb_own (gb_al hG2.out (.cells #[.int .i64 (1 + q)] 2)) hg4 (fun k hk => own_block_ge ho3 k hk)
        obtain ⟨A2, c2, rfl, -, -⟩ := own_shape ho4
        have ho5 := Hd.mk ho4
        have hr5 := Hd.mk hr4
        have hG5 := Hd.mk hG4
        clear ho4 hg4 ho3 hr3 hr4 hG4 ho2 hG2 hr2'
        go_wp2
        go_roundw
        case rel => exact ⟨i - 1, l ++ [1 + q], A2, c2, by simp; omega, by go_num, by simp, ⟨by simpa using ho5.out⟩, hr5, hG5⟩
        case measure => simp [intOf]; omega
    · have e : i = 0 := by omega
      subst e
      have hx := s_once lo g 40 wr hr.out (by omega)
      go_wp2_with fail
      refine hx.mono ?_; rintro e w2 ⟨v, rfl, ⟨b, rfl⟩, hr2, hg2⟩
      have ho2 := Hd.mk (own_gb ho.out hg2 (.inr (RS.ne hr.out ho.out)))
      have hG2 := Hd.mk (gb_trans hG.out hg2)
      have hr2' := Hd.mk hr2
      have hz2 := hg2.size
      clear hr2 hg2 hx ho hr hG
      cases b
      · go_wp2
        go_ret
        exact ⟨_, l, rfl, by omega, ho2.out, hr2'.out, hG2.out⟩
      · go_wp2_with fail
        refine (s_off lo g w2 hr2'.out).mono ?_; rintro e w3 ⟨v, rfl, ⟨q, rfl⟩, hr3, hg3⟩
        have ho3' := Hd.mk (own_gb ho2.out hg3 (.inr (RS.ne hr2'.out ho2.out)))
        have hG3 := Hd.mk (gb_trans hG2.out hg3)
        have hr3' := Hd.mk hr3
        have hz3 := hg3.size
        clear hr3 hg3 ho2 hr2' hG2
        go_wp2_with (at_builtin; refine app_I rfl _ _ rfl w.heap.size _ l [q] rfl ?h1 _ 1 1 rfl (rd_one _ _) ?h2 ?h3 ?h4)
        case h1 => exact own_mv ho3'.out ((Below.refl _ _).al (Nat.le_refl _) _)
        case h2 => omega
        case h3 => simp; omega
        case h4 =>
          intro v' w4 ho4 hg4
          have ho3 := own_mv ho3'.out ((Below.refl w3.heap.size w3).al (Nat.le_refl _) (.cells #[.int .i64 q] 2))
          have hr3 := hr3'.out.al (.cells #[.int .i64 q] 2)
          have hr4 : RS lo w4 g := hr3.mv hg4 (fun e => RS.ne hr3 ho3 e.symm) (fun k hk => by have := own_block_ge ho3 k hk; have := hr3'.out.1; omega)
          have hG4 := gb_own (gb_al hG3.out (.cells #[.int .i64 q] 2)) hg4 (fun k hk => own_block_ge ho3 k hk)
          have ho5 := Hd.mk ho4
          have hr5 := Hd.mk hr4
          have hG5 := Hd.mk hG4
          clear ho4 hg4 ho3 hr3 hr4 hG4 ho3' hG3 hr3'
          go_wp2
          go_ret
          exact ⟨_, l ++ [q], rfl, by simp; omega, by simpa using ho5.out, hr5.out, hG5.out⟩
end Go.Proofs.YtdnbiohohbnhgaaDoor
