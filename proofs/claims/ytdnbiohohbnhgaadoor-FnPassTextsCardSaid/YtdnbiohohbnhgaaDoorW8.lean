/- Contracts of the reference's DrawPassText and DrawPassesOf and of the laws' sameInts. No conditions. -/
import Derived.Test.YtdnbiohohbnhgaaDoorW7
import Derived.Test.YtdnbiohohbnhgaaDoorZ2
import Derived.Test.YtdnbiohohbnhgaaDoorL3
set_option linter.unusedSimpArgs false
set_option linter.unusedVariables false
namespace Go.Proofs.YtdnbiohohbnhgaaDoor
open Go.RowKit
/-- A byte. -/
def KB (_ : World) (x : Int) (cs : List Value) : Prop := cs = [.int .u8 x] ∧ 0 ≤ x ∧ x < 256
instance : KM KB := ⟨fun h _ => h⟩
theorem RS.bel {lo g : Nat} {w w' : World} (h : RS lo w g) (hb : Below w.heap.size w w') : RS lo w' g :=
  h.mv (row := none) ⟨hb.os, hb.tape, hb.output, hb.size, fun i hi _ => hb.block i hi⟩ (by simp) (fun k hk => by cases hk)
theorem s_l1Open (v : Value) (xs : List Int) (w : World) (hv : Rd lm 1 KB w v xs) : Calls Tryd.prog 26 #[v] w (fun e w' => e = .returned (.pointer (some ⟨w.heap.size, 0, none⟩)) ∧ RS w.heap.size w' w.heap.size ∧ Below w.heap.size w w') := by
  obtain ⟨A, c, rfl, -, hl, hv0⟩ := hv.sm
  clear hv
  go_enter Tryd.func26, Tryd.ntmps26
  go_wp2
  go_ret
  refine ⟨rfl, ?_, (Below.refl _ _).al (Nat.le_refl _) _⟩
  refine ⟨Nat.le_refl _, A, xs.length, c, 0, heap_new _ _ _ _ rfl, Nat.zero_le _, hl, fun i hi => ?_⟩
  obtain ⟨b, off, cs, hA, hbl, ⟨rfl, q1, q2⟩, hat⟩ := hv0.out.in0 ((Below.refl _ _).al (Nat.le_refl _) _) i hi
  have g0 := hat 0 _ rfl
  simp only [Nat.mul_one, Nat.add_zero] at g0
  exact ⟨b, off, xs[i], hA, hbl, q1, q2, g0⟩
def RetL1 (most : Nat) (w : World) (e : Ending) (w' : World) : Prop := ∃ (v : Value) (l : List Int), e = .returned v ∧ l.length ≤ most ∧ w'.ownsRow w.heap.size 2 1 v l.length (l.map (Value.int .i64)) ∧ Below w.heap.size w w'
set_option maxHeartbeats 1000000 in
theorem s_DrawPassText (v : Value) (xs : List Int) (w : World) (hv : Rd lm 1 KB w v xs) : Calls Tryd.prog 15 #[v] w (RetL1 14 w) := by
  have h1 := s_l1Open v xs w hv
  obtain ⟨A, c, rfl, -, hl, -⟩ := hv.sm
  clear hv
  go_enter Tryd.func15, Tryd.ntmps15
  go_wp2_with fail
  refine h1.mono ?_; rintro e w1 ⟨rfl, hr, hb1⟩
  have h2 := s_passes w.heap.size w.heap.size 13 w1 hr (by omega)
  have hz := hb1.size
  have hb1' := Hd.mk hb1
  clear h1 hr hb1
  go_wp2_with fail
  refine h2.mono ?_; rintro e w2 ⟨v, l, rfl, hl, ho, -, hg⟩
  have hb2 := Hd.mk (hb1'.out.trans (gb_below hg (Nat.le_refl _) hz))
  have ho' := Hd.mk (own_lower (base' := w.heap.size) ho hz)
  obtain ⟨A', c', rfl, -⟩ := own_shape ho
  clear ho hg h2
  go_wp2
  go_ret
  exact ⟨_, l, rfl, hl, ho'.out, hb2.out⟩
theorem passText_size (l : List Int) : (passText l).size ≤ 200 := by
  unfold passText
  split
  · rename_i hok
    have h := ((okP_iff l).1 hok).1
    show (Lib.join ((l.map wordOf).map (·.data.toList)) comma.data.toList).toArray.size ≤ 200
    rw [List.size_toArray]
    cases l with
    | nil => simp [Lib.join_nil]
    | cons p r =>
      simp only [List.map_cons, Lib.join_cons, List.length_append]
      have h1 := wordOf_le p
      have h2 := joinTail_le comma.data.toList 7 ((r.map wordOf).map (·.data.toList)) (fun x hx => by
        obtain ⟨y, hy, rfl⟩ := List.mem_map.1 hx
        obtain ⟨q, _, rfl⟩ := List.mem_map.1 hy
        exact wordOf_le q)
      have hs : comma.data.toList.length = 1 := rfl
      rw [hs] at h2
      simp only [List.length_map, List.length_cons] at h2 h
      omega
  · exact Nat.zero_le _
def RetS (w : World) (e : Ending) (w' : World) : Prop := ∃ s : ByteArray, e = .returned (.string s) ∧ s.size ≤ 1048576 ∧ Below w.heap.size w w'
set_option maxHeartbeats 4000000 in
theorem s_DrawPassesOf (v : Value) (xs : List Int) (w : World) (hv : Rd lm 1 KB w v xs) : Calls Tryd.prog 17 #[v] w (RetS w) := by
  have h1 := s_l1Open v xs w hv
  obtain ⟨A, c, rfl, -, hl, -⟩ := hv.sm
  clear hv
  go_enter Tryd.func17, Tryd.ntmps17
  go_wp2_with fail
  refine h1.mono ?_; rintro e w1 ⟨rfl, hr, hb1⟩
  have h2 := s_passes w.heap.size w.heap.size 6 w1 hr (by omega)
  have hz := hb1.size
  have hb1' := Hd.mk hb1
  clear h1 hr hb1
  go_wp2_with fail
  refine h2.mono ?_; rintro e w2 ⟨v, l, rfl, hl, ho, hr2, hg⟩
  have hz2 := hg.size
  have hb2 := Hd.mk (hb1'.out.trans (gb_below hg (Nat.le_refl _) hz))
  have h3 := s_PassText v l w2 (row_ri ho (by omega))
  obtain ⟨A', c', rfl, -⟩ := own_shape ho
  have hr2' := Hd.mk hr2
  clear ho hg h2 hr2
  have hsz := passText_size l
  generalize passText l = s at *
  go_wp2_with fail
  refine h3.mono ?_; rintro e w3 ⟨rfl, hb3⟩
  have hr3 := hr2'.out.bel hb3
  have hz3 := hb3.size
  have hb3' := Hd.mk (hb2.out.trans (hb3.mono (by omega)))
  have h4 := s_once w.heap.size w.heap.size 3 w3 hr3 (by omega)
  clear hb3 hr2' hr3 h3
  go_wp2_with fail
  refine h4.mono ?_; rintro e w4 ⟨v, rfl, ⟨b, rfl⟩, hr4, hg4⟩
  have hz4 := hg4.size
  have hb4 := Hd.mk (hb3'.out.trans (gb_below hg4 (Nat.le_refl _) (by omega)))
  have hr4' := Hd.mk hr4
  have hgl := hr4.lt
  clear hr4 hg4 h4
  cases b
  · go_wp2
    go_ret
    exact ⟨s, rfl, by omega, hb4.out⟩
  · go_wp2_with fail
    refine (s_below w.heap.size w.heap.size 4 _ (hr4'.out.al _) (by omega)).mono ?_; rintro e w5 ⟨v, rfl, ⟨q, rfl, q1, q2⟩, -, hg5⟩
    have hbk := hg5.block w4.heap.size (by simp) (fun e => by have := Option.some.inj e; omega)
    have hh : w5.heap[w4.heap.size]? = some (.cells #[.string ⟨#[44]⟩, .string ⟨#[44, 102, 111, 108, 100]⟩, .string ⟨#[120]⟩, .string ⟨#[32]⟩] 9 (0, 0)) := by
      rw [hbk]; exact heap_new _ _ _ _ rfl
    obtain ⟨c1, -⟩ := row_facts hh
    have k0 := c1 0
    have k1 := c1 1
    have k2 := c1 2
    have k3 := c1 3
    simp at k0 k1 k2 k3
    have hb5 := Hd.mk ((hb4.out.al (by omega) (.cells #[.string ⟨#[44]⟩, .string ⟨#[44, 102, 111, 108, 100]⟩, .string ⟨#[120]⟩, .string ⟨#[32]⟩] 9)).trans (gb_below hg5 (Nat.le_refl _) (by simp; omega)))
    have e1 : (⟨#[44]⟩ : ByteArray).size = 1 := rfl
    have e2 : (⟨#[44, 102, 111, 108, 100]⟩ : ByteArray).size = 5 := rfl
    have e3 : (⟨#[120]⟩ : ByteArray).size = 1 := rfl
    have e4 : (⟨#[32]⟩ : ByteArray).size = 1 := rfl
    clear hg5 hr4' hb4 hbk hh c1
    have h4 : q = 0 ∨ q = 1 ∨ q = 2 ∨ q = 3 := by omega
    rcases h4 with rfl | rfl | rfl | rfl
    all_goals
      go_wp2
      go_ret
      exact ⟨_, rfl, by rw [ByteArray.size_append]; omega, hb5.out⟩
set_option maxHeartbeats 1000000 in
theorem l_sameInts (v u : Value) (xs ys : List Int) (w : World) (hv : RI lm w v xs) (hu : RI lm w u ys) : Calls Tryd.prog 16 #[v, u] w (Ret (.bool (decide (xs = ys))) w) := by
  obtain ⟨A1, c1, rfl, -, hl1, hv0⟩ := hv.sm
  obtain ⟨A2, c2, rfl, -, hl2, hu0⟩ := hu.sm
  clear hv hu
  by_cases hlen : xs.length = ys.length
  rotate_left
  · rw [decide_eq_false (len_ne hlen)]
    have d : ((xs.length : Int) != (ys.length : Int)) = true := by simp; omega
    go_enter Tryd.func16, Tryd.ntmps16
    go_wp2
    go_ret
    exact ⟨rfl, Below.refl _ _⟩
  obtain ⟨n, hn⟩ : ∃ n, n = xs.length := ⟨_, rfl⟩
  have hn2 : n = ys.length := hn.trans hlen
  rw [← hn, ← hn2]
  rw [← hn] at hv0 hl1
  rw [← hn2] at hu0
  have hn' := Hd.mk hn
  have hn2' := Hd.mk hn2
  clear hn hn2 hlen hl2
  go_enter Tryd.func16, Tryd.ntmps16
  go_wp2
  go_loopw [5] (fun s5 wr => ∃ k : Nat, k ≤ n ∧ s5 = .int .i64 k ∧ Hd (xs.take k = ys.take k) ∧ Hd (Below w.heap.size w wr)) (fun s5 _ => n - (intOf s5).toNat)
  case atStart => exact ⟨0, Nat.zero_le _, rfl, ⟨by simp⟩, ⟨Below.refl _ _⟩⟩
  case round =>
    obtain ⟨k, hk, rfl, hall, hbr⟩ := hrel
    by_cases hlt : k < n
    · obtain ⟨b, off, cs, hA, hbl, hk1, hat⟩ := hv0.out.in0 hbr.out k (by have := hn'.out; omega)
      cases hA
      cases hk1
      have g0 := hat 0 _ rfl
      simp at g0
      clear hat
      obtain ⟨b2, off2, cs, hA, hbl2, hk1, hat⟩ := hu0.out.in0 hbr.out k (by have := hn2'.out; omega)
      cases hA
      cases hk1
      have f0 := hat 0 _ rfl
      simp at f0
      clear hat
      have hz : (k : Int) < (n : Int) := by omega
      have hz0 : (0 : Int) ≤ (k : Int) := by omega
      by_cases he : xs[k]'(by have := hn'.out; omega) = ys[k]'(by have := hn2'.out; omega)
      · have ht := Hd.mk (take_eq hall.out (by have := hn'.out; omega) (by have := hn2'.out; omega) he)
        generalize xs[k]'_ = x at *
        subst he
        go_wp2
        go_quiet (fail)
        go_wp2
        go_roundw
        case rel => exact ⟨k + 1, by omega, by go_num, ht, ⟨pw_drewN hbr.out _⟩⟩
        case measure => simp [intOf]; omega
      · have hne := Hd.mk (el_ne _ _ he)
        have d := bneT he
        generalize xs[k]'_ = x at *
        generalize ys[k]'_ = y at *
        clear he
        go_wp2
        go_quiet (fail)
        go_wp2
        go_ret
        exact ⟨by rw [decide_eq_false hne.out]; rfl, pw_drewN hbr.out _⟩
    · have e : k = n := by omega
      subst e
      go_wp2
      go_ret
      exact ⟨by rw [decide_eq_true (take_all hall.out hn'.out hn2'.out)]; rfl, hbr.out⟩

end Go.Proofs.YtdnbiohohbnhgaaDoor
