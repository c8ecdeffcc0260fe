import Derived.Test.YtkcgejbnhpccdaaGreatP03
import Derived.Deep.RegionWith
import Derived.StillTailTactics
import Derived.Deep.QuietTactic
import Derived.BigQuiet
import Derived.Test.YtkcgejbnhpccdaaGreatP06
import Derived.Orders
set_option linter.unusedSimpArgs false
set_option linter.unusedVariables false
namespace Go.Proofs.YtkcgejbnhpccdaaGreat
open Go.RowKit
def RdS (lo : Nat) (w : World) (g : Nat) : Prop := lo ≤ g ∧ ∃ (A : Option Addr) (n c p : Nat), w.heap[g]? = some (.cells #[.slice A n c, .int .i64 p] 112 (0, 0)) ∧ p ≤ n ∧ n ≤ 1048576 ∧
  ∀ i, i < n → ∃ b off q, A = some ⟨b, off, none⟩ ∧ b < lo ∧ 0 ≤ q ∧ q < 256 ∧ w.cell? ⟨b, off + i, none⟩ = some (.int .u8 q)
def RetRd (lo g : Nat) (φ : Value → Prop) (w : World) (e : Ending) (w' : World) : Prop := ∃ v, e = .returned v ∧ φ v ∧ RdS lo w' g ∧ w.grownBy w' (some g)
theorem gb_below {lo g : Nat} {w w' : World} (h : w.grownBy w' (some g)) (hg : lo ≤ g) (hw : lo ≤ w.heap.size) : Below lo w w' := (Below.refl lo w).grown h hw fun k hk => by cases hk; exact hg
theorem RdS.mv {lo g : Nat} {w w' : World} {row : Option Nat} (h : RdS lo w g) (hg : w.grownBy w' row) (hne : row ≠ some g) (hr : ∀ k, row = some k → lo ≤ k) : RdS lo w' g := by
  obtain ⟨hlo, A, n, c, p, h1, h2, h3, h4⟩ := h
  have hgl := (Array.getElem?_eq_some_iff.1 h1).1
  have hb : Below lo w w' := (Below.refl lo w).grown hg (by omega) hr
  refine ⟨hlo, A, n, c, p, (hg.block g hgl (fun e => hne (by first | exact e | exact e.symm))).trans h1, h2, h3, fun i hi => ?_⟩
  obtain ⟨b, off, q, h5, h6, h7, h8, h9⟩ := h4 i hi
  exact ⟨b, off, q, h5, h6, h7, h8, (bat hb b h6 _).trans h9⟩
theorem gb_drewN {w W : World} {r : Option Nat} (h : w.grownBy W r) (n : Nat) : w.grownBy (W.drewN n) r := ⟨h.os, h.tape, h.output, h.size, h.block⟩
set_option maxHeartbeats 1000000 in
theorem s_next (lo g : Nat) (w : World) (h : RdS lo w g) : Calls Tryz.prog 80 #[.pointer (some ⟨g, 0, none⟩)] w (RetRd lo g (fun v => ∃ q : Int, v = .int .i64 q ∧ 0 ≤ q ∧ q < 256) w) := by
  have h0 := Hd.mk h
  obtain ⟨hlo, A, n, c, p, h1, h2, h3, h4⟩ := h
  obtain ⟨c0, -⟩ := row_facts h1
  have f0 := fun o => (row_facts h1).2 o
  have k0 := c0 0
  have k1 := c0 1
  simp at k0 k1
  have hgl := (Array.getElem?_eq_some_iff.1 h1).1
  by_cases hlt : p < n
  · obtain ⟨b, off, q, rfl, h6, h7, h8, h9⟩ := h4 p hlt
    clear h4 c0
    go_enter Tryz.func80, Tryz.ntmps80
    go_wp2
    go_quiet (fail)
    go_wp2
    have hbg : b ≠ g := by omega
    have hnn : (p : Int) + 1 - 1 = p := by omega
    obtain ⟨W1, hW1⟩ : ∃ W1 : World, W1 = (w.drewN nq).setCell ⟨g, 1, none⟩ (.int .i64 ((p : Int) + 1)) := ⟨_, rfl⟩
    rw [← hW1]
    have hh : W1.heap[g]? = some (.cells #[.slice (some ⟨b, off, none⟩) n c, .int .i64 ((p : Int) + 1)] 112 (0, 0)) := by
      rw [hW1]
      exact heap_set (w := w.drewN nq) (j := 1) (u := .int .i64 ((p : Int) + 1)) h1
    obtain ⟨c1, -⟩ := row_facts hh
    have k0' := c1 0
    have k1' := c1 1
    simp at k0' k1'
    have hbl : Below g w W1 := by rw [hW1]; exact (below_drewN (Below.refl g w) _).setCell (p := ⟨g, 1, none⟩) (Nat.le_refl _) _
    have h9' := (bat hbl b (by omega) (off + p)).trans h9
    clear c1
    have hgb : w.grownBy W1 (some g) := by
      rw [hW1]
      exact ⟨rfl, rfl, rfl, by simp [World.setCell, World.drewN], fun i hi hne => Below.heap_setCell _ _ _ _ (fun e => hne (by rw [e]))⟩
    have hh' := Hd.mk hh
    have hgb' := Hd.mk hgb
    clear hW1 k0 k1 h9 f0 hbl hh hgb
    go_quiet (fail)
    go_wp2
    go_ret
    refine ⟨_, rfl, ⟨q, rfl, h7, h8⟩, ?_, gb_drewN hgb'.out _⟩
    have h1' := h0.out
    obtain ⟨-, A0, n0, c0, p0, j1, j2, j3, j4⟩ := h1'
    rw [h1] at j1
    cases j1
    refine ⟨hlo, _, n, c, p + 1, hh'.out, by omega, h3, fun i hi => ?_⟩
    obtain ⟨b', off', q', e', h6', h7', h8', h9''⟩ := j4 i hi
    refine ⟨b', off', q', e', h6', h7', h8', ?_⟩
    exact (bat (gb_below hgb'.out hlo (by omega)) b' h6' _).trans h9''
  · have e : p = n := by omega
    subst e
    clear h4 c0
    go_enter Tryz.func80, Tryz.ntmps80
    go_wp2
    go_quiet (fail)
    go_wp2
    go_ret
    exact ⟨_, rfl, ⟨_, rfl, by omega, by omega⟩, h0.out.mv (row := none) ⟨rfl, rfl, rfl, Nat.le_refl _, fun _ _ _ => rfl⟩ (by simp) (fun k hk => by cases hk), ⟨rfl, rfl, rfl, Nat.le_refl _, fun _ _ _ => rfl⟩⟩
set_option maxHeartbeats 1000000 in
theorem s_below (lo g : Nat) (n : Int) (w : World) (h : RdS lo w g) (hn : 1 ≤ n ∧ n ≤ 256) : Calls Tryz.prog 52 #[.pointer (some ⟨g, 0, none⟩), .int .i64 n] w (RetRd lo g (fun v => ∃ q : Int, v = .int .i64 q ∧ 0 ≤ q ∧ q < n) w) := by
  obtain ⟨n1, n2⟩ := hn
  have hx := s_next lo g w h
  have h' := Hd.mk h
  clear h
  by_cases h1 : n = 1
  · subst h1
    clear hx
    go_enter Tryz.func52, Tryz.ntmps52
    go_wp2
    go_ret
    exact ⟨_, rfl, ⟨0, rfl, by omega, by omega⟩, h'.out, World.grownBy.refl _ _⟩
  · have hd : ¬ n ≤ 1 := by omega
    have hm : ∀ q : Int, 0 ≤ q → 0 ≤ q % n ∧ q % n < n := fun q hq => ⟨Int.emod_nonneg _ (by omega), Int.emod_lt_of_pos _ (by omega)⟩
    go_enter Tryz.func52, Tryz.ntmps52
    go_wp2_with fail
    refine hx.mono ?_; rintro e w1 ⟨v, rfl, ⟨q, rfl, q1, q2⟩, hr, hg⟩
    have hr' := Hd.mk hr
    have hg' := Hd.mk hg
    have hm' := Hd.mk (hm q q1)
    clear hm hr hg
    go_wp2
    go_ret
    exact ⟨_, rfl, ⟨_, rfl, hm'.out.1, hm'.out.2⟩, hr'.out, hg'.out⟩
theorem s_once (lo g : Nat) (n : Int) (w : World) (h : RdS lo w g) (hn : 1 ≤ n ∧ n ≤ 256) : Calls Tryz.prog 55 #[.pointer (some ⟨g, 0, none⟩), .int .i64 n] w (RetRd lo g (fun v => ∃ b : Bool, v = .bool b) w) := by
  have hx := s_below lo g n w h hn
  obtain ⟨n1, n2⟩ := hn
  clear h
  go_enter Tryz.func55, Tryz.ntmps55
  go_wp2_with fail
  refine hx.mono ?_; rintro e w1 ⟨v, rfl, ⟨q, rfl, q1, q2⟩, hr, hg⟩
  have hr' := Hd.mk hr
  have hg' := Hd.mk hg
  clear hr hg
  go_wp2
  go_ret
  exact ⟨_, rfl, ⟨_, rfl⟩, hr'.out, hg'.out⟩
theorem own_neT {w : World} {base e e' sz n b : Nat} {v : Value} {cs : List Value} {arr : Array Value} {fz : Nat × Nat} (h : w.ownsRow base e sz v n cs) (hb : w.heap[b]? = some (.cells arr e' fz)) (hne : e ≠ e') : v.ownBlock ≠ some b := by
  intro hv
  rcases h.2 with ⟨rfl, _⟩ | ⟨g, cap, cur, rfl, h1, h2, _⟩
  · simp [Value.ownBlock] at hv
  · simp only [Value.ownBlock, Option.some.injEq] at hv
    subst hv
    rw [hb] at h2
    cases h2
    exact hne rfl
theorem gb_trans {a b c : World} {r : Option Nat} (h : a.grownBy b r) (k : b.grownBy c r) : a.grownBy c r :=
  ⟨k.os.trans h.os, k.tape.trans h.tape, k.output.trans h.output, Nat.le_trans h.size k.size, fun i hi hne => (k.block i (Nat.lt_of_lt_of_le hi h.size) hne).trans (h.block i hi hne)⟩
theorem gb_al {w W : World} {r : Option Nat} (h : w.grownBy W r) (o : Obj) : w.grownBy (W.alloc o) r :=
  ⟨h.os, h.tape, h.output, by have := h.size; simp; omega, fun i hi hne => by
    rw [← h.block i hi hne]
    exact ((Below.refl W.heap.size W).al (Nat.le_refl _) o).block i (Nat.lt_of_lt_of_le hi h.size)⟩
theorem RdS.lt {lo g : Nat} {w : World} (h : RdS lo w g) : g < w.heap.size := by
  obtain ⟨-, A, n, c, p, h1, -⟩ := h
  exact (Array.getElem?_eq_some_iff.1 h1).1
theorem RdS.al {lo g : Nat} {w : World} (h : RdS lo w g) (o : Obj) : RdS lo (w.alloc o) g :=
  h.mv (row := none) ⟨rfl, rfl, rfl, by simp, fun i hi _ => ((Below.refl w.heap.size w).al (Nat.le_refl _) o).block i hi⟩ (by simp) (fun k hk => by cases hk)
set_option maxHeartbeats 1000000 in
theorem s_word (lo g : Nat) (w : World) (h : RdS lo w g) : Calls Tryz.prog 118 #[.pointer (some ⟨g, 0, none⟩)] w (RetRd lo g (fun v => ∃ q : Int, v = .int .u64 q) w) := by
  have h' := Hd.mk h
  clear h
  go_enter Tryz.func118, Tryz.ntmps118
  go_wp2
  go_loopw [3, 4] (fun s3 s4 wr => ∃ (k : Nat) (x : Int), k ≤ 8 ∧ s4 = .int .i64 k ∧ s3 = .int .u64 x ∧ Hd (RdS lo wr g) ∧ Hd (w.grownBy wr (some g))) (fun _ s4 _ => 8 - (intOf s4).toNat)
  case atStart => exact ⟨0, 0, by omega, rfl, rfl, h', ⟨World.grownBy.refl _ _⟩⟩
  case round =>
    clear h'
    obtain ⟨k, x, hk, rfl, rfl, hr, hg⟩ := hrel
    by_cases hlt : k < 8
    · have hx := s_next lo g wr hr.out
      go_wp2_with fail
      refine hx.mono ?_; rintro e w1 ⟨v, rfl, ⟨q, rfl, q1, q2⟩, hr1, hg1⟩
      have hr' := Hd.mk hr1
      have hg' := Hd.mk (gb_trans hg.out hg1)
      clear hr1 hg1 hg hr
      go_wp2
      go_roundw
      case rel => exact ⟨k + 1, _, by omega, by go_num, rfl, hr', hg'⟩
      case measure => simp [intOf]; omega
    · have e : k = 8 := by omega
      subst e
      go_wp2
      go_ret
      exact ⟨_, rfl, ⟨_, rfl⟩, hr.out, hg.out⟩
theorem own_gb {W W' : World} {base e sz n : Nat} {v : Value} {cs : List Value} {r : Option Nat} (h : W.ownsRow base e sz v n cs) (hg : W.grownBy W' r) (hne : v.ownBlock = none ∨ r ≠ v.ownBlock) : W'.ownsRow base e sz v n cs := by
  refine ⟨h.1, ?_⟩
  rcases h.2 with h' | ⟨g, cap, cur, hv, h1, h2, h3⟩
  · exact .inl h'
  · refine .inr ⟨g, cap, cur, hv, h1, (hg.block g (Array.getElem?_eq_some_iff.1 h2).1 (fun e => ?_)).trans h2, h3⟩
    rcases hne with hn | hn
    · rw [hv] at hn; simp [Value.ownBlock] at hn
    · apply hn; rw [hv]; simp only [Value.ownBlock]; first | exact e | exact e.symm
theorem RdS.ne {lo g : Nat} {W : World} {base n : Nat} {v : Value} {cs : List Value} (h : RdS lo W g) (ho : W.ownsRow base 2 1 v n cs) : some g ≠ v.ownBlock := by
  obtain ⟨-, A, n', c, p, h1, -⟩ := h
  exact fun e => own_neT ho h1 (by decide) e.symm
theorem gb_own {w W W' : World} {r row : Option Nat} (h : w.grownBy W r) (hg : W.grownBy W' row) (hr : ∀ k, row = some k → w.heap.size ≤ k) : w.grownBy W' r :=
  ⟨hg.os.trans h.os, hg.tape.trans h.tape, hg.output.trans h.output, Nat.le_trans h.size hg.size, fun i hi hne => (hg.block i (Nat.lt_of_lt_of_le hi h.size) (fun e => by
    have := hr i (by first | exact e | exact e.symm)
    omega)).trans (h.block i hi hne)⟩
def AnyI (v : Value) : Prop := ∃ q : Int, v = .int .i64 q
def isW (q : Int) : Prop := q = 1 ∨ q = 8 ∨ q = 16 ∨ q = 32
def IsW (v : Value) : Prop := ∃ q : Int, v = .int .i64 q ∧ isW q
set_option maxHeartbeats 1000000 in
theorem s_width (lo g : Nat) (w : World) (h : RdS lo w g) : Calls Tryz.prog 112 #[.pointer (some ⟨g, 0, none⟩)] w (RetRd lo g IsW w) := by
  have h' := Hd.mk h
  have hgl : g < w.heap.size := h.lt
  clear h
  go_enter Tryz.func112, Tryz.ntmps112
  go_wp2_with fail
  refine (s_below lo g 4 _ (h'.out.al _) (by omega)).mono ?_; rintro e w2 ⟨v, rfl, ⟨q, rfl, q1, q2⟩, hr2, hg2⟩
  have hbk := hg2.block w.heap.size (by simp) (fun e => by cases e; omega)
  have hh : w2.heap[w.heap.size]? = some (.cells #[.int .i64 32, .int .i64 8, .int .i64 1, .int .i64 16] 2 (0, 0)) := by
    rw [hbk]; exact heap_new _ _ _ _ rfl
  obtain ⟨c1, -⟩ := row_facts hh
  have k0 := c1 0
  have k1 := c1 1
  have k2 := c1 2
  have k3 := c1 3
  simp at k0 k1 k2 k3
  have hr2' := Hd.mk hr2
  have hg2' := Hd.mk (gb_trans (gb_al (World.grownBy.refl w (some g)) _) hg2)
  clear hr2 hg2 hbk hh c1 h'
  have h4 : q = 0 ∨ q = 1 ∨ q = 2 ∨ q = 3 := by omega
  rcases h4 with rfl | rfl | rfl | rfl
  all_goals
    go_wp2
    go_ret
    exact ⟨_, rfl, ⟨_, rfl, by simp [isW]⟩, hr2'.out, hg2'.out⟩
set_option maxHeartbeats 4000000 in
theorem s_value (lo g : Nat) (wd : Int) (w : World) (h : RdS lo w g) (hw : isW wd) : Calls Tryz.prog 81 #[.pointer (some ⟨g, 0, none⟩), .int .i64 wd] w (RetRd lo g AnyI w) := by
  have hx := s_below lo g 7 w h (by omega)
  have hwd := fun W hW => s_word lo g W hW
  clear h
  rcases hw with rfl | rfl | rfl | rfl
  all_goals
    go_enter Tryz.func81, Tryz.ntmps81
    go_wp2_with fail
    refine hx.mono ?_; rintro e w1 ⟨v, rfl, ⟨q, rfl, q1, q2⟩, hr, hg⟩
    have hw1 := hwd w1 hr
    have hr' := Hd.mk hr
    have hg' := Hd.mk hg
    clear hr hg
    by_cases h0 : q = 0
    · subst h0
      go_wp2
      go_ret
      exact ⟨_, rfl, ⟨_, rfl⟩, hr'.out, hg'.out⟩
    have t0 := beqF h0
    by_cases h1 : q = 1
    · subst h1
      go_wp2
      go_ret
      exact ⟨_, rfl, ⟨_, rfl⟩, hr'.out, hg'.out⟩
    have t1 := beqF h1
    by_cases h2 : q = 2
    · subst h2
      go_wp2
      go_ret
      exact ⟨_, rfl, ⟨_, rfl⟩, hr'.out, hg'.out⟩
    have t2 := beqF h2
    by_cases h3 : q = 3
    · subst h3
      go_wp2
      go_ret
      exact ⟨_, rfl, ⟨_, rfl⟩, hr'.out, hg'.out⟩
    have t3 := beqF h3
    go_wp2_with fail
    refine hw1.mono ?_; rintro e w2 ⟨v, rfl, ⟨x, rfl⟩, hr2, hg2⟩
    have hr2' := Hd.mk hr2
    have hg2' := Hd.mk (gb_trans hg'.out hg2)
    clear hr2 hg2 hr' hg'
    go_wp2
    go_ret
    exact ⟨_, rfl, ⟨_, rfl⟩, hr2'.out, hg2'.out⟩
theorem upTo_len' (n : Nat) : (upTo n).length = n := by simp [upTo]
theorem upTo_mem (n : Nat) (x : Int) : x ∈ upTo n ↔ 0 ≤ x ∧ x < n := by
  unfold upTo
  simp only [List.mem_map, List.mem_range]
  constructor
  · rintro ⟨a, h, rfl⟩; omega
  · intro h; exact ⟨x.toNat, by omega, by omega⟩
theorem hasI_iff (xs : List Int) (x : Int) : hasI xs x = true ↔ x ∈ xs := by
  unfold hasI
  rw [List.any_eq_true]
  constructor
  · rintro ⟨y, hy, h⟩; rw [beq_iff_eq] at h; rw [h]; exact hy
  · intro h; exact ⟨x, h, by simp⟩
def trues (out : List Bool) : List Int := (upTo out.length).filter fun i => out.getD i.toNat false
def putS (l : List Int) (n : Int) : List Int := l.takeWhile (fun x => decide (x < n)) ++ n :: l.dropWhile (fun x => decide (x < n))
theorem trues_has (out : List Bool) (b : Int) (h0 : 0 ≤ b) : hasI (trues out) b = out.getD b.toNat false := by
  rw [Bool.eq_iff_iff, hasI_iff]
  unfold trues
  rw [List.mem_filter, upTo_mem]
  constructor
  · exact fun h => h.2
  · intro h
    refine ⟨⟨h0, ?_⟩, h⟩
    rw [List.getD_eq_getElem?_getD] at h
    by_cases hb : b.toNat < out.length
    · omega
    · rw [List.getElem?_eq_none (by omega)] at h; cases h
theorem filter_upTo (p q : Int → Bool) (n : Nat) (h : ∀ i : Nat, i < n → p i = q i) : (upTo n).filter p = (upTo n).filter q := by
  refine List.filter_congr fun x hx => ?_
  obtain ⟨h1, h2⟩ := (upTo_mem n x).1 hx
  have := h x.toNat (by omega)
  rwa [show ((x.toNat : Nat) : Int) = x by omega] at this
theorem rise_upTo (p : Int → Bool) (n b : Nat) (hb : b < n) (hp : p b = false) : ∀ k, b ≤ k → k ≤ n →
    (((upTo k).filter p).takeWhile (fun x => decide (x < (b : Int))) = (upTo b).filter p ∧ ((upTo k).filter p).dropWhile (fun x => decide (x < (b : Int))) = ((upTo k).filter p).drop ((upTo b).filter p).length ∧ ((upTo k).filter p).take ((upTo b).filter p).length = (upTo b).filter p) := by
  intro k hk hn
  have hsplit : (upTo k).filter p = (upTo b).filter p ++ ((List.range (k - b)).map (fun (i : Nat) => ((b + i : Nat) : Int))).filter p := by
    rw [← List.filter_append]
    congr 1
    unfold upTo
    have : List.range k = List.range b ++ (List.range (k - b)).map (b + ·) := by
      rw [← List.range_add]; congr 1; omega
    rw [this, List.map_append, List.map_map]
    rfl
  have hlow : ∀ x ∈ (upTo b).filter p, decide (x < (b : Int)) = true := fun x hx => by
    have := (upTo_mem b x).1 (List.mem_filter.1 hx).1
    simp; omega
  have hhigh : ∀ x ∈ ((List.range (k - b)).map (fun (i : Nat) => ((b + i : Nat) : Int))).filter p, decide (x < (b : Int)) = false := fun x hx => by
    obtain ⟨i, -, rfl⟩ := List.mem_map.1 (List.mem_filter.1 hx).1
    simp; omega
  rw [hsplit]
  refine ⟨?_, ?_, by simp⟩
  · rw [List.takeWhile_append_of_pos hlow]
    cases h : ((List.range (k - b)).map (fun (i : Nat) => ((b + i : Nat) : Int))).filter p with
    | nil => simp
    | cons y r => rw [List.takeWhile_cons, hhigh y (by rw [h]; simp)]; simp
  · rw [List.dropWhile_append_of_pos hlow, List.drop_left]
    cases h : ((List.range (k - b)).map (fun (i : Nat) => ((b + i : Nat) : Int))).filter p with
    | nil => simp
    | cons y r => rw [List.dropWhile_cons, hhigh y (by rw [h]; simp)]; simp
theorem putS_trues (out : List Bool) (b : Nat) (hb : b < out.length) (hf : out.getD b false = false) : putS (trues out) b = trues (out.set b true) := by
  unfold putS trues
  have hp : (fun i : Int => out.getD i.toNat false) (b : Int) = false := by simpa using hf
  obtain ⟨h1, h2, -⟩ := rise_upTo (fun i : Int => out.getD i.toNat false) out.length b hb hp out.length (by omega) (Nat.le_refl _)
  rw [h1, h2]
  have split3 : ∀ q : Int → Bool, (upTo out.length).filter q = (upTo b).filter q ++ ((if q b then [(b : Int)] else []) ++ ((List.range (out.length - b - 1)).map (fun (i : Nat) => ((b + 1 + i : Nat) : Int))).filter q) := fun q => by
    have : upTo out.length = upTo b ++ ([(b : Int)] ++ (List.range (out.length - b - 1)).map (fun (i : Nat) => ((b + 1 + i : Nat) : Int))) := by
      unfold upTo
      have e : List.range out.length = List.range (b + 1) ++ (List.range (out.length - b - 1)).map (b + 1 + ·) := by
        rw [← List.range_add]; congr 1; omega
      rw [e, List.map_append, List.map_map, List.range_succ, List.map_append, List.append_assoc]
      rfl
    rw [this, List.filter_append, List.filter_append]
    congr 2
    cases h : q b <;> simp [h]
  rw [List.length_set, split3 (fun i => (out.set b true).getD i.toNat false), split3 (fun i => out.getD i.toNat false)]
  have e0 : (out.set b true).getD ((b : Int).toNat) false = true := by simp [hb]
  simp only [e0, if_true]
  have e1 : (upTo b).filter (fun i => (out.set b true).getD i.toNat false) = (upTo b).filter (fun i => out.getD i.toNat false) := filter_upTo _ _ b fun i hi => by
    simp only [Int.toNat_natCast, List.getD_eq_getElem?_getD]
    rw [List.getElem?_set_ne (by omega)]
  have e2 : ((List.range (out.length - b - 1)).map (fun (i : Nat) => ((b + 1 + i : Nat) : Int))).filter (fun i => (out.set b true).getD i.toNat false) = ((List.range (out.length - b - 1)).map (fun (i : Nat) => ((b + 1 + i : Nat) : Int))).filter (fun i => out.getD i.toNat false) := by
    refine List.filter_congr fun x hx => ?_
    obtain ⟨i, -, rfl⟩ := List.mem_map.1 hx
    simp only [Int.toNat_natCast, List.getD_eq_getElem?_getD]
    rw [List.getElem?_set_ne (by omega)]
  rw [e1, e2]
  simp only [Int.toNat_natCast, hf]
  simp
theorem trues_len (out : List Bool) : (trues out).length ≤ out.length := by
  unfold trues
  exact Nat.le_trans (List.length_filter_le _ _) (by simp [upTo])
theorem trues_none (n : Nat) : trues (List.replicate n false) = [] := by
  unfold trues
  rw [List.filter_eq_nil_iff]
  intro x _
  rw [List.getD_eq_getElem?_getD]
  by_cases h : x.toNat < n
  · rw [List.getElem?_eq_getElem (by simpa using h)]; simp
  · rw [List.getElem?_eq_none (by simp; omega)]; simp
def falses (out : List Bool) : Nat := out.countP (!·)
theorem falses_set (out : List Bool) (b : Nat) (hb : b < out.length) (hf : out[b] = false) : falses (out.set b true) + 1 = falses out := by
  unfold falses
  induction out generalizing b with
  | nil => simp at hb
  | cons x r ih =>
    cases b with
    | zero => simp only [List.getElem_cons_zero] at hf; subst hf; simp [List.set]
    | succ b =>
      have := ih b (by simpa using hb) (by simpa using hf)
      simp only [List.set, List.countP_cons]
      omega
theorem falses_rep (n : Nat) : falses (List.replicate n false) = n := by unfold falses; simp [List.countP_replicate]
theorem leads_len (t : XTerm) : (leadsTo t).length ≤ 2 := by
  unfold leadsTo
  split
  · simp
  split
  · simp
  · simp
theorem reach_done (f : XFunc) (wo : Int) (n : Nat) (out : List Bool) : reachGo f wo n [] out = out := by cases n <;> rfl
theorem reachGo_len (f : XFunc) (wo : Int) : ∀ (n : Nat) (left : List Int) (out : List Bool), (reachGo f wo n left out).length = out.length
  | 0, _, _ => rfl
  | _ + 1, [], _ => rfl
  | n + 1, b :: left, out => by
    unfold reachGo
    split
    · exact reachGo_len f wo n left out
    · rw [reachGo_len f wo n]; simp
theorem reach_len (f : XFunc) (wo : Int) : (reach f wo).length = f.blocks.length := by unfold reach; rw [reachGo_len]; simp
def inGraph (f : XFunc) : Prop := ∀ b ∈ f.blocks, ∀ x ∈ leadsTo b.term, 0 ≤ x ∧ x < f.blocks.length
theorem blkAt_get (f : XFunc) (b : Int) (h0 : 0 ≤ b) (h : b < f.blocks.length) : blkAt f b = f.blocks[b.toNat]'(by omega) := by
  unfold blkAt
  rw [List.getD_eq_getElem?_getD, List.getElem?_eq_getElem (by omega)]; rfl
theorem blkAt_nat (f : XFunc) (b : Nat) (h : b < f.blocks.length) : blkAt f b = f.blocks[b] := blkAt_get f b (by omega) (by omega)
theorem inGraph.at_ {f : XFunc} (h : inGraph f) (b : Int) (h0 : 0 ≤ b) (hb : b < f.blocks.length) : ∀ x ∈ leadsTo (blkAt f b).term, 0 ≤ x ∧ x < f.blocks.length := by
  rw [blkAt_get f b h0 hb]; exact h _ (List.getElem_mem _)
theorem reach_step (f : XFunc) (wo : Int) (n : Nat) (b : Int) (left : List Int) (out : List Bool) :
    reachGo f wo (n + 1) (b :: left) out = if b == wo || out.getD b.toNat false then reachGo f wo n left out else reachGo f wo n (left ++ leadsTo (blkAt f b).term) (out.set b.toNat true) := rfl
theorem reach_wo0 (f : XFunc) : reach f 0 = List.replicate f.blocks.length false := by
  unfold reach
  rw [reach_step]
  simp [reach_done]
theorem term_in {ids n : Int} {t : XTerm} (h : termOk ids n t = true) : ∀ x ∈ leadsTo t, 0 ≤ x ∧ x < n := by
  unfold termOk isIdB inR at h
  unfold leadsTo
  by_cases h2 : t.kind = 2
  · rw [if_neg (by simp [h2]), if_pos (by simp [h2])] at h
    rw [if_pos (by simp [h2])]
    simp at h
    simp; omega
  by_cases h3 : t.kind = 3
  · rw [if_neg (by simp [h3]), if_neg (by simp [h3]), if_pos (by simp [h3])] at h
    rw [if_neg (by simp [h3]), if_pos (by simp [h3])]
    simp at h
    intro x hx
    simp at hx
    rcases hx with rfl | rfl <;> omega
  · rw [if_neg (by simpa using h2), if_neg (by simpa using h3)]
    intro x hx; cases hx
theorem func_blocks {f : XFunc} {n : Int} (h : funcOk f n = true) : (1 ≤ f.blocks.length ∧ f.blocks.length ≤ 10) ∧ f.params.length ≤ 4 ∧ countOf f ≤ 60 ∧ ∀ b ∈ f.blocks, blockOk (countOf f) n f.blocks.length b = true := by
  unfold funcOk inR at h
  simp only [Bool.and_eq_true, decide_eq_true_eq, List.all_eq_true] at h
  obtain ⟨⟨⟨⟨⟨h1, h2⟩, h3, h4⟩, h5⟩, h6⟩, h7⟩ := h
  exact ⟨by omega, h1, h6, h7⟩
theorem func_graph {f : XFunc} {n : Int} (h : funcOk f n = true) : inGraph f := by
  intro b hb x hx
  have h1 := (func_blocks h).2.2.2 b hb
  unfold blockOk at h1
  simp only [Bool.and_eq_true] at h1
  exact term_in h1.2 x hx
section
variable {P : Program} {ops : Array Oper} {S : World → Prop}
def StepS (P : Program) (S : World → Prop) (o : Oper) (v : Value) (ρ : Operand → Value) : Prop :=
  (∀ w, S w → (execOp ρ o).run P w = .ok (.value v) w) ∨
  ∃ f args, (∀ w, S w → (execOp ρ o).run P w = .ok (.enter f args) w) ∧ ∀ w, S w → Calls P f args w fun e w' => e = .returned v ∧ S w'
def CondS (P : Program) (ops : Array Oper) (S : World → Prop) (o : Oper) (v : Value) (a : Act) : Prop :=
  (Region.wanted o (yielded ops a.tmps) = true ∧ StepS P S o v a.eval) ∨ (Region.wanted o (yielded ops a.tmps) = false ∧ v = undef)
def SeqS (P : Program) (ops : Array Oper) (S : World → Prop) (K : Act → Prop) : List Oper → Act → Prop
  | [], a => K a
  | o :: r, a => ∃ v, CondS P ops S o v a ∧ SeqS P ops S K r (a.put o.dst v)
def noSel (o : Oper) : Bool := match o.op with | .select .. => false | _ => true
theorem noSel_ne {o : Oper} (h : noSel o = true) : ∀ cs b, o.op ≠ .select cs b := fun cs b e => by unfold noSel at h; rw [e] at h; cases h
theorem eval_same {a a' : Act} {x : Operand} (h : ∀ t, x = .tmp t → a'.tmps[t]? = a.tmps[t]?) : a'.eval x = a.eval x := by
  cases x with
  | tmp t => simp only [Act.eval, Array.getD_eq_getD_getElem?]; rw [h t rfl]
  | _ => rfl
theorem CondS.congr {o : Oper} {v : Value} {a a' : Act} (hn : noSel o = true) (h : ∀ t ∈ o.looksAt ops, a'.tmps[t]? = a.tmps[t]?) (hc : CondS P ops S o v a) : CondS P ops S o v a' := by
  have he : execOp a'.eval o = execOp a.eval o := execOp_congr o (noSel_ne hn) fun x hx => eval_same fun t ht => h t (by
    subst ht
    exact List.mem_append_left _ (List.mem_filterMap.2 ⟨.tmp t, by simpa using hx, rfl⟩))
  have hw : Region.wanted o (yielded ops a'.tmps) = Region.wanted o (yielded ops a.tmps) := by
    unfold Region.wanted
    cases hg : o.guard with
    | none => rfl
    | some gw =>
      obtain ⟨g, want⟩ := gw
      have hy : yielded ops a'.tmps g = yielded ops a.tmps g := by
        unfold yielded
        cases ht : (ops[g]?).bind (·.dst) with
        | none => rfl
        | some t =>
          have := h t (by simp [Oper.looksAt, hg, ht])
          simp only [Option.bind_some, this]
      simp only [hy]
  unfold CondS StepS at *
  rw [he, hw]
  exact hc
theorem CondS.wpOp {i : Nat} {o : Oper} {v : Value} {a : Act} {w : World} {Q : Exit → Act → World → Prop} {K : Act → World → Prop} (hi : ops[i]? = some o) (hc : CondS P ops S o v a) (hS : S w) (h : ∀ w', S w' → K (a.put o.dst v) w') : wpOp P ops Q i K a w := by
  unfold Go.wpOp
  simp only [hi]
  rcases hc with ⟨hw, hs⟩ | ⟨hw, rfl⟩
  · simp only [hw, if_true]
    left
    unfold Oper.wp
    rcases hs with hv | ⟨f, args, hr, hcc⟩
    · rw [hv w hS]; exact h w hS
    · rw [hr w hS, Oper.upon_enter]
      refine (hcc w hS).mono ?_
      rintro e w' ⟨rfl, hS'⟩
      exact h w' hS'
  · simp only [hw, Bool.false_eq_true, if_false]; exact h w hS
def pairOk (md : Region.Mode) (ops : Array Oper) (i : Nat) (o : Oper) (j : Nat) (p : Oper) : Bool :=
  i == j || (match p.dst with
    | none => true
    | some t => o.dst != some t && (!(o.looksAt ops).contains t || (if j < i then o.after.any (fun e => Region.binds md e && e.on == j) else p.after.any (fun e => Region.binds md e && e.on == i))))
def ordOk (md : Region.Mode) (ops : Array Oper) : Bool :=
  (List.range ops.size).all fun i => match ops[i]? with
    | none => true
    | some o => noSel o && o.after.all (fun e => !Region.binds md e || decide (e.on < i)) && (List.range ops.size).all fun j => match ops[j]? with
      | none => true
      | some p => pairOk md ops i o j p
theorem ordOk_at {md : Region.Mode} (h : ordOk md ops = true) {i : Nat} {o : Oper} (hi : ops[i]? = some o) : noSel o = true ∧ (∀ e ∈ o.after, Region.binds md e = true → e.on < i) ∧ ∀ j p, ops[j]? = some p → pairOk md ops i o j p = true := by
  unfold ordOk at h
  rw [List.all_eq_true] at h
  have hlt := (Array.getElem?_eq_some_iff.1 hi).1
  have h1 := h i (by simpa using hlt)
  simp only [hi, Bool.and_eq_true] at h1
  obtain ⟨⟨h2, h3⟩, h4⟩ := h1
  refine ⟨h2, fun e he hb => ?_, fun j p hj => ?_⟩
  · rw [Array.all_eq_true_iff_forall_mem] at h3
    have := h3 e he
    simpa [hb] using this
  · rw [List.all_eq_true] at h4
    have := h4 j (by simpa using (Array.getElem?_eq_some_iff.1 hj).1)
    simpa only [hj] using this
theorem pair_spec {md : Region.Mode} {i j : Nat} {o p : Oper} {t : Tmp} (h : pairOk md ops i o j p = true) (hne : i ≠ j) (hd : p.dst = some t) : o.dst ≠ some t ∧ (t ∈ o.looksAt ops → (j < i → ∃ e ∈ o.after, Region.binds md e = true ∧ e.on = j) ∧ (¬ j < i → ∃ e ∈ p.after, Region.binds md e = true ∧ e.on = i)) := by
  unfold pairOk at h
  rw [hd] at h
  simp only [Bool.or_eq_true, beq_iff_eq, hne, false_or, Bool.and_eq_true, bne_iff_ne, ne_eq, Bool.not_eq_true'] at h
  obtain ⟨h1, h2⟩ := h
  refine ⟨h1, fun ht => ?_⟩
  rcases h2 with h2 | h2
  · have : (o.looksAt ops).contains t = true := by simpa using ht
    rw [h2] at this; cases this
  · constructor
    · intro hj
      rw [if_pos hj, Array.any_eq_true'] at h2
      obtain ⟨e, he, hb⟩ := h2
      simp only [Bool.and_eq_true, beq_iff_eq] at hb
      exact ⟨e, he, hb.1, hb.2⟩
    · intro hj
      rw [if_neg hj, Array.any_eq_true'] at h2
      obtain ⟨e, he, hb⟩ := h2
      simp only [Bool.and_eq_true, beq_iff_eq] at hb
      exact ⟨e, he, hb.1, hb.2⟩
structure Canon (P : Program) (ops : Array Oper) (S : World → Prop) (A : Nat → Act) : Prop where
  step : ∀ i o, ops[i]? = some o → ∃ v, CondS P ops S o v (A i) ∧ A (i + 1) = (A i).put o.dst v
theorem put_size (a : Act) (d : Option Tmp) (v : Value) : (a.put d v).tmps.size = a.tmps.size := by
  unfold Act.put; split <;> simp
theorem put_def (a : Act) (d : Option Tmp) (v : Value) : (a.put d v).defers = a.defers := by
  unfold Act.put; split <;> rfl
theorem put_ne (a : Act) (d : Option Tmp) (v : Value) (t : Tmp) (h : d ≠ some t) : (a.put d v).tmps[t]? = a.tmps[t]? := by
  unfold Act.put
  split
  · rename_i d'
    rw [Array.getElem?_setIfInBounds_ne (fun e => h (by rw [e]))]
  · rfl
theorem put_eq (a : Act) (v : Value) (t : Tmp) : (a.put (some t) v).tmps[t]? = if t < a.tmps.size then some v else none := by
  unfold Act.put
  simp only [Array.getElem?_setIfInBounds, if_true]
variable {A : Nat → Act}
theorem Canon.size (h : Canon P ops S A) : ∀ i, i ≤ ops.size → (A i).tmps.size = (A 0).tmps.size ∧ (A i).defers = (A 0).defers
  | 0, _ => ⟨rfl, rfl⟩
  | i + 1, hi => by
    obtain ⟨v, -, e⟩ := h.step i ops[i] (Array.getElem?_eq_getElem (by omega))
    rw [e, put_size, put_def]
    exact h.size i (by omega)
theorem Canon.keep (h : Canon P ops S A) (t : Tmp) (i : Nat) : ∀ k, i + k ≤ ops.size → (∀ j o, i ≤ j → j < i + k → ops[j]? = some o → o.dst ≠ some t) → (A (i + k)).tmps[t]? = (A i).tmps[t]?
  | 0, _, _ => rfl
  | k + 1, hk, hn => by
    obtain ⟨v, -, e⟩ := h.step (i + k) ops[i + k] (Array.getElem?_eq_getElem (by omega))
    rw [show i + (k + 1) = i + k + 1 by omega, e, put_ne _ _ _ _ (hn (i + k) _ (by omega) (by omega) (Array.getElem?_eq_getElem (by omega)))]
    exact h.keep t i k (by omega) fun j o h1 h2 => hn j o h1 (by omega)
theorem Canon.late (h : Canon P ops S A) {md : Region.Mode} (hk : ordOk md ops = true) (t : Tmp) (j : Nat) (p : Oper) (hj : ops[j]? = some p) (hd : p.dst = some t) (i : Nat) (hji : j < i) (hi : i ≤ ops.size) : (A i).tmps[t]? = (A (j + 1)).tmps[t]? := by
  have := h.keep t (j + 1) (i - (j + 1)) (by omega) fun k o h1 h2 ho hdo => by
    have hp := (ordOk_at hk ho).2.2 j p hj
    exact (pair_spec hp (by omega) hd).1 hdo
  rwa [show j + 1 + (i - (j + 1)) = i by omega] at this
structure Agr (md : Region.Mode) (ops : Array Oper) (A : Nat → Act) (listed : Array Bool) (a : Act) : Prop where
  lsz : listed.size = ops.size
  down : ∀ i o, ops[i]? = some o → listed.getD i false = true → ∀ e ∈ o.after, Region.binds md e = true → listed.getD e.on false = true
  dfs : a.defers = (A 0).defers
  tsz : a.tmps.size = (A 0).tmps.size
  has : ∀ i o t, ops[i]? = some o → o.dst = some t → listed.getD i false = true → a.tmps[t]? = (A (i + 1)).tmps[t]?
  old : ∀ t, (∀ i o, ops[i]? = some o → o.dst = some t → listed.getD i false = false) → a.tmps[t]? = (A 0).tmps[t]?
theorem Agr.looks {md : Region.Mode} {listed : Array Bool} {a : Act} (hk : ordOk md ops = true) (h : Canon P ops S A) (hg : Agr md ops A listed a) {i : Nat} {o : Oper} (hi : ops[i]? = some o) (hr : ∀ e ∈ o.after, Region.binds md e = true → listed.getD e.on false = true) (hl : listed.getD i false = false) (t : Tmp) (ht : t ∈ o.looksAt ops) : a.tmps[t]? = (A i).tmps[t]? := by
  have hlt := (Array.getElem?_eq_some_iff.1 hi).1
  by_cases hw : ∃ j p, j < i ∧ ops[j]? = some p ∧ p.dst = some t
  · obtain ⟨j, p, hji, hj, hd⟩ := hw
    obtain ⟨e, he, hb, hon⟩ := ((pair_spec ((ordOk_at hk hi).2.2 j p hj) (by omega) hd).2 ht).1 hji
    have hlj := hr e he hb
    rw [hon] at hlj
    rw [hg.has j p t hj hd hlj, h.late hk t j p hj hd i hji (by omega)]
  · have h0 : (A i).tmps[t]? = (A 0).tmps[t]? := by
      have := h.keep t 0 i (by omega) fun j p _ h2 hj hd => hw ⟨j, p, by omega, hj, hd⟩
      rwa [Nat.zero_add] at this
    rw [h0]
    refine hg.old t fun k p hp hd => ?_
    by_cases hki : k = i
    · rw [hki]; exact hl
    · have hnk : ¬ k < i := fun hlt' => hw ⟨k, p, hlt', hp, hd⟩
      obtain ⟨e, he, hb, hon⟩ := ((pair_spec ((ordOk_at hk hi).2.2 k p hp) (fun e => hki e.symm) hd).2 ht).2 hnk
      cases hlk : listed.getD k false with
      | false => rfl
      | true =>
        have := hg.down k p hp hlk e he hb
        rw [hon, hl] at this; cases this
theorem getD_set (l : Array Bool) (i j : Nat) (hi : i < l.size) : (l.setIfInBounds i true).getD j false = if i = j then true else l.getD j false := by
  simp only [Array.getD_eq_getD_getElem?, Array.getElem?_setIfInBounds, hi, if_true]
  split
  · rename_i e; subst e; first | rfl | (rw [if_pos hi]; rfl)
  · rfl
theorem any_of_canon {md : Region.Mode} {Q : Exit → Act → World → Prop} (hk : ordOk md ops = true) (h : Canon P ops S A) (hQ : ∀ w, S w → Q .normal (A ops.size) w) :
    ∀ fuel (listed : Array Bool) (a : Act) (w : World), Agr md ops A listed a → falses listed.toList ≤ fuel → S w → wpAny P md ops Q fuel listed a w := by
  have hend : ∀ (listed : Array Bool) (a : Act) (w : World), Agr md ops A listed a → S w → Region.ready md ops listed = [] → Q .normal a w := by
    intro listed a w hg hS hr
    have hall : ∀ k, ∀ i, i < k → i < ops.size → listed.getD i false = true := by
      intro k
      induction k with
      | zero => intro i hi; omega
      | succ k ih =>
        intro i hi hs
        by_cases hlt : i < k
        · exact ih i hlt hs
        · cases hl : listed.getD i false with
          | true => rfl
          | false =>
            exfalso
            have hio : ops[i]? = some ops[i] := Array.getElem?_eq_getElem hs
            have hmem : i ∈ Region.ready md ops listed := by
              unfold Region.ready
              rw [List.mem_filter]
              refine ⟨by simpa using hs, ?_⟩
              have h1 : listed.getD i true = false := by
                rw [Array.getD_eq_getD_getElem?] at hl ⊢
                rw [Array.getElem?_eq_getElem (by rw [hg.lsz]; exact hs)] at hl ⊢
                exact hl
              rw [h1, hio]
              simp only [Bool.not_false, Bool.true_and, Option.map_some, Option.getD_some]
              rw [Array.all_eq_true_iff_forall_mem]
              intro e he
              cases hb : Region.binds md e with
              | false => rfl
              | true =>
                have := (ordOk_at hk hio).2.1 e he hb
                rw [ih e.on (by omega) (by omega)]; rfl
            rw [hr] at hmem; cases hmem
    have e : a = A ops.size := by
      have hsz := h.size ops.size (Nat.le_refl _)
      have h1 : a.tmps = (A ops.size).tmps := by
        refine Array.ext_getElem? fun t => ?_
        by_cases hw : ∃ (i : Nat) (o : Oper), ops[i]? = some o ∧ o.dst = some t
        · obtain ⟨i, o, hi, hd⟩ := hw
          have hlt := (Array.getElem?_eq_some_iff.1 hi).1
          rw [hg.has i o t hi hd (hall (i + 1) i (by omega) hlt), h.late hk t i o hi hd ops.size hlt (Nat.le_refl _)]
        · have := h.keep t 0 ops.size (by omega) fun j p _ _ hj hd => hw ⟨j, p, hj, hd⟩
          rw [Nat.zero_add] at this
          rw [this]
          exact hg.old t fun i o hi hd => absurd ⟨i, o, hi, hd⟩ hw
      have h2 : a.defers = (A ops.size).defers := hg.dfs.trans hsz.2.symm
      cases a
      cases hA : A ops.size
      rw [hA] at h1 h2
      simp only at h1 h2
      rw [h1, h2]
    rw [e]; exact hQ w hS
  intro fuel
  induction fuel with
  | zero =>
    intro listed a w hg hf hS
    have hr : Region.ready md ops listed = [] := by
      unfold Region.ready
      rw [List.filter_eq_nil_iff]
      intro i hi
      have hi' : i < listed.toList.length := by rw [Array.length_toList, hg.lsz]; simpa using hi
      have h1 : listed.getD i true = true := by
        rw [Array.getD_eq_getD_getElem?, Array.getElem?_eq_getElem (by simpa using hi')]
        cases hb : listed[i]'(by simpa using hi') with
        | true => rfl
        | false =>
          have := falses_set listed.toList i hi' (by simpa using hb)
          omega
      rw [h1]; simp
    exact ⟨hr, hend listed a w hg hS hr⟩
  | succ fuel ih =>
    intro listed a w hg hf hS
    refine ⟨hend listed a w hg hS, fun i hi => ?_⟩
    unfold Region.ready at hi
    rw [List.mem_filter] at hi
    obtain ⟨hlt0, hi2⟩ := hi
    have hlt : i < ops.size := by simpa using hlt0
    have hio : ops[i]? = some ops[i] := Array.getElem?_eq_getElem hlt
    rw [hio] at hi2
    simp only [Bool.and_eq_true, Bool.not_eq_true', Option.map_some, Option.getD_some] at hi2
    obtain ⟨hl1, hr1⟩ := hi2
    have hls : i < listed.size := by rw [hg.lsz]; exact hlt
    have hl : listed.getD i false = false := by
      rw [Array.getD_eq_getD_getElem?] at hl1 ⊢
      rw [Array.getElem?_eq_getElem hls] at hl1 ⊢
      exact hl1
    have hr : ∀ e ∈ ops[i].after, Region.binds md e = true → listed.getD e.on false = true := by
      rw [Array.all_eq_true_iff_forall_mem] at hr1
      intro e he hb
      have := hr1 e he
      simpa [hb] using this
    obtain ⟨v, hc, hA⟩ := h.step i _ hio
    have hc' := CondS.congr (ordOk_at hk hio).1 (fun t ht => hg.looks hk h hio hr hl t ht) hc
    refine hc'.wpOp hio hS fun w' hS' => ih _ _ _ ?_ ?_ hS'
    · refine ⟨by rw [Array.size_setIfInBounds]; exact hg.lsz, ?_, by rw [put_def]; exact hg.dfs, by rw [put_size]; exact hg.tsz, ?_, ?_⟩
      · intro j p hj hlj e he hb
        rw [getD_set _ _ _ hls] at hlj ⊢
        by_cases hie : i = e.on
        · rw [if_pos hie]
        · rw [if_neg hie]
          by_cases hij : i = j
          · subst hij
            rw [hio] at hj
            cases hj
            exact hr e he hb
          · rw [if_neg hij] at hlj
            exact hg.down j p hj hlj e he hb
      · intro j p t hj hd hlj
        rw [getD_set _ _ _ hls] at hlj
        by_cases hij : i = j
        · subst hij
          rw [hio] at hj
          cases hj
          rw [hA, hd, put_eq, put_eq, hg.tsz, (h.size i (by omega)).1]
        · rw [if_neg hij] at hlj
          have hne := (pair_spec ((ordOk_at hk hio).2.2 j p hj) hij hd).1
          rw [put_ne _ _ _ _ hne]
          exact hg.has j p t hj hd hlj
      · intro t hn
        have hi3 := hn i _ hio
        have hne : ops[i].dst ≠ some t := fun hd => by
          have := hi3 hd
          rw [getD_set _ _ _ hls, if_pos rfl] at this; cases this
        rw [put_ne _ _ _ _ hne]
        refine hg.old t fun j p hj hd => ?_
        have := hn j p hj hd
        rw [getD_set _ _ _ hls] at this
        by_cases hij : i = j
        · rw [if_pos hij] at this; cases this
        · rwa [if_neg hij] at this
    · have h1 := falses_set listed.toList i (by simpa using hls) (by
        rw [Array.getD_eq_getD_getElem?, Array.getElem?_eq_getElem hls] at hl
        simpa using hl)
      have h2 : (listed.setIfInBounds i true).toList = listed.toList.set i true := by simp
      rw [h2]; omega
theorem seq_canon {K : Act → Prop} : ∀ (l : List Oper) (a : Act), SeqS P ops S K l a → ∃ A : Nat → Act, A 0 = a ∧ (∀ i (h : i < l.length), ∃ v, CondS P ops S l[i] v (A i) ∧ A (i + 1) = (A i).put l[i].dst v) ∧ K (A l.length)
  | [], a, h => ⟨fun _ => a, rfl, fun i h => absurd h (by simp), h⟩
  | o :: r, a, ⟨v, hc, h⟩ => by
    obtain ⟨A, h0, h1, h2⟩ := seq_canon r _ h
    refine ⟨fun i => match i with | 0 => a | j + 1 => A j, rfl, fun i hi => ?_, h2⟩
    cases i with
    | zero => exact ⟨v, hc, h0⟩
    | succ i => exact h1 i (by simpa using hi)
theorem wp_region_one {id : Nat} {a : Act} {w : World} {Q : Exit → Act → World → Prop} (S : World → Prop) (hm : P.follows .mixedOrders = true) (hk : ordOk .any ops = true) (hS : S w.drew)
    (h : SeqS P ops S (fun a' => ∀ W, S W → Q .normal a' W) ops.toList a) : (Code.region id ops true).wp P Q a w := by
  obtain ⟨A, h0, h1, h2⟩ := seq_canon _ _ h
  refine wp_region_any hm ?_
  have hc : Canon P ops S A := ⟨fun i o hi => by
    obtain ⟨hlt, rfl⟩ := Array.getElem?_eq_some_iff.1 hi
    have := h1 i (by simpa using hlt)
    simpa using this⟩
  rw [Array.length_toList] at h2
  refine any_of_canon hk hc h2 _ _ _ _ ⟨by simp, fun i o hi hl => ?_, by rw [h0], by rw [h0], fun i o t hi hd hl => ?_, fun t _ => by rw [h0]⟩ ?_ hS
  · have : (Array.replicate ops.size false).getD i false = false := by
      rw [Array.getD_eq_getD_getElem?, Array.getElem?_replicate]; split <;> rfl
    rw [this] at hl; cases hl
  · have : (Array.replicate ops.size false).getD i false = false := by
      rw [Array.getD_eq_getD_getElem?, Array.getElem?_replicate]; split <;> rfl
    rw [this] at hl; cases hl
  · rw [Array.toList_replicate, falses_rep]; exact Nat.le_refl _
theorem seq_val {K : Act → Prop} {o : Oper} {r : List Oper} {a : Act} {v : Value} (hw : Region.wanted o (yielded ops a.tmps) = true) (hv : ∀ w, S w → (execOp a.eval o).run P w = .ok (.value v) w) (h : SeqS P ops S K r (a.put o.dst v)) : SeqS P ops S K (o :: r) a := ⟨v, .inl ⟨hw, .inl hv⟩, h⟩
theorem seq_skip {K : Act → Prop} {o : Oper} {r : List Oper} {a : Act} (hw : Region.wanted o (yielded ops a.tmps) = false) (h : SeqS P ops S K r (a.put o.dst undef)) : SeqS P ops S K (o :: r) a := ⟨undef, .inr ⟨hw, rfl⟩, h⟩
theorem seq_call {K : Act → Prop} {o : Oper} {r : List Oper} {a : Act} {v : Value} (f : FuncId) (args : Array Value) (hw : Region.wanted o (yielded ops a.tmps) = true) (hr : ∀ w, S w → (execOp a.eval o).run P w = .ok (.enter f args) w) (hc : ∀ w, S w → Calls P f args w fun e w' => e = .returned v ∧ S w') (h : SeqS P ops S K r (a.put o.dst v)) : SeqS P ops S K (o :: r) a := ⟨v, .inl ⟨hw, .inr ⟨f, args, hr, hc⟩⟩, h⟩
theorem wp_region_bel {id : Nat} {a : Act} {w : World} {Q : Exit → Act → World → Prop} (hm : P.follows .mixedOrders = true) (hk : ordOk .any ops = true)
    (h : SeqS P ops (Below w.heap.size w) (fun a' => ∀ W, Below w.heap.size w W → Q .normal a' W) ops.toList a) : (Code.region id ops true).wp P Q a w :=
  wp_region_one (Below w.heap.size w) hm hk (Below.drew (Below.refl _ _)) h
theorem seq_ret {w0 : World} {K : Act → Prop} {o : Oper} {r : List Oper} {a : Act} {v : Value} (f : FuncId) (args : Array Value) (hw : Region.wanted o (yielded ops a.tmps) = true) (hr : ∀ w, Below w0.heap.size w0 w → (execOp a.eval o).run P w = .ok (.enter f args) w)
    (hc : ∀ w, Below w0.heap.size w0 w → Calls P f args w fun e w' => e = .returned v ∧ Below w.heap.size w w') (h : SeqS P ops (Below w0.heap.size w0) K r (a.put o.dst v)) : SeqS P ops (Below w0.heap.size w0) K (o :: r) a :=
  seq_call f args hw hr (fun w hS => (hc w hS).mono fun _ _ hh => ⟨hh.1, hS.then hh.2⟩) h
theorem seq_nil {K : Act → Prop} {a : Act} (h : K a) : SeqS P ops S K [] a := h
end
end Go.Proofs.YtkcgejbnhpccdaaGreat
