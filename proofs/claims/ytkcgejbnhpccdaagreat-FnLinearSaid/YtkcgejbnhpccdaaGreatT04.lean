import Derived.Test.YtkcgejbnhpccdaaGreatT03
import Derived.Deep.RegionWith
import Derived.StillTailTactics
import Derived.Deep.QuietTactic
import Derived.BigQuiet
import Derived.Test.YtkcgejbnhpccdaaGreatT01
set_option linter.unusedSimpArgs false
set_option linter.unusedVariables false
namespace Go.Proofs.YtkcgejbnhpccdaaGreat
open Go.RowKit
def RdS (lo : Nat) (w : World) (g : Nat) : Prop := lo ≤ g ∧ ∃ (A : Option Addr) (n c p : Nat), w.heap[g]? = some (.cells #[.slice A n c, .int .i64 p] 112 (0, 0)) ∧ p ≤ n ∧ n ≤ 1048576 ∧
  ∀ i, i < n → ∃ b off q, A = some ⟨b, off, none⟩ ∧ b < lo ∧ 0 ≤ q ∧ q < 256 ∧ w.cell? ⟨b, off + i, none⟩ = some (.int .u8 q)
def RetRd (lo g : Nat) (φ : Value → Prop) (w : World) (e : Ending) (w' : World) : Prop := ∃ v, e = .returned v ∧ φ v ∧ RdS lo w' g ∧ w.grownBy w' (some g)
theorem gb_below {lo g : Nat} {w w' : World} (h : w.grownBy w' (some g)) (hg : lo ≤ g) (hw : lo ≤ w.heap.size) : Below lo w w' := (Below.refl lo w).grown h hw fun k hk => by cases hk; exact hg
theorem RdS.mv {lo g : Nat} {w w' : World} {row : Option Nat} (h : RdS lo w g) (hg : w.grownBy w' row) (hne : row ≠ some g) (hr : ∀ k, row = some k → lo ≤ k) : RdS lo w' g := by
  obtain ⟨hlo, A, n, c, p, h1, h2, h3, h4⟩ := h
  have hgl := (Array.getElem?_eq_some_iff.1 h1).1
  have hb : Below lo w w' := (Below.refl lo w).grown hg (by omega) hr
  refine ⟨hlo, A, n, c, p, (hg.block g hgl (fun e => hne (by first | exact e | exact e.symm))).trans h1, h2, h3, fun i hi => ?_⟩
  obtain ⟨b, off, q, h5, h6, h7, h8, h9⟩ := h4 i hi
  exact ⟨b, off, q, h5, h6, h7, h8, (bat hb b h6 _).trans h9⟩
theorem gb_drewN {w W : World} {r : Option Nat} (h : w.grownBy W r) (n : Nat) : w.grownBy (W.drewN n) r := ⟨h.os, h.tape, h.output, h.size, h.block⟩
set_option maxHeartbeats 1000000 in
theorem s_next (lo g : Nat) (w : World) (h : RdS lo w g) : Calls Tryz.prog 80 #[.pointer (some ⟨g, 0, none⟩)] w (RetRd lo g (fun v => ∃ q : Int, v = .int .i64 q ∧ 0 ≤ q ∧ q < 256) w) := by
  have h0 := Hd.mk h
  obtain ⟨hlo, A, n, c, p, h1, h2, h3, h4⟩ := h
  obtain ⟨c0, -⟩ := row_facts h1
  have f0 := fun o => (row_facts h1).2 o
  have k0 := c0 0
  have k1 := c0 1
  simp at k0 k1
  have hgl := (Array.getElem?_eq_some_iff.1 h1).1
  by_cases hlt : p < n
  · obtain ⟨b, off, q, rfl, h6, h7, h8, h9⟩ := h4 p hlt
    clear h4 c0
    go_enter Tryz.func80, Tryz.ntmps80
    go_wp2
    go_quiet (fail)
    go_wp2
    have hbg : b ≠ g := by omega
    have hnn : (p : Int) + 1 - 1 = p := by omega
    obtain ⟨W1, hW1⟩ : ∃ W1 : World, W1 = (w.drewN nq).setCell ⟨g, 1, none⟩ (.int .i64 ((p : Int) + 1)) := ⟨_, rfl⟩
    rw [← hW1]
    have hh : W1.heap[g]? = some (.cells #[.slice (some ⟨b, off, none⟩) n c, .int .i64 ((p : Int) + 1)] 112 (0, 0)) := by
      rw [hW1]
      exact heap_set (w := w.drewN nq) (j := 1) (u := .int .i64 ((p : Int) + 1)) h1
    obtain ⟨c1, -⟩ := row_facts hh
    have k0' := c1 0
    have k1' := c1 1
    simp at k0' k1'
    have hbl : Below g w W1 := by rw [hW1]; exact (below_drewN (Below.refl g w) _).setCell (p := ⟨g, 1, none⟩) (Nat.le_refl _) _
    have h9' := (bat hbl b (by omega) (off + p)).trans h9
    clear c1
    have hgb : w.grownBy W1 (some g) := by
      rw [hW1]
      exact ⟨rfl, rfl, rfl, by simp [World.setCell, World.drewN], fun i hi hne => Below.heap_setCell _ _ _ _ (fun e => hne (by rw [e]))⟩
    have hh' := Hd.mk hh
    have hgb' := Hd.mk hgb
    clear hW1 k0 k1 h9 f0 hbl hh hgb
    go_quiet (fail)
    go_wp2
    go_ret
    refine ⟨_, rfl, ⟨q, rfl, h7, h8⟩, ?_, gb_drewN hgb'.out _⟩
    have h1' := h0.out
    obtain ⟨-, A0, n0, c0, p0, j1, j2, j3, j4⟩ := h1'
    rw [h1] at j1
    cases j1
    refine ⟨hlo, _, n, c, p + 1, hh'.out, by omega, h3, fun i hi => ?_⟩
    obtain ⟨b', off', q', e', h6', h7', h8', h9''⟩ := j4 i hi
    refine ⟨b', off', q', e', h6', h7', h8', ?_⟩
    exact (bat (gb_below hgb'.out hlo (by omega)) b' h6' _).trans h9''
  · have e : p = n := by omega
    subst e
    clear h4 c0
    go_enter Tryz.func80, Tryz.ntmps80
    go_wp2
    go_quiet (fail)
    go_wp2
    go_ret
    exact ⟨_, rfl, ⟨_, rfl, by omega, by omega⟩, h0.out.mv (row := none) ⟨rfl, rfl, rfl, Nat.le_refl _, fun _ _ _ => rfl⟩ (by simp) (fun k hk => by cases hk), ⟨rfl, rfl, rfl, Nat.le_refl _, fun _ _ _ => rfl⟩⟩
set_option maxHeartbeats 1000000 in
theorem s_below (lo g : Nat) (n : Int) (w : World) (h : RdS lo w g) (hn : 1 ≤ n ∧ n ≤ 256) : Calls Tryz.prog 52 #[.pointer (some ⟨g, 0, none⟩), .int .i64 n] w (RetRd lo g (fun v => ∃ q : Int, v = .int .i64 q ∧ 0 ≤ q ∧ q < n) w) := by
  obtain ⟨n1, n2⟩ := hn
  have hx := s_next lo g w h
  have h' := Hd.mk h
  clear h
  by_cases h1 : n = 1
  · subst h1
    clear hx
    go_enter Tryz.func52, Tryz.ntmps52
    go_wp2
    go_ret
    exact ⟨_, rfl, ⟨0, rfl, by omega, by omega⟩, h'.out, World.grownBy.refl _ _⟩
  · have hd : ¬ n ≤ 1 := by omega
    have hm : ∀ q : Int, 0 ≤ q → 0 ≤ q % n ∧ q % n < n := fun q hq => ⟨Int.emod_nonneg _ (by omega), Int.emod_lt_of_pos _ (by omega)⟩
    go_enter Tryz.func52, Tryz.ntmps52
    go_wp2_with fail
    refine hx.mono ?_; rintro e w1 ⟨v, rfl, ⟨q, rfl, q1, q2⟩, hr, hg⟩
    have hr' := Hd.mk hr
    have hg' := Hd.mk hg
    have hm' := Hd.mk (hm q q1)
    clear hm hr hg
    go_wp2
    go_ret
    exact ⟨_, rfl, ⟨_, rfl, hm'.out.1, hm'.out.2⟩, hr'.out, hg'.out⟩
theorem s_once (lo g : Nat) (n : Int) (w : World) (h : RdS lo w g) (hn : 1 ≤ n ∧ n ≤ 256) : Calls Tryz.prog 55 #[.pointer (some ⟨g, 0, none⟩), .int .i64 n] w (RetRd lo g (fun v => ∃ b : Bool, v = .bool b) w) := by
  have hx := s_below lo g n w h hn
  obtain ⟨n1, n2⟩ := hn
  clear h
  go_enter Tryz.func55, Tryz.ntmps55
  go_wp2_with fail
  refine hx.mono ?_; rintro e w1 ⟨v, rfl, ⟨q, rfl, q1, q2⟩, hr, hg⟩
  have hr' := Hd.mk hr
  have hg' := Hd.mk hg
  clear hr hg
  go_wp2
  go_ret
  exact ⟨_, rfl, ⟨_, rfl⟩, hr'.out, hg'.out⟩
theorem own_neT {w : World} {base e e' sz n b : Nat} {v : Value} {cs : List Value} {arr : Array Value} {fz : Nat × Nat} (h : w.ownsRow base e sz v n cs) (hb : w.heap[b]? = some (.cells arr e' fz)) (hne : e ≠ e') : v.ownBlock ≠ some b := by
  intro hv
  rcases h.2 with ⟨rfl, _⟩ | ⟨g, cap, cur, rfl, h1, h2, _⟩
  · simp [Value.ownBlock] at hv
  · simp only [Value.ownBlock, Option.some.injEq] at hv
    subst hv
    rw [hb] at h2
    cases h2
    exact hne rfl
theorem gb_trans {a b c : World} {r : Option Nat} (h : a.grownBy b r) (k : b.grownBy c r) : a.grownBy c r :=
  ⟨k.os.trans h.os, k.tape.trans h.tape, k.output.trans h.output, Nat.le_trans h.size k.size, fun i hi hne => (k.block i (Nat.lt_of_lt_of_le hi h.size) hne).trans (h.block i hi hne)⟩
theorem gb_al {w W : World} {r : Option Nat} (h : w.grownBy W r) (o : Obj) : w.grownBy (W.alloc o) r :=
  ⟨h.os, h.tape, h.output, by have := h.size; simp; omega, fun i hi hne => by
    rw [← h.block i hi hne]
    exact ((Below.refl W.heap.size W).al (Nat.le_refl _) o).block i (Nat.lt_of_lt_of_le hi h.size)⟩
theorem RdS.lt {lo g : Nat} {w : World} (h : RdS lo w g) : g < w.heap.size := by
  obtain ⟨-, A, n, c, p, h1, -⟩ := h
  exact (Array.getElem?_eq_some_iff.1 h1).1
theorem RdS.al {lo g : Nat} {w : World} (h : RdS lo w g) (o : Obj) : RdS lo (w.alloc o) g :=
  h.mv (row := none) ⟨rfl, rfl, rfl, by simp, fun i hi _ => ((Below.refl w.heap.size w).al (Nat.le_refl _) o).block i hi⟩ (by simp) (fun k hk => by cases hk)
set_option maxHeartbeats 1000000 in
theorem s_word (lo g : Nat) (w : World) (h : RdS lo w g) : Calls Tryz.prog 118 #[.pointer (some ⟨g, 0, none⟩)] w (RetRd lo g (fun v => ∃ q : Int, v = .int .u64 q) w) := by
  have h' := Hd.mk h
  clear h
  go_enter Tryz.func118, Tryz.ntmps118
  go_wp2
  go_loopw [3, 4] (fun s3 s4 wr => ∃ (k : Nat) (x : Int), k ≤ 8 ∧ s4 = .int .i64 k ∧ s3 = .int .u64 x ∧ Hd (RdS lo wr g) ∧ Hd (w.grownBy wr (some g))) (fun _ s4 _ => 8 - (intOf s4).toNat)
  case atStart => exact ⟨0, 0, by omega, rfl, rfl, h', ⟨World.grownBy.refl _ _⟩⟩
  case round =>
    clear h'
    obtain ⟨k, x, hk, rfl, rfl, hr, hg⟩ := hrel
    by_cases hlt : k < 8
    · have hx := s_next lo g wr hr.out
      go_wp2_with fail
      refine hx.mono ?_; rintro e w1 ⟨v, rfl, ⟨q, rfl, q1, q2⟩, hr1, hg1⟩
      have hr' := Hd.mk hr1
      have hg' := Hd.mk (gb_trans hg.out hg1)
      clear hr1 hg1 hg hr
      go_wp2
      go_roundw
      case rel => exact ⟨k + 1, _, by omega, by go_num, rfl, hr', hg'⟩
      case measure => simp [intOf]; omega
    · have e : k = 8 := by omega
      subst e
      go_wp2
      go_ret
      exact ⟨_, rfl, ⟨_, rfl⟩, hr.out, hg.out⟩
theorem own_gb {W W' : World} {base e sz n : Nat} {v : Value} {cs : List Value} {r : Option Nat} (h : W.ownsRow base e sz v n cs) (hg : W.grownBy W' r) (hne : v.ownBlock = none ∨ r ≠ v.ownBlock) : W'.ownsRow base e sz v n cs := by
  refine ⟨h.1, ?_⟩
  rcases h.2 with h' | ⟨g, cap, cur, hv, h1, h2, h3⟩
  · exact .inl h'
  · refine .inr ⟨g, cap, cur, hv, h1, (hg.block g (Array.getElem?_eq_some_iff.1 h2).1 (fun e => ?_)).trans h2, h3⟩
    rcases hne with hn | hn
    · rw [hv] at hn; simp [Value.ownBlock] at hn
    · apply hn; rw [hv]; simp only [Value.ownBlock]; first | exact e | exact e.symm
theorem RdS.ne {lo g : Nat} {W : World} {base n : Nat} {v : Value} {cs : List Value} (h : RdS lo W g) (ho : W.ownsRow base 2 1 v n cs) : some g ≠ v.ownBlock := by
  obtain ⟨-, A, n', c, p, h1, -⟩ := h
  exact fun e => own_neT ho h1 (by decide) e.symm
theorem gb_own {w W W' : World} {r row : Option Nat} (h : w.grownBy W r) (hg : W.grownBy W' row) (hr : ∀ k, row = some k → w.heap.size ≤ k) : w.grownBy W' r :=
  ⟨hg.os.trans h.os, hg.tape.trans h.tape, hg.output.trans h.output, Nat.le_trans h.size hg.size, fun i hi hne => (hg.block i (Nat.lt_of_lt_of_le hi h.size) (fun e => by
    have := hr i (by first | exact e | exact e.symm)
    omega)).trans (h.block i hi hne)⟩
def AnyI (v : Value) : Prop := ∃ q : Int, v = .int .i64 q
def isW (q : Int) : Prop := q = 1 ∨ q = 8 ∨ q = 16 ∨ q = 32
def IsW (v : Value) : Prop := ∃ q : Int, v = .int .i64 q ∧ isW q
set_option maxHeartbeats 1000000 in
theorem s_width (lo g : Nat) (w : World) (h : RdS lo w g) : Calls Tryz.prog 112 #[.pointer (some ⟨g, 0, none⟩)] w (RetRd lo g IsW w) := by
  have h' := Hd.mk h
  have hgl : g < w.heap.size := h.lt
  clear h
  go_enter Tryz.func112, Tryz.ntmps112
  go_wp2_with fail
  refine (s_below lo g 4 _ (h'.out.al _) (by omega)).mono ?_; rintro e w2 ⟨v, rfl, ⟨q, rfl, q1, q2⟩, hr2, hg2⟩
  have hbk := hg2.block w.heap.size (by simp) (fun e => by cases e; omega)
  have hh : w2.heap[w.heap.size]? = some (.cells #[.int .i64 32, .int .i64 8, .int .i64 1, .int .i64 16] 2 (0, 0)) := by
    rw [hbk]; exact heap_new _ _ _ _ rfl
  obtain ⟨c1, -⟩ := row_facts hh
  have k0 := c1 0
  have k1 := c1 1
  have k2 := c1 2
  have k3 := c1 3
  simp at k0 k1 k2 k3
  have hr2' := Hd.mk hr2
  have hg2' := Hd.mk (gb_trans (gb_al (World.grownBy.refl w (some g)) _) hg2)
  clear hr2 hg2 hbk hh c1 h'
  have h4 : q = 0 ∨ q = 1 ∨ q = 2 ∨ q = 3 := by omega
  rcases h4 with rfl | rfl | rfl | rfl
  all_goals
    go_wp2
    go_ret
    exact ⟨_, rfl, ⟨_, rfl, by simp [isW]⟩, hr2'.out, hg2'.out⟩
set_option maxHeartbeats 4000000 in
theorem s_value (lo g : Nat) (wd : Int) (w : World) (h : RdS lo w g) (hw : isW wd) : Calls Tryz.prog 81 #[.pointer (some ⟨g, 0, none⟩), .int .i64 wd] w (RetRd lo g AnyI w) := by
  have hx := s_below lo g 7 w h (by omega)
  have hwd := fun W hW => s_word lo g W hW
  clear h
  rcases hw with rfl | rfl | rfl | rfl
  all_goals
    go_enter Tryz.func81, Tryz.ntmps81
    go_wp2_with fail
    refine hx.mono ?_; rintro e w1 ⟨v, rfl, ⟨q, rfl, q1, q2⟩, hr, hg⟩
    have hw1 := hwd w1 hr
    have hr' := Hd.mk hr
    have hg' := Hd.mk hg
    clear hr hg
    by_cases h0 : q = 0
    · subst h0
      go_wp2
      go_ret
      exact ⟨_, rfl, ⟨_, rfl⟩, hr'.out, hg'.out⟩
    have t0 := beqF h0
    by_cases h1 : q = 1
    · subst h1
      go_wp2
      go_ret
      exact ⟨_, rfl, ⟨_, rfl⟩, hr'.out, hg'.out⟩
    have t1 := beqF h1
    by_cases h2 : q = 2
    · subst h2
      go_wp2
      go_ret
      exact ⟨_, rfl, ⟨_, rfl⟩, hr'.out, hg'.out⟩
    have t2 := beqF h2
    by_cases h3 : q = 3
    · subst h3
      go_wp2
      go_ret
      exact ⟨_, rfl, ⟨_, rfl⟩, hr'.out, hg'.out⟩
    have t3 := beqF h3
    go_wp2_with fail
    refine hw1.mono ?_; rintro e w2 ⟨v, rfl, ⟨x, rfl⟩, hr2, hg2⟩
    have hr2' := Hd.mk hr2
    have hg2' := Hd.mk (gb_trans hg'.out hg2)
    clear hr2 hg2 hr' hg'
    go_wp2
    go_ret
    exact ⟨_, rfl, ⟨_, rfl⟩, hr2'.out, hg2'.out⟩
def placeIn : List XBlock → Int → Int → Int → Int × Int
  | [], _, _, _ => (-2, 0)
  | x :: r, b, n, id => if id < n + sizeB x then (b, id - n) else placeIn r (b + 1) (n + sizeB x) id
def placeOf (f : XFunc) (id : Int) : Int × Int :=
  if isIdB (countOf f) id then (if id < f.params.length then (-1, id) else placeIn f.blocks 0 f.params.length id) else (-2, 0)
theorem placeOf_eq (f : XFunc) (id : Int) : placeOf f id = if isIdB (countOf f) id then (if id < f.params.length then (-1, id) else placeIn f.blocks 0 f.params.length id) else (-2, 0) := rfl
theorem placeIn_drop (l : List XBlock) (k : Nat) (h : k < l.length) (n id : Int) : placeIn (l.drop k) k n id = if id < n + sizeB l[k] then ((k : Int), id - n) else placeIn (l.drop (k + 1)) ((k + 1 : Nat) : Int) (n + sizeB l[k]) id := by
  rw [List.drop_eq_getElem_cons h]; simp [placeIn]
theorem placeIn_spec (l : List XBlock) : ∀ (b0 n id : Int), 0 ≤ b0 → n ≤ id → (placeIn l b0 n id = (-2, 0) ∧ countIn n l ≤ id) ∨
    ∃ k, ∃ h : k < l.length, placeIn l b0 n id = (b0 + k, id - countIn n (l.take k)) ∧ countIn n (l.take k) ≤ id ∧ id < countIn n (l.take k) + sizeB l[k] := by
  induction l with
  | nil => intro b0 n id _ h; left; exact ⟨rfl, by simpa [countIn] using h⟩
  | cons x r ih =>
    intro b0 n id hb hn
    unfold placeIn
    by_cases h : id < n + sizeB x
    · right; refine ⟨0, by simp, ?_, ?_, ?_⟩
      · rw [if_pos h]; simp [countIn]
      · simpa [countIn] using hn
      · simpa [countIn] using h
    · rw [if_neg h]
      rcases ih (b0 + 1) (n + sizeB x) id (by omega) (by omega) with ⟨h1, h2⟩ | ⟨k, hk, h1, h2, h3⟩
      · left; exact ⟨h1, by simpa [countIn, Int.add_assoc] using h2⟩
      · right
        refine ⟨k + 1, by simpa using hk, ?_, ?_, ?_⟩
        · rw [h1]; simp [countIn]; omega
        · simpa [countIn, Int.add_assoc] using h2
        · simpa [countIn, Int.add_assoc] using h3
theorem placeOf_cases (f : XFunc) (id : Int) : (placeOf f id = (-2, 0) ∧ isIdB (countOf f) id = false) ∨ (placeOf f id = (-1, id) ∧ 0 ≤ id ∧ id < f.params.length) ∨
    ∃ k, ∃ h : k < f.blocks.length, placeOf f id = ((k : Int), id - countIn f.params.length (f.blocks.take k)) ∧ countIn f.params.length (f.blocks.take k) ≤ id ∧ id < countIn f.params.length (f.blocks.take k) + sizeB f.blocks[k] := by
  unfold placeOf
  cases h : isIdB (countOf f) id with
  | false => left; simp
  | true =>
    right
    have h' : 0 ≤ id ∧ id ≤ countOf f - 1 := by simpa [isIdB, inR] using h
    by_cases h2 : id < f.params.length
    · left; simp [h2]; omega
    · right
      rcases placeIn_spec f.blocks 0 f.params.length id (by omega) (by omega) with ⟨h1, h3⟩ | ⟨k, hk, h1, h3, h4⟩
      · unfold countOf at h'; omega
      · exact ⟨k, hk, by simp [h2, h1], h3, h4⟩
def inst0 : XInst := ⟨0, 0, 0, 0, 0, 0, []⟩
def block0 : XBlock := ⟨[], [], ⟨0, 0, 0, 0⟩⟩
def instAt (f : XFunc) (id : Int) : XInst × Bool :=
  if (placeOf f id).1 < 0 then (inst0, false)
  else if (placeOf f id).2 < ((f.blocks.getD (placeOf f id).1.toNat block0).phis.length : Int) then (inst0, false)
  else ((f.blocks.getD (placeOf f id).1.toNat block0).insts.getD ((placeOf f id).2 - (f.blocks.getD (placeOf f id).1.toNat block0).phis.length).toNat inst0, true)
def upTo (n : Nat) : List Int := (List.range n).map fun (i : Nat) => (i : Int)
theorem upTo_succ (n : Nat) : upTo (n + 1) = upTo n ++ [(n : Int)] := by simp [upTo, List.range_succ]
end Go.Proofs.YtkcgejbnhpccdaaGreat
