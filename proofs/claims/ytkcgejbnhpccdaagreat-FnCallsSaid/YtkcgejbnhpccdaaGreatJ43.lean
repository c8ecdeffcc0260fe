/- Contracts of the laws' functions that mark and look again at a row of numbers. No conditions. Contract of the law's comparison of results. Condition: both can be read. Contracts of the law's marks on results, and of the look whether they hold. Condition: the row is the call's own. -/
import Derived.Test.YtkcgejbnhpccdaaGreatJ37
import Derived.Test.YtkcgejbnhpccdaaGreatJ23
import Derived.Test.YtkcgejbnhpccdaaGreatJ10
import Derived.Test.YtkcgejbnhpccdaaGreatJ13
import Derived.Test.YtkcgejbnhpccdaaGreatJ18
set_option linter.unusedSimpArgs false
set_option linter.unusedVariables false
namespace Go.Proofs.YtkcgejbnhpccdaaGreat
open Go.RowKit
/-! ### a row of numbers is marked -/
def marks (k : Int) (n : Nat) : List Value := (List.range n).map fun (i : Nat) => .int .i64 (k + (i : Int))
theorem marks_len (k : Int) (n : Nat) : (marks k n).length = n := by simp [marks]
theorem marks_snoc (k : Int) (n : Nat) : marks k (n + 1) = marks k n ++ [.int .i64 (k + n)] := by simp [marks, List.range_succ]
theorem setAll_snoc {G : Nat} (us : List Value) (u : Value) : ∀ (w : World) (o : Nat), setAll w G o (us ++ [u]) = (setAll w G o us).setCell ⟨G, o + us.length, none⟩ u := by
  induction us with
  | nil => intro w o; rfl
  | cons x r ih => intro w o; simp only [List.cons_append, setAll, ih, List.length_cons]; rw [show o + 1 + r.length = o + (r.length + 1) by omega]
/-- A row of numbers that may be written. -/
def Wr (w : World) (A : Option Addr) (n : Nat) : Prop := 0 < n → ∃ (b : Nat) (arr : Array Value) (e : TypeId), A = some ⟨b, 0, none⟩ ∧ w.heap[b]? = some (.cells arr e (0, 0)) ∧ ∀ i, i < n → ∃ a : Int, arr[i]? = some (.int .i64 a)
def gblk : Option Addr → Nat
  | some a => a.block
  | none => 0
theorem setAll_heap {G e : Nat} (us : List Value) : ∀ (w : World) (o : Nat) (arr : Array Value), w.heap[G]? = some (.cells arr e (0, 0)) → ∃ arr' : Array Value, (setAll w G o us).heap[G]? = some (.cells arr' e (0, 0)) ∧ ∀ i : Nat, arr'.toList[i]? = (setL arr.toList o us)[i]? := by
  induction us with
  | nil => intro w o arr h; exact ⟨arr, h, fun _ => rfl⟩
  | cons u r ih =>
    intro w o arr h
    obtain ⟨arr', h1, h2⟩ := ih (w.setCell ⟨G, o, none⟩ u) (o + 1) _ (heap_set h)
    exact ⟨arr', h1, fun i => by rw [h2]; simp [setL]⟩
theorem chg_setAll {lo hi G : Nat} (hG : lo ≤ G ∧ G < hi) (is : List Int) : ∀ (w : World) (o : Nat) (arr : Array Value) (e : TypeId), w.heap[G]? = some (.cells arr e (0, 0)) → (∀ i, i < is.length → ∃ a : Int, arr[o + i]? = some (.int .i64 a)) → Chg lo hi w (setAll w G o (is.map (Value.int .i64))) := by
  induction is with
  | nil => intro w o arr e _ _; exact Chg.refl _ _ _
  | cons u r ih =>
    intro w o arr e h ha
    obtain ⟨a, ha0⟩ := ha 0 (by simp)
    refine (Chg.setCell (i' := u) h hG ha0).trans (ih _ (o + 1) _ e (heap_set h) fun i hi => ?_)
    obtain ⟨a', ha'⟩ := ha (i + 1) (by simp; omega)
    exact ⟨a', by rw [Array.getElem?_setIfInBounds, if_neg (by omega), show o + 1 + i = o + (i + 1) by omega]; exact ha'⟩
set_option maxHeartbeats 1000000 in
theorem m_I (A : Option Addr) (n c : Nat) (k : Int) (w : World) (hl : n ≤ 1048576) (h : Wr w A n) (h0 : 0 ≤ k) (h1 : k ≤ 1099511627776) :
    Calls Tryz.prog 35 #[.slice A n c, .int .i64 k] w (fun e w' => e = .returned (.int .i64 (k + n)) ∧ w' = setAll w (gblk A) 0 (marks k n)) := by
  have h' := Hd.mk h
  clear h
  go_enter Tryz.func35, Tryz.ntmps35
  go_wp2
  go_loopw [1, 5] (fun s1 s3 wr => ∃ j : Nat, j ≤ n ∧ s3 = .int .i64 j ∧ s1 = .int .i64 (k + j) ∧ Hd (wr = setAll w (gblk A) 0 (marks k j))) (fun _ s3 _ => n - (intOf s3).toNat)
  case atStart => exact ⟨0, Nat.zero_le _, rfl, by simp, ⟨rfl⟩⟩
  case round =>
    obtain ⟨j, hj, rfl, rfl, hr⟩ := hrel
    by_cases hlt : j < n
    · obtain ⟨b, arr, e, rfl, hh, ha⟩ := h'.out (by omega)
      obtain ⟨arr', h2, h3⟩ := setAll_heap (marks k j) w 0 arr hh
      obtain ⟨a, ha0⟩ := ha j hlt
      have h4 := h3 j
      rw [setL_out _ _ _ _ (by rw [marks_len]; omega), Array.getElem?_toList, Array.getElem?_toList, ha0] at h4
      have hq := Hd.mk (setAll_snoc (G := b) (marks k j) (.int .i64 (k + j)) w 0)
      obtain ⟨he, hf⟩ := row_facts h2
      have hr1 : wr = setAll w b 0 (marks k j) := hr.out
      rw [← hr1] at he hf
      replace he := (he j).trans h4
      replace hf := hf j
      clear h2 h3 h4 hr1 ha ha0 hh
      have hw : IntKind.i64.wrap (k + j) = k + j := IntWalk.i64_in _ (by omega)
      go_wp2
      go_roundw
      case rel =>
        refine ⟨j + 1, by omega, by go_num, by go_num, ⟨?_⟩⟩
        have := hq.out
        rw [marks_snoc]
        show _ = setAll w b 0 _
        rw [this, marks_len, Nat.zero_add, hr.out]
        rfl
      case measure => simp [intOf]; omega
    · have e : j = n := by omega
      subst e
      go_wp2
      go_ret
      exact ⟨rfl, hr.out⟩
/-- What is marked: numbers for numbers. -/
def RetC (lo hi : Nat) (k : Int) (w : World) (e : Ending) (w' : World) : Prop := e = .returned (.int .i64 k) ∧ Chg lo hi w w'
theorem m_S (lo hi : Nat) (v : Value) (xs : List Int) (k : Int) (w : World) (h : SlI lo hi w v xs) (h0 : 0 ≤ k) (h1 : k ≤ 1099511627776) :
    Calls Tryz.prog 35 #[v, .int .i64 k] w (RetC lo hi (k + xs.length) w) := by
  obtain ⟨A, c, rfl, -, hl, hh⟩ := h.sh
  refine (m_I A xs.length c k w hl (fun h0 => ?_) h0 h1).mono ?_
  · obtain ⟨b, arr, e, cs, rfl, _, _, h2, _⟩ := hh.out.at_ 0 h0
    refine ⟨b, arr, e, rfl, h2, fun i hi => ?_⟩
    obtain ⟨b', arr', e', cs, hb, _, _, h2', ⟨a, rfl⟩, _, h3⟩ := hh.out.at_ i hi
    cases hb
    obtain ⟨rfl, rfl⟩ : arr' = arr ∧ e' = e := by rw [h2] at h2'; cases h2'; exact ⟨rfl, rfl⟩
    exact ⟨a, by simpa using h3 0 _ rfl⟩
  · rintro e w1 ⟨rfl, rfl⟩
    refine ⟨rfl, ?_⟩
    by_cases hz : xs.length = 0
    · rw [hz]; exact Chg.refl _ _ _
    · obtain ⟨b, arr, e, cs, rfl, hb1, hb2, h2, _⟩ := hh.out.at_ 0 (by omega)
      have := chg_setAll ⟨hb1, hb2⟩ ((List.range xs.length).map fun (i : Nat) => k + (i : Int)) w 0 arr e h2 (fun i hi => by
        have hi' : i < xs.length := by simpa using hi
        obtain ⟨b', arr', e', cs, hb, _, _, h2', ⟨a, rfl⟩, _, h3⟩ := hh.out.at_ i hi'
        cases hb
        obtain ⟨rfl, rfl⟩ : arr' = arr ∧ e' = e := by rw [h2] at h2'; cases h2'; exact ⟨rfl, rfl⟩
        exact ⟨a, by simpa using h3 0 _ rfl⟩)
      rw [List.map_map] at this
      exact this
/-- A row that holds the marks. -/
def Hld (w : World) (A : Option Addr) (n : Nat) (k : Int) : Prop := 0 < n → ∃ (b : Nat) (arr : Array Value) (e : TypeId), A = some ⟨b, 0, none⟩ ∧ w.heap[b]? = some (.cells arr e (0, 0)) ∧ ∀ i, i < n → arr[i]? = some (.int .i64 (k + i))
theorem Wr.held {w : World} {A : Option Addr} {n : Nat} (h : Wr w A n) (k : Int) : Hld (setAll w (gblk A) 0 (marks k n)) A n k := fun h0 => by
  obtain ⟨b, arr, e, rfl, h1, h2⟩ := h h0
  obtain ⟨arr', h3, h4⟩ := setAll_heap (marks k n) w 0 arr h1
  refine ⟨b, arr', e, rfl, h3, fun i hi => ?_⟩
  obtain ⟨a, ha⟩ := h2 (n - 1) (by omega)
  have hs := (Array.getElem?_eq_some_iff.1 ha).1
  have h5 := h4 i
  rw [← Nat.zero_add i, setL_in _ _ _ _ (by rw [marks_len]; exact hi) (by rw [marks_len]; simp; omega)] at h5
  rw [← Array.getElem?_toList, ← Nat.zero_add i, h5]
  simp [marks, hi]
theorem Hld.mv {w w' : World} {A : Option Addr} {n : Nat} {k : Int} (h : Hld w A n k) (hb : Below w.heap.size w w') : Hld w' A n k := fun h0 => by
  obtain ⟨b, arr, e, rfl, h1, h2⟩ := h h0
  exact ⟨b, arr, e, rfl, (hb.block b (Array.getElem?_eq_some_iff.1 h1).1).trans h1, h2⟩
set_option maxHeartbeats 1000000 in
theorem h_I (A : Option Addr) (n c : Nat) (k : Int) (w : World) (hl : n ≤ 1048576) (h : Hld w A n k) (h0 : 0 ≤ k) (h1 : k ≤ 1099511627776) :
    Calls Tryz.prog 67 #[.slice A n c, .int .i64 k] w (Ret (.int .i64 (k + n)) w) := by
  have h' := Hd.mk h
  clear h
  go_enter Tryz.func67, Tryz.ntmps67
  go_wp2
  go_loopw [1, 5] (fun s1 s3 wr => ∃ j : Nat, j ≤ n ∧ s3 = .int .i64 j ∧ s1 = .int .i64 (k + j) ∧ Hd (Below w.heap.size w wr)) (fun _ s3 _ => n - (intOf s3).toNat)
  case atStart => exact ⟨0, Nat.zero_le _, rfl, by simp, ⟨Below.refl _ _⟩⟩
  case round =>
    obtain ⟨j, hj, rfl, rfl, hr⟩ := hrel
    by_cases hlt : j < n
    · obtain ⟨b, arr, e, rfl, hh, ha⟩ := h'.out (by omega)
      obtain ⟨he, hf⟩ := row_facts ((hr.out.block b (Array.getElem?_eq_some_iff.1 hh).1).trans hh)
      replace he := (he j).trans (ha j hlt)
      clear ha hf hh
      have hw : IntKind.i64.wrap (k + j) = k + j := IntWalk.i64_in _ (by omega)
      have ht : ((k + (j : Int)) != (k + (j : Int))) = false := by simp
      go_wp2
      go_roundw
      case rel => exact ⟨j + 1, by omega, by go_num, by go_num, hr⟩
      case measure => simp [intOf]; omega
    · have e : j = n := by omega
      subst e
      go_wp2
      go_ret
      exact ⟨rfl, hr.out⟩
end Go.Proofs.YtkcgejbnhpccdaaGreat
set_option linter.unusedSimpArgs false
set_option linter.unusedVariables false
namespace Go.Proofs.YtkcgejbnhpccdaaGreat
open Go.RowKit
def KRes (w : World) (x : XRes) (cs : List Value) : Prop := ∃ v, cs = [.int .i64 x.code, .int .i64 x.value, v, .string x.mem, .int .i64 x.steps] ∧ RI lm w v x.out
deriving instance DecidableEq for XRes
theorem bytes_beq' (a b : ByteArray) : (a.toList == b.toList) = decide (a = b) := by
  rw [ByteArray.toList_eq, ByteArray.toList_eq]
  by_cases h : a = b
  · subst h; simp
  · have : ¬ a.data.toList = b.data.toList := fun e => h (ByteArray.ext (Array.toList_inj.1 e))
    rw [decide_eq_false h, beq_eq_false_iff_ne]; exact this
set_option maxHeartbeats 4000000 in
theorem e_Res (x y : XRes) (cs ds : List Value) (w : World) (hx : KRes w x cs) (hy : KRes w y ds) : Calls Tryz.prog 31 #[.agg cs.toArray, .agg ds.toArray] w (Ret (.bool (decide (x = y))) w) := by
  obtain ⟨v1, rfl, r1⟩ := hx
  obtain ⟨u1, rfl, s1⟩ := hy
  have hbl := fun o o' => ((Below.refl w.heap.size w).al (Nat.le_refl _) o).al (by simp) o'
  obtain ⟨xcode, xvalue, xout, xmem, xsteps⟩ := x
  obtain ⟨ycode, yvalue, yout, ymem, ysteps⟩ := y
  simp only at *
  have z1 := fun W hW => e_I v1 u1 xout yout W (r1.mv hW) (s1.mv hW)
  by_cases hcode : xcode = ycode
  rotate_left
  · rw [decide_eq_false (by intro e; injection e; contradiction)]
    have d := bneT hcode
    go_enter Tryz.func31, Tryz.ntmps31
    go_wp2
    go_ret
    exact ⟨rfl, hbl _ _⟩
  subst hcode
  by_cases hvalue : xvalue = yvalue
  rotate_left
  · rw [decide_eq_false (by intro e; injection e; contradiction)]
    have d := bneT hvalue
    go_enter Tryz.func31, Tryz.ntmps31
    go_wp2
    go_ret
    exact ⟨rfl, hbl _ _⟩
  subst hvalue
  by_cases hout : xout = yout
  rotate_left
  · rw [decide_eq_false (by intro e; injection e; contradiction)]
    simp only [decide_eq_false hout] at z1
    clear hout
    go_enter Tryz.func31, Tryz.ntmps31
    go_wp2_with fail
    refine (z1 _ (hbl _ _)).mono ?_; rintro e w1 ⟨rfl, hb1⟩
    have k0 := bat hb1 w.heap.size (by simp; omega)
    have k1 := bat hb1 (w.heap.size + 1) (by simp)
    have hz1 := hb1.size
    simp at k0 k1 hz1
    have hbw1 := Hd.mk ((hbl _ _).then hb1)
    go_wp2
    go_ret
    exact ⟨rfl, hbw1.out⟩
  simp only [decide_eq_true hout] at z1
  by_cases hmem : xmem = ymem
  rotate_left
  · rw [decide_eq_false (by intro e; injection e; contradiction)]
    have d : (xmem.toList == ymem.toList) = false := by rw [bytes_beq', decide_eq_false hmem]
    clear hout
    go_enter Tryz.func31, Tryz.ntmps31
    go_wp2_with fail
    refine (z1 _ (hbl _ _)).mono ?_; rintro e w1 ⟨rfl, hb1⟩
    have k0 := bat hb1 w.heap.size (by simp; omega)
    have k1 := bat hb1 (w.heap.size + 1) (by simp)
    have hz1 := hb1.size
    simp at k0 k1 hz1
    have hbw1 := Hd.mk ((hbl _ _).then hb1)
    go_wp2
    go_ret
    exact ⟨rfl, hbw1.out⟩
  subst hmem
  by_cases hsteps : xsteps = ysteps
  rotate_left
  · rw [decide_eq_false (by intro e; injection e; contradiction)]
    have d := bneT hsteps
    clear hout
    go_enter Tryz.func31, Tryz.ntmps31
    go_wp2_with fail
    refine (z1 _ (hbl _ _)).mono ?_; rintro e w1 ⟨rfl, hb1⟩
    have k0 := bat hb1 w.heap.size (by simp; omega)
    have k1 := bat hb1 (w.heap.size + 1) (by simp)
    have hz1 := hb1.size
    simp at k0 k1 hz1
    have hbw1 := Hd.mk ((hbl _ _).then hb1)
    go_wp2
    go_ret
    exact ⟨rfl, hbw1.out⟩
  subst hsteps
  rw [decide_eq_true (by rw [hout])]
  clear hout
  go_enter Tryz.func31, Tryz.ntmps31
  go_wp2_with fail
  refine (z1 _ (hbl _ _)).mono ?_; rintro e w1 ⟨rfl, hb1⟩
  have k0 := bat hb1 w.heap.size (by simp; omega)
  have k1 := bat hb1 (w.heap.size + 1) (by simp)
  have hz1 := hb1.size
  simp at k0 k1 hz1
  have hbw1 := Hd.mk ((hbl _ _).then hb1)
  go_wp2
  go_ret
  exact ⟨rfl, hbw1.out⟩
end Go.Proofs.YtkcgejbnhpccdaaGreat
set_option linter.unusedSimpArgs false
set_option linter.unusedVariables false
namespace Go.Proofs.YtkcgejbnhpccdaaGreat
open Go.RowKit
set_option maxHeartbeats 1000000 in
theorem m_Res (x : XRes) (A : Option Addr) (n c : Nat) (k : Int) (w : World) (hl : n ≤ 1048576) (h : ∀ W, Below w.heap.size w W → Wr W A n) (h0 : 0 ≤ k) (h1 : k ≤ 1099511627776) :
    Calls Tryz.prog 36 #[resV x (.slice A n c), .int .i64 k] w (fun e w' => e = .returned (.int .i64 (k + n)) ∧ ∃ W0, Below w.heap.size w W0 ∧ w' = setAll W0 (gblk A) 0 (marks k n)) := by
  have hbl := fun o => (Below.refl w.heap.size w).al (Nat.le_refl _) o
  have hm := fun W (hW : Below w.heap.size w W) => m_I A n c k W hl (h W hW) h0 h1
  clear h
  unfold resV
  go_enter Tryz.func36, Tryz.ntmps36
  go_wp2_with fail
  refine (hm _ (hbl _)).mono ?_; rintro e w1 ⟨rfl, hw1⟩
  go_wp2
  go_ret
  exact ⟨rfl, _, hbl (.cells #[.int .i64 x.code, .int .i64 x.value, .slice A n c, .string x.mem, .int .i64 x.steps] 40), rfl⟩
theorem h_Res (x : XRes) (A : Option Addr) (n c : Nat) (k : Int) (w : World) (hl : n ≤ 1048576) (h : Hld w A n k) (h0 : 0 ≤ k) (h1 : k ≤ 1099511627776) :
    Calls Tryz.prog 37 #[resV x (.slice A n c), .int .i64 k] w (Ret (.int .i64 (k + n)) w) := by
  have hbl := fun o => (Below.refl w.heap.size w).al (Nat.le_refl _) o
  have hm := fun W (hW : Below w.heap.size w W) => h_I A n c k W hl (h.mv hW) h0 h1
  clear h
  have d : (0 : Int) ≤ k + n := by omega
  unfold resV
  go_enter Tryz.func37, Tryz.ntmps37
  go_wp2_with fail
  refine (hm _ (hbl _)).mono ?_; rintro e w1 ⟨rfl, hb1⟩
  go_wp2
  go_ret
  exact ⟨rfl, (hbl _).then hb1⟩
end Go.Proofs.YtkcgejbnhpccdaaGreat
set_option linter.unusedSimpArgs false
set_option linter.unusedVariables false
namespace Go.Proofs.YtkcgejbnhpccdaaGreat
open Go.RowKit
set_option maxHeartbeats 1000000 in
theorem z_FuncS (v : Value) (xs : List XFunc) (left : Int) (w : World) (hv : Rd lw 3 (KFunc lw) w v xs) (h0 : 0 ≤ left) (h1 : left ≤ 1048576) : Calls Tryz.prog 63 #[v, .int .i64 left] w (Ret (.int .i64 (sub left (wL wFunc xs))) w) := by
  obtain ⟨A, c, rfl, -, hl, hv0⟩ := hv.sw
  clear hv
  have hsum := Hd.mk (show wL wFunc xs = xs.length + (xs.map wFunc).sum from rfl)
  generalize hR : sub left (wL wFunc xs) = R at *
  have hR' := Hd.mk hR
  clear hR
  by_cases hlen : left < xs.length
  · have e := hR'.out
    rw [sub_lt _ _ (by have := hsum.out; omega)] at e
    subst e
    go_enter Tryz.func63, Tryz.ntmps63
    go_wp2
    go_ret
    exact ⟨rfl, Below.refl _ _⟩
  go_enter Tryz.func63, Tryz.ntmps63
  go_wp2
  go_loopw [1, 5] (fun s1 s5 wr => ∃ k : Nat, k ≤ xs.length ∧ s5 = .int .i64 k ∧ s1 = .int .i64 (left - (xs.length + ((xs.take k).map wFunc).sum : Nat)) ∧ Hd (((xs.length + ((xs.take k).map wFunc).sum : Nat) : Int) ≤ left) ∧ Hd (Below w.heap.size w wr)) (fun _ s5 _ => xs.length - (intOf s5).toNat)
  case atStart => exact ⟨0, Nat.zero_le _, rfl, by simp, ⟨by simp; omega⟩, ⟨Below.refl _ _⟩⟩
  case round =>
    obtain ⟨k, hk, rfl, rfl, hle, hbr⟩ := hrel
    by_cases hlt : k < xs.length
    · obtain ⟨b, off, cs, hA, hbl, ⟨v1, v2, rfl, r1, r2⟩, hat⟩ := hv0.out.in0 hbr.out k hlt
      cases hA
      have g0 := hat 0 _ rfl
      have g1 := hat 1 _ rfl
      have g2 := hat 2 _ rfl
      simp at g0 g1 g2
      clear hat
      have hsn := Hd.mk (wL_snoc wFunc xs k hlt)
      have hpl := Hd.mk (wL_le wFunc xs (k + 1))
      have hle' := hle.out
      generalize ((xs.take k).map wFunc).sum = s at *
      have hz := z_Func xs[k] _ (left - (xs.length + s : Nat)) wr ⟨v1, v2, rfl, r1.mv hbr.out, r2.mv hbr.out⟩ (by omega) (by omega)
      generalize wFunc xs[k] = q at *
      generalize hp : xs.length + s = p at *
      have hp' := Hd.mk hp
      clear hp
      rw [sub_add left p q hle'] at hz
      rcases sub_cases left (p + q) h0 with ⟨e, h⟩ | ⟨e, h, h'⟩
      · rw [e] at hz
        have e2 := hR'.out
        rw [sub_lt _ _ (by have := hsum.out; have := hsn.out; have := hpl.out; have := hp'.out; omega)] at e2
        subst e2
        clear e
        go_wp2_with fail
        refine hz.mono ?_; rintro e w1 ⟨rfl, hb1⟩
        go_wp2
        go_ret
        exact ⟨rfl, hbr.out.then hb1⟩
      · rw [e] at hz
        clear e
        go_wp2_with fail
        refine hz.mono ?_; rintro e w1 ⟨rfl, hb1⟩
        have hbz := Hd.mk (hbr.out.then hb1)
        clear hb1 hz
        go_wp2
        go_roundw
        case rel => exact ⟨k + 1, by omega, by go_num, by rw [hsn.out, ← Nat.add_assoc, hp'.out]; simp, ⟨by rw [hsn.out, ← Nat.add_assoc, hp'.out]; omega⟩, hbz⟩
        case measure => simp [intOf]; omega
    · have e : k = xs.length := by omega
      subst e
      rw [List.take_length] at hle
      have e2 := hR'.out
      rcases sub_cases left (wL wFunc xs) h0 with ⟨e, h⟩ | ⟨e, h, h'⟩
      · exfalso
        have := hsum.out
        have := hle.out
        omega
      · rw [e, hsum.out] at e2
        go_wp2
        go_ret
        exact ⟨by rw [List.take_length]; exact congrArg (fun z => Ending.returned (.int .i64 z)) e2, hbr.out⟩

def wMod (m : XMod) : Nat := wL wFunc m.funcs
set_option maxHeartbeats 1000000 in
theorem z_Mod (x : XMod) (cs : List Value) (left : Int) (w : World) (hk : KMod lw w x cs) (h0 : 0 ≤ left) (h1 : left ≤ 1048576) : Calls Tryz.prog 28 #[.agg cs.toArray, .int .i64 left] w (Ret (.int .i64 (sub left (wMod x))) w) := by
  obtain ⟨v1, rfl, r1⟩ := hk
  have hbl := fun o => (Below.refl w.heap.size w).al (Nat.le_refl _) o
  have z1 := fun W hW => z_FuncS v1 x.funcs left W (r1.mv hW) h0 h1
  unfold wMod
  generalize wL wFunc x.funcs = n1 at *
  rcases sub_cases left n1 h0 with ⟨e1, q1⟩ | ⟨e1, q1, q1'⟩
  all_goals
    rw [e1] at z1 ⊢
    clear e1
    go_enter Tryz.func28, Tryz.ntmps28
    go_wp2_with fail
    refine (z1 _ (hbl _)).mono ?_; rintro e w1 ⟨rfl, hb1⟩
    go_wp2
    go_ret
    exact ⟨rfl, (hbl _).then hb1⟩
end Go.Proofs.YtkcgejbnhpccdaaGreat
