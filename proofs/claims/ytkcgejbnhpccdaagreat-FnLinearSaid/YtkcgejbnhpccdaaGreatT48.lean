import Derived.Test.YtkcgejbnhpccdaaGreatT46
import Derived.Test.YtkcgejbnhpccdaaGreatT18
import Derived.Test.YtkcgejbnhpccdaaGreatT09
import Derived.Test.YtkcgejbnhpccdaaGreatT15
set_option linter.unusedSimpArgs false
set_option linter.unusedVariables false
namespace Go.Proofs.YtkcgejbnhpccdaaGreat
open Go.RowKit
set_option maxRecDepth 20000 in
set_option maxHeartbeats 8000000 in
theorem c_Invoked (m : XMod) (cs : List Value) (k : Int) (va : Value) (args : List Int) (mem : ByteArray) (fuel : Int) (w : World) (hm : KMod lm w m cs) (ha : RI lm w va args) (hms : mem.size ≤ 1048576) :
    Calls Tryz.prog 14 #[.agg cs.toArray, .int .i64 k, va, .string mem, .int .i64 fuel] w (RetRes (resR m k args mem fuel) w) := by
  have hm' := Hd.mk hm
  have ha' := Hd.mk ha
  obtain ⟨vm, rfl, hrm⟩ := hm
  obtain ⟨Am, cm, rfl, -, -, -⟩ := hrm.sm
  have hck := fun W (hW : Below w.heap.size w W) => c_isOk m _ W (KM.mv hm'.out hW)
  have hin := fun h W (hW : Below w.heap.size w W) => c_invoked m _ k va args mem fuel W (KM.mv hm'.out hW) h (ha'.out.mv hW) hms
  clear hrm ha
  have hbl := fun o => (Below.refl w.heap.size w).al (Nat.le_refl _) o
  obtain ⟨W0, hW0⟩ : ∃ W0 : World, W0 = (w.alloc (.cells #[.slice Am m.funcs.length cm] 38)).alloc (.cells #[.int .i64 0, .int .i64 0, .slice none 0 0, .string ⟨#[]⟩, .int .i64 0] 40) := ⟨_, rfl⟩
  have hz0 : W0.heap.size = w.heap.size + 2 := by rw [hW0]; simp
  have hb0 : Below w.heap.size w W0 := by rw [hW0]; exact (hbl _).al (by first | (simp; done) | (simp; omega)) _
  have hmb : Hd (W0.cell? ⟨w.heap.size, 0, none⟩ = some (.slice Am m.funcs.length cm)) := ⟨by rw [hW0]; simp⟩
  have hrb : Hd (W0.heap[w.heap.size + 1]? = some (.cells #[.int .i64 0, .int .i64 0, .slice none 0 0, .string ⟨#[]⟩, .int .i64 0] 40 (0, 0))) := ⟨by rw [hW0]; exact heap_new _ _ _ _ (by simp)⟩
  have hb0' := Hd.mk hb0
  have hW0' := Hd.mk hW0
  have hz0' := Hd.mk hz0
  have hzw : w.heap.size + 1 < W0.heap.size := by omega
  clear hb0 hW0 hbl hz0
  generalize hR : resR m k args mem fuel = R
  have hR' := Hd.mk hR
  clear hR
  unfold resR at hR'
  go_enter Tryz.func14, Tryz.ntmps14
  go_wp2_with fail
  rw [← hW0'.out]
  have x0 := hmb.out
  go_wp2_with fail
  refine (hck _ hb0'.out).mono ?_; rintro e w1 ⟨rfl, hb1⟩
  have hB1 := Hd.mk (hb0'.out.then hb1)
  have hb1' := Hd.mk hb1
  have hz1 := hb1.size
  obtain ⟨cr, fr⟩ := row_facts ((hb1.block _ hzw).trans hrb.out)
  have q0 := cr 0
  have q1 := cr 1
  have q2 := cr 2
  have q3 := cr 3
  have q4 := cr 4
  simp at q0 q1 q2 q3 q4
  replace x0 := (bat hb1 w.heap.size (by omega) 0).trans x0
  clear cr hb1 hck
  cases hq : modOk m with
  | false =>
    rw [hq] at hR'
    have hv : Hd (res6 = R) := ⟨hR'.out⟩
    clear hq
    go_wp2
    refine bodyPost_ret (v := resV res6 (.slice none 0 0)) (by simp [results, Tryz.results14, go_sem, resV, res6, q0, q1, q2, q3, q4]) rfl ⟨_, by rw [← hv.out], by rw [← hv.out]; exact ownI_nil _ _, ?_⟩
    repeat (refine Below.setCell ?_ (by first | (simp; done) | (simp; omega)) _)
    exact hB1.out
  | true =>
    rw [hq, if_pos rfl] at hR'
    have hiv := hin hq
    clear hq hin q0 q1 q2 q3 q4 fr
    rw [hR'.out] at hiv
    go_wp2_with fail
    refine (hiv _ hB1.out).mono ?_; rintro e w2 ⟨v2, rfl, hown, hb2⟩
    have hB2 := Hd.mk (hB1.out.then hb2)
    obtain ⟨cr, fr⟩ := row_facts ((hb2.block _ (by omega)).trans ((hb1'.out.block _ hzw).trans hrb.out))
    have q0 := cr 0
    have q1 := cr 1
    have q2 := cr 2
    have q3 := cr 3
    have q4 := cr 4
    simp at q0 q1 q2 q3 q4
    have hz2 := hb2.size
    have hown' := Hd.mk (And.intro hown (show w.heap.size + 1 < w1.heap.size by omega))
    obtain ⟨A2, c2, rfl, -, -⟩ := own_shape hown
    clear cr hb2 hown hiv x0
    unfold resV
    go_wp2
    refine bodyPost_ret (v := resV R (.slice A2 R.out.length c2)) (by simp [results, Tryz.results14, go_sem, resV, q0, q1, q2, q3, q4]) rfl ⟨_, rfl, ?_, ?_⟩
    · refine own_lower (base := w1.heap.size) ?_ (by have := hown'.out.2; omega)
      repeat (refine own_far ?_ (by have := hown'.out.2; omega))
      exact hown'.out.1
    · repeat (refine Below.setCell ?_ (by first | (simp; done) | (simp; omega)) _)
      exact hB2.out
def Hld (w : World) (A : Option Addr) (n : Nat) (k : Int) : Prop := 0 < n → ∃ (b : Nat) (arr : Array Value) (e : TypeId), A = some ⟨b, 0, none⟩ ∧ w.heap[b]? = some (.cells arr e (0, 0)) ∧ ∀ i, i < n → arr[i]? = some (.int .i64 (k + i))
theorem Hld.mv {w w' : World} {A : Option Addr} {n : Nat} {k : Int} (h : Hld w A n k) (hb : Below w.heap.size w w') : Hld w' A n k := fun h0 => by
  obtain ⟨b, arr, e, rfl, h1, h2⟩ := h h0
  exact ⟨b, arr, e, rfl, (hb.block b (Array.getElem?_eq_some_iff.1 h1).1).trans h1, h2⟩
theorem Chg.set {lo hi : Nat} {w W : World} {b o : Nat} {e : TypeId} {arr : Array Value} {i i' : Int} (hc : Chg lo hi w W) (h : w.heap[b]? = some (.cells arr e (0, 0))) (hb : lo ≤ b ∧ b < hi) (ho : arr[o]? = some (.int .i64 i)) : Chg lo hi w (W.setCell ⟨b, o, none⟩ (.int .i64 i')) := by
  obtain ⟨arr', h1, h2⟩ := hc.cell b arr e h
  obtain ⟨i2, h3⟩ : ∃ i, arr'[o]? = some (.int .i64 i) := by
    rcases h2 o _ ho with h3 | ⟨-, h3⟩
    · exact ⟨_, h3⟩
    · exact h3
  exact hc.trans (Chg.setCell h1 hb h3)
theorem Chg.cellAt {lo hi : Nat} {w w' : World} (h : Chg lo hi w w') (b : Nat) (h1 : b < w.heap.size) (h2 : b < lo ∨ hi ≤ b) (o : Nat) : w'.cell? ⟨b, o, none⟩ = w.cell? ⟨b, o, none⟩ := by
  simp only [World.cell?, h.out b h1 h2]
theorem Chg.frozenAt {lo hi : Nat} {w w' : World} (h : Chg lo hi w w') (b : Nat) (h1 : b < w.heap.size) (h2 : b < lo ∨ hi ≤ b) (o : Nat) : w'.frozen? ⟨b, o, none⟩ = w.frozen? ⟨b, o, none⟩ := by
  simp only [World.frozen?, h.out b h1 h2]
end Go.Proofs.YtkcgejbnhpccdaaGreat
