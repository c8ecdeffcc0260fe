import Derived.Test.YtkcgejbnhpccdaaGreatT33
set_option linter.unusedSimpArgs false
set_option linter.unusedVariables false
namespace Go.Proofs.YtkcgejbnhpccdaaGreat
open Go.RowKit
def seesAt (f : XFunc) (id b n : Int) : Bool := if (placeOf f id).1 == -1 then true else if (placeOf f id).1 == b then decide ((placeOf f id).2 < n) else decide ((placeOf f id).1 ≥ 0) && dom f (placeOf f id).1 b
theorem sees_first (f : XFunc) (id b n : Int) (h0 : 0 ≤ id) (h1 : id < countOf f) (hb : 0 ≤ b) : seesAt f id b n = seen f id b (firstOf f b + n) := by
  unfold seesAt seen
  rcases placeOf_cases f id with ⟨-, h3⟩ | ⟨h3, -, -⟩ | ⟨k, hk, h3, -, -⟩
  · rw [(isIdB_iff (countOf f) id).2 ⟨h0, h1⟩] at h3; cases h3
  · simp [h3]
  · rw [h3]
    have e1 : ((k : Int) == -1) = false := beqF (by omega)
    simp only [e1, Bool.false_eq_true, if_false]
    by_cases e : (k : Int) = b
    · subst e
      simp only [beq_self_eq_true, if_true]
      unfold firstOf
      rw [Int.toNat_natCast]
      congr 1
      exact propext (by omega)
    · rw [if_neg (by simpa using e), if_neg (by simpa using e)]
      have e2 : decide ((k : Int) ≥ 0) = true := decide_eq_true (by omega)
      rw [e2, Bool.true_and]
theorem sees_end (f : XFunc) (id b : Int) (h0 : 0 ≤ id) (h1 : id < countOf f) (hb : 0 ≤ b) (hb2 : b < f.blocks.length) : seesAt f id b ((blkAt f b).phis.length + (blkAt f b).insts.length) = seen f id b (countOf f) := by
  unfold seesAt seen
  rcases placeOf_cases f id with ⟨-, h3⟩ | ⟨h3, -, -⟩ | ⟨k, hk, h3, h4, h5⟩
  · rw [(isIdB_iff (countOf f) id).2 ⟨h0, h1⟩] at h3; cases h3
  · simp [h3]
  · rw [h3]
    have e1 : ((k : Int) == -1) = false := beqF (by omega)
    simp only [e1, Bool.false_eq_true, if_false]
    by_cases e : (k : Int) = b
    · subst e
      rw [blkAt_nat f k hk]
      unfold sizeB at h5
      rw [if_pos (by simp), if_pos (by simp), decide_eq_true (show id - countIn f.params.length (f.blocks.take k) < (f.blocks[k].phis.length : Int) + f.blocks[k].insts.length by omega), decide_eq_true h1]
    · rw [if_neg (by simpa using e), if_neg (by simpa using e)]
      have e2 : decide ((k : Int) ≥ 0) = true := decide_eq_true (by omega)
      rw [e2, Bool.true_and]
set_option maxHeartbeats 1000000 in
theorem s_l4Sees (f : XFunc) (cs : List Value) (id b n : Int) (w : World) (hf : KFunc lm w f cs) (hg : Gr f) (hid : id ≤ 9223372036854775807) (hb : 0 ≤ b) :
    Calls Tryz.prog 152 #[.agg cs.toArray, .int .i64 id, .int .i64 b, .int .i64 n] w (Ret (.bool (seesAt f id b n)) w) := by
  have hpl := fun W hW => s_l2Place f cs id W (KM.mv hf hW) hid
  have hdm := fun a W hW => s_l3Dom f cs a b W (KM.mv hf hW) hg hb
  obtain ⟨v1, v2, rfl, hp, hb'⟩ := hf
  obtain ⟨A1, c1, rfl, -, -, -⟩ := hp.sm
  obtain ⟨A2, c2, rfl, -, -, -⟩ := hb'.sm
  have hbl := fun o => (Below.refl w.heap.size w).al (Nat.le_refl _) o
  clear hp hb' hg
  generalize hRR : seesAt f id b n = R
  have hR := Hd.mk hRR.symm
  clear hRR
  unfold seesAt at hR
  generalize placeOf f id = pl at *
  obtain ⟨p1, p2⟩ := pl
  simp only at *
  by_cases h1 : p1 = -1
  · subst h1
    have hv : R = true := by rw [hR.out]; rfl
    subst hv
    clear hR hdm
    go_enter Tryz.func152, Tryz.ntmps152
    go_wp2_with fail
    refine (hpl _ (hbl _)).mono ?_; rintro e w1 ⟨rfl, hb1⟩
    go_wp2
    go_ret
    exact ⟨rfl, (hbl _).then hb1⟩
  have d1 := beqF h1
  by_cases h2 : p1 = b
  · have hv : R = decide (p2 < n) := by rw [hR.out, if_neg (by simpa using h1), if_pos (by simpa using h2)]
    subst hv
    subst h2
    clear hR hdm
    go_enter Tryz.func152, Tryz.ntmps152
    go_wp2_with fail
    refine (hpl _ (hbl _)).mono ?_; rintro e w1 ⟨rfl, hb1⟩
    go_wp2
    go_ret
    exact ⟨rfl, (hbl _).then hb1⟩
  have d2 := beqF h2
  have hv : R = (decide (p1 ≥ 0) && dom f p1 b) := by rw [hR.out, if_neg (by simpa using h1), if_neg (by simpa using h2)]
  clear hR
  by_cases h3 : p1 ≥ 0
  · rw [decide_eq_true h3, Bool.true_and] at hv
    have d3 : decide (p1 ≥ 0) = true := decide_eq_true h3
    have hdd := hdm p1
    rw [← hv] at hdd
    clear hdm hv h1 h2
    go_enter Tryz.func152, Tryz.ntmps152
    go_wp2_with fail
    refine (hpl _ (hbl _)).mono ?_; rintro e w1 ⟨rfl, hb1⟩
    have k0 := (bat hb1 w.heap.size (by simp) 0)
    have k1 := (bat hb1 w.heap.size (by simp) 1)
    have k2 := (bat hb1 w.heap.size (by simp) 2)
    simp at k0 k1 k2
    have hB := Hd.mk ((hbl _).then hb1)
    clear hb1 hpl hbl
    go_wp2_with fail
    refine (hdd _ hB.out).mono ?_; rintro e w2 ⟨rfl, hb2⟩
    go_wp2
    go_ret
    exact ⟨rfl, hB.out.then hb2⟩
  · have d3 : decide (p1 ≥ 0) = false := decide_eq_false h3
    rw [d3, Bool.false_and] at hv
    subst hv
    clear hdm h1 h2
    go_enter Tryz.func152, Tryz.ntmps152
    go_wp2_with fail
    refine (hpl _ (hbl _)).mono ?_; rintro e w1 ⟨rfl, hb1⟩
    go_wp2
    go_ret
    exact ⟨rfl, (hbl _).then hb1⟩
end Go.Proofs.YtkcgejbnhpccdaaGreat
