import Derived.Test.YtkcgejbnhpccdaaGreatP35
import Derived.Test.YtkcgejbnhpccdaaGreatP36
import Derived.Test.YtkcgejbnhpccdaaGreatP29
import Derived.Test.YtkcgejbnhpccdaaGreatP31
import Derived.Test.YtkcgejbnhpccdaaGreatP03
import Derived.Test.YtkcgejbnhpccdaaGreatP08
import Derived.Test.YtkcgejbnhpccdaaGreatP38
import Derived.Test.YtkcgejbnhpccdaaGreatP07
import Derived.Test.YtkcgejbnhpccdaaGreatP17
import Derived.Deep.Slices
set_option linter.unusedSimpArgs false
set_option linter.unusedVariables false
namespace Go.Proofs.YtkcgejbnhpccdaaGreat
open Go.RowKit
set_option maxRecDepth 20000 in
set_option maxHeartbeats 8000000 in
theorem s_Invoked (m : XMod) (cs : List Value) (k : Int) (va : Value) (args : List Int) (mem : ByteArray) (fuel : Int) (w : World) (hm : KMod lm w m cs) (ha : RI lm w va args) (hms : mem.size ≤ 1048576) :
    Calls Tryz.prog 15 #[.agg cs.toArray, .int .i64 k, va, .string mem, .int .i64 fuel] w (RetRes (resR m k args mem fuel) w) := by
  have hm' := Hd.mk hm
  obtain ⟨vm, rfl, hrm⟩ := hm
  obtain ⟨Am, cm, rfl, hcap, hlm, hm0⟩ := hrm.sm
  have hck := fun W (hW : Below w.heap.size w W) => s_Checked m _ W (KM.mv hm'.out hW)
  have hwk := fun W => s_l1In k 0 ((m.funcs.length : Int) - 1) W
  have hwf := fun W => s_l1In fuel 0 2000 W
  have ha' := Hd.mk ha
  have hlr := fun (fn : Nat) h h32 hf hk hg W (hW : Below w.heap.size w W) => s_l7Run m _ k va args mem fn W (KM.mv hm'.out hW) h (ha'.out.mv hW) h32 hf hk hg
  obtain ⟨Av, cv, rfl, -, hlv, -⟩ := ha.sm
  have ewl : IntKind.i64.wrap ((m.funcs.length : Int) - 1) = (m.funcs.length : Int) - 1 := IntWalk.i64_in _ (by omega)
  clear hrm ha
  have hbl := fun o => (Below.refl w.heap.size w).al (Nat.le_refl _) o
  obtain ⟨W0, hW0⟩ : ∃ W0 : World, W0 = (w.alloc (.cells #[.slice Am m.funcs.length cm] 38)).alloc (.cells #[.int .i64 0, .int .i64 0, .slice none 0 0, .string ⟨#[]⟩, .int .i64 0] 40) := ⟨_, rfl⟩
  have hz0 : W0.heap.size = w.heap.size + 2 := by rw [hW0]; simp
  have hb0 : Below w.heap.size w W0 := by rw [hW0]; exact (hbl _).al (by first | (simp; done) | (simp; omega)) _
  have hmb' : Hd (W0.cell? ⟨w.heap.size, 0, none⟩ = some (.slice Am m.funcs.length cm)) := ⟨by rw [hW0]; simp⟩
  have hrb' : Hd (W0.heap[w.heap.size + 1]? = some (.cells #[.int .i64 0, .int .i64 0, .slice none 0 0, .string ⟨#[]⟩, .int .i64 0] 40 (0, 0))) := ⟨by rw [hW0]; exact heap_new _ _ _ _ (by simp)⟩
  have hb0' := Hd.mk hb0
  have hW0' := Hd.mk hW0
  have hzw1 : w.heap.size + 1 < W0.heap.size := by omega
  clear hb0 hW0 hbl hz0
  generalize hR : resR m k args mem fuel = R
  have hR' := Hd.mk hR
  clear hR
  unfold resR modOk at hR'
  go_enter Tryz.func15, Tryz.ntmps15
  go_wp2_with fail
  rw [← hW0'.out]
  have x0 := hmb'.out
  go_wp2_with fail
  refine (hck _ hb0'.out).mono ?_; rintro e w1 ⟨rfl, hb1⟩
  have hB1 := Hd.mk (hb0'.out.then hb1)
  have hb1' := Hd.mk hb1
  have hz1 := hb1.size
  obtain ⟨cr, fr⟩ := row_facts ((hb1.block _ hzw1).trans hrb'.out)
  have q0 := cr 0
  have q1 := cr 1
  have q2 := cr 2
  have q3 := cr 3
  have q4 := cr 4
  simp at q0 q1 q2 q3 q4
  clear cr
  replace x0 := (bat hb1 w.heap.size (by omega) 0).trans x0
  have x0' := Hd.mk x0
  clear hb1 hck
  by_cases hq : checkM m = 0
  rotate_left
  · replace hR' := Hd.mk (show res6 = R by rw [← hR'.out, beqF hq]; rfl)
    have d0 := bneT hq
    generalize checkM m = qq at *
    clear hq
    go_wp2
    refine bodyPost_ret (v := resV res6 (.slice none 0 0)) (by simp [results, Tryz.results15, go_sem, resV, res6, q0, q1, q2, q3, q4]) rfl ⟨_, by rw [← hR'.out], by rw [← hR'.out]; exact ownI_nil _ _, ?_⟩
    repeat (refine Below.setCell ?_ (by first | (simp; done) | (simp; omega)) _)
    exact hB1.out
  have hmo : modOk m = true := by unfold modOk; rw [hq]; rfl
  rw [hq] at hR' ⊢
  replace hR' := Hd.mk (show resI m k args mem fuel = R from hR'.out)
  unfold resI invOk at hR'
  have hmo' := Hd.mk hmo
  clear hq hmo
  have hzw2 : w.heap.size < w1.heap.size := by omega
  go_wp2_with fail
  refine (hwk _).mono ?_; rintro e w2 ⟨rfl, rfl⟩
  cases hq : inR k 0 ((m.funcs.length : Int) - 1)
  · replace hR' := Hd.mk (show res6 = R by rw [← hR'.out, hq]; rfl)
    clear hq
    go_wp2
    refine bodyPost_ret (v := resV res6 (.slice none 0 0)) (by simp [results, Tryz.results15, go_sem, resV, res6, q0, q1, q2, q3, q4]) rfl ⟨_, by rw [← hR'.out], by rw [← hR'.out]; exact ownI_nil _ _, ?_⟩
    repeat (refine Below.setCell ?_ (by first | (simp; done) | (simp; omega)) _)
    exact hB1.out
  rw [hq] at hR'
  simp only [Bool.true_and] at hR'
  have hk0 : 0 ≤ k ∧ k < m.funcs.length := by unfold inR at hq; simp at hq; omega
  have hki : k.toNat < m.funcs.length := by omega
  clear hq hwk
  have hgd : m.funcs.getD k.toNat func0 = m.funcs[k.toNat] := by rw [List.getD_eq_getElem?_getD, List.getElem?_eq_getElem hki]; rfl
  obtain ⟨eb, eo, ecs, hA_, heb, ⟨fv1, fv2, rfl, hr_, hr2_⟩, hat_⟩ := (hm0.out).in0 (hB1.out) (k.toNat) (hki)
  cases hA_
  have hew := Nat.lt_of_lt_of_le heb (hB1.out).size
  have g0 := hat_ 0 _ rfl
  have g1 := hat_ 1 _ rfl
  have g2 := hat_ 2 _ rfl
  clear hat_
  simp at g0 g1 g2
  obtain ⟨Af, cf, rfl, hcf, hlf, hrf⟩ := hr_.sm
  obtain ⟨Ab, cb, rfl, hcb, hlb, hrb⟩ := hr2_.sm
  clear hr_ hr2_
  rw [hgd] at hR'
  have hgd' := Hd.mk hgd
  have hlr' := fun (fn : Nat) h32 hf hg W hW => hlr fn hmo'.out h32 hf hk0 hg W hW
  rw [hgd] at hlr'
  clear hgd hlr
  generalize m.funcs[k.toNat] = f at *
  have har := fun W (hW : Below w.heap.size w W) => s_l7Args _ (.slice Av args.length cv) (.slice Ab f.blocks.length cb) f.ret f.params args W (hrf.out.mv hW) (ha'.out.mv hW)
  obtain ⟨hk1, hk2⟩ := hk0
  go_wp2_with fail
  refine (har _ hB1.out).mono ?_; rintro e w2 ⟨rfl, hb2⟩
  have hB2 := Hd.mk (hB1.out.then hb2)
  have hb2' := Hd.mk (hb1'.out.then hb2)
  have hz2 := hb2.size
  have x2 := (bat hb2 w.heap.size hzw2 0).trans x0
  clear q0 q1 q2 q3 q4 fr hb2 x0
  obtain ⟨cr, fr⟩ := row_facts ((hb2'.out.block _ hzw1).trans hrb'.out)
  have q0 := cr 0
  have q1 := cr 1
  have q2 := cr 2
  have q3 := cr 3
  have q4 := cr 4
  simp at q0 q1 q2 q3 q4
  clear cr
  clear g0 g1 g2 har
  cases hq : argsOk f.params args
  · replace hR' := Hd.mk (show res6 = R by rw [← hR'.out, hq]; rfl)
    clear hq
    go_wp2
    refine bodyPost_ret (v := resV res6 (.slice none 0 0)) (by simp [results, Tryz.results15, go_sem, resV, res6, q0, q1, q2, q3, q4]) rfl ⟨_, by rw [← hR'.out], by rw [← hR'.out]; exact ownI_nil _ _, ?_⟩
    repeat (refine Below.setCell ?_ (by first | (simp; done) | (simp; omega)) _)
    exact hB2.out
  rw [hq] at hR'
  simp only [Bool.true_and] at hR'
  have hargs := Hd.mk hq
  clear hq
  by_cases h32 : mem.size = 32
  rotate_left
  · have d : ((mem.size : Int) != 32) = true := by simp; omega
    have d2 : (mem.size == 32) = false := by simpa using h32
    replace hR' := Hd.mk (show res6 = R by rw [← hR'.out, d2]; rfl)
    go_wp2
    refine bodyPost_ret (v := resV res6 (.slice none 0 0)) (by simp [results, Tryz.results15, go_sem, resV, res6, q0, q1, q2, q3, q4]) rfl ⟨_, by rw [← hR'.out], by rw [← hR'.out]; exact ownI_nil _ _, ?_⟩
    repeat (refine Below.setCell ?_ (by first | (simp; done) | (simp; omega)) _)
    exact hB2.out
  have d : ((mem.size : Int) != 32) = false := by simp; omega
  have d2 : (mem.size == 32) = true := by simpa using h32
  rw [d2] at hR'
  simp only [Bool.true_and] at hR'
  clear d2
  cases hq : inR fuel 0 2000
  · rw [hq] at hwf
    replace hR' := Hd.mk (show res6 = R by rw [← hR'.out, hq]; rfl)
    clear hq
    go_wp2_with fail
    refine (hwf _).mono ?_; rintro e w3 ⟨rfl, rfl⟩
    go_wp2
    refine bodyPost_ret (v := resV res6 (.slice none 0 0)) (by simp [results, Tryz.results15, go_sem, resV, res6, q0, q1, q2, q3, q4]) rfl ⟨_, by rw [← hR'.out], by rw [← hR'.out]; exact ownI_nil _ _, ?_⟩
    repeat (refine Below.setCell ?_ (by first | (simp; done) | (simp; omega)) _)
    exact hB2.out
  rw [hq] at hR' hwf
  rw [if_pos rfl] at hR'
  have hfu : 0 ≤ fuel ∧ fuel ≤ 2000 := by unfold inR at hq; simpa using hq
  clear hq
  obtain ⟨fn, rfl⟩ : ∃ fn : Nat, fuel = fn := ⟨fuel.toNat, by omega⟩
  rw [Int.toNat_natCast] at hR'
  have hrun := hlr' fn h32 (by omega) hargs.out w2 hB2.out
  rw [hR'.out] at hrun
  clear hlr' q0 q1 q2 q3 q4 fr
  have hzw3 : w.heap.size < w2.heap.size := by omega
  go_wp2_with fail
  refine (hwf _).mono ?_; rintro e w3 ⟨rfl, rfl⟩
  clear hwf
  go_wp2_with fail
  refine hrun.mono ?_; rintro e w3 ⟨v3, rfl, hown, hb3⟩
  have hB3 := Hd.mk (hB2.out.then hb3)
  obtain ⟨cr, fr⟩ := row_facts ((hb3.block _ (by omega)).trans ((hb2'.out.block _ hzw1).trans hrb'.out))
  have q0 := cr 0
  have q1 := cr 1
  have q2 := cr 2
  have q3 := cr 3
  have q4 := cr 4
  simp at q0 q1 q2 q3 q4
  clear cr
  have hz3 := hb3.size
  have hown' := Hd.mk (And.intro hown (show w.heap.size + 1 < w2.heap.size by omega))
  obtain ⟨A3, c3, rfl, -, -⟩ := own_shape hown
  clear hb3 hown hrun x2
  unfold resV
  go_wp2
  refine bodyPost_ret (v := resV R (.slice A3 R.out.length c3)) (by simp [results, Tryz.results15, go_sem, resV, q0, q1, q2, q3, q4]) rfl ⟨_, rfl, ?_, ?_⟩
  · refine own_lower (base := w2.heap.size) ?_ (by have := hown'.out.2; omega)
    repeat (refine own_far ?_ (by have := hown'.out.2; omega))
    exact hown'.out.1
  · repeat (refine Below.setCell ?_ (by first | (simp; done) | (simp; omega)) _)
    exact hB3.out
theorem rd_new {α : Type} {L sz : Nat} {K : World → α → List Value → Prop} {w : World} {b n : Nat} (xs : List α) (hn : n = xs.length) (hL : n ≤ L) (hb : b < w.heap.size) (h : ∀ i (hi : i < xs.length), ∃ cs, K w xs[i] cs ∧ cs.length = sz ∧ ∀ j (hj : j < cs.length), w.cell? ⟨b, i * sz + j, none⟩ = some cs[j]) : Rd L sz K w (.slice (some ⟨b, 0, none⟩) n n) xs := by
  subst hn
  exact ⟨_, _, rfl, Nat.le_refl _, hL, fun e => by simp at e, fun _ => ⟨b, 0, rfl, hb, fun i hi => by
    obtain ⟨cs, h1, h2, h3⟩ := h i hi
    exact ⟨cs, h1, h2, fun j hj => by rw [Nat.zero_add]; exact h3 j hj⟩⟩⟩
theorem rd_nilK {α : Type} {L sz : Nat} {K : World → α → List Value → Prop} {w : World} : Rd L sz K w (.slice none 0 0) ([] : List α) := ⟨none, 0, rfl, Nat.le_refl _, Nat.zero_le _, fun _ => rfl, fun h => absurd h (Nat.lt_irrefl _)⟩
theorem at_mid (A cs B : List Value) (j : Nat) (hj : j < cs.length) : (A ++ (cs ++ B)).toArray[A.length + j]? = some cs[j] := by
  rw [List.getElem?_toArray, List.getElem?_append_right (by omega), show A.length + j - A.length = j by omega, List.getElem?_append_left hj, List.getElem?_eq_getElem hj]
theorem info8 : (Tryz.prog.info? 5).map (fun i => (i.zero, i.size, i.bytes)) = some (some (.int .u8 0), 1, 1) := by kernel_rfl
theorem mk32 (W : World) : (Instr.makeSlice 22 (.int .i64 32) (.int .i64 32)).run Tryz.prog W = .ok (.slice (some ⟨W.heap.size, 0, none⟩) 32 32) (W.alloc (.cells (madeCells #[.int .u8 0] 32) 5)) :=
  mk_run 22 5 (.int .u8 0) 1 1 32 Tryz.underlying22 info8 (by omega) (by omega) W
def RetT8 (w : World) (e : Ending) (w' : World) : Prop := e = .returned (.bool true) ∧ Below w.heap.size w w'
theorem KRes.mv8 {w w' : World} {x : XRes} {cs : List Value} (h : KRes w x cs) (hb : Below w.heap.size w w') : KRes w' x cs := by
  obtain ⟨v, rfl, r⟩ := h; exact ⟨v, rfl, r.mv hb⟩
structure Fr (E : Nat → Prop) (w w' : World) : Prop where
  os : w'.os = w.os
  tape : w'.tape = w.tape
  output : w'.output = w.output
  size : w.heap.size ≤ w'.heap.size
  block : ∀ b, b < w.heap.size → ¬ E b → w'.heap[b]? = w.heap[b]?
theorem Fr.refl (E : Nat → Prop) (w : World) : Fr E w w := ⟨rfl, rfl, rfl, Nat.le_refl _, fun _ _ _ => rfl⟩
theorem Fr.go {E E' : Nat → Prop} {a b c : World} (h : Fr E a b) (k : Fr E' b c) (hE : ∀ q, E' q → E q ∨ a.heap.size ≤ q) : Fr E a c :=
  ⟨k.os.trans h.os, k.tape.trans h.tape, k.output.trans h.output, Nat.le_trans h.size k.size, fun q h1 h2 => (k.block q (Nat.lt_of_lt_of_le h1 h.size) fun e => by
    rcases hE q e with h' | h'
    · exact h2 h'
    · omega).trans (h.block q h1 h2)⟩
theorem Fr.sub {E E' : Nat → Prop} {a b : World} (h : Fr E a b) (hE : ∀ q, E q → E' q) : Fr E' a b := ⟨h.os, h.tape, h.output, h.size, fun q h1 h2 => h.block q h1 fun e => h2 (hE q e)⟩
theorem Fr.of {a b : World} (E : Nat → Prop) (h : Below a.heap.size a b) : Fr E a b := ⟨h.os, h.tape, h.output, h.size, fun q h1 _ => h.block q h1⟩
theorem Fr.then {E : Nat → Prop} {a b c : World} (h : Fr E a b) (k : Below b.heap.size b c) : Fr E a c := h.go (Fr.of (fun _ => False) k) fun _ e => e.elim
theorem Fr.gb {a b : World} {r : Option Nat} (h : a.grownBy b r) : Fr (fun q => r = some q) a b := ⟨h.os, h.tape, h.output, h.size, fun q h1 h2 => h.block q h1 fun e => h2 e.symm⟩
theorem Fr.set (w : World) (g j : Nat) (u : Value) : Fr (fun q => q = g) w (w.setCell ⟨g, j, none⟩ u) := ⟨rfl, rfl, rfl, by simp [World.setCell], fun q _ h2 => Below.heap_setCell w ⟨g, j, none⟩ u q h2⟩
theorem Fr.below {E : Nat → Prop} {a b : World} (h : Fr E a b) {B : Nat} (hB : B ≤ a.heap.size) (hE : ∀ q, q < B → ¬ E q) : Below B a b := ⟨h.os, h.tape, h.output, h.size, fun q hq => h.block q (by omega) (hE q hq)⟩
def Bx (E : Nat → Prop) (Q : World → Prop) (w : World) : Prop := ∀ w', Fr E w w' → Q w'
theorem Bx.out {E : Nat → Prop} {Q : World → Prop} {w : World} (h : Bx E Q w) : Q w := h w (Fr.refl _ _)
theorem Bx.go {E E' : Nat → Prop} {Q : World → Prop} {w w' : World} (h : Bx E Q w) (hF : Fr E w w') (hE : ∀ q, E' q → E q ∨ w.heap.size ≤ q) : Bx E' Q w' := fun _ h2 => h _ (hF.go h2 hE)
theorem Bx.imp {E : Nat → Prop} {Q Q' : World → Prop} {w : World} (h : Bx E Q w) (hq : ∀ w, Q w → Q' w) : Bx E Q' w := fun w' h' => hq _ (h w' h')
theorem own_fr {E : Nat → Prop} {w w' : World} {base e sz n : Nat} {v : Value} {cs : List Value} (h : w.ownsRow base e sz v n cs) (hF : Fr E w w') (hE : ∀ k, v.ownBlock = some k → ¬ E k) : w'.ownsRow base e sz v n cs := by
  refine ⟨h.1, ?_⟩
  rcases h.2 with h' | ⟨g, cap, cur, hv, h1, h2, h3⟩
  · exact .inl h'
  · exact .inr ⟨g, cap, cur, hv, h1, (hF.block g (Array.getElem?_eq_some_iff.1 h2).1 (hE g (by rw [hv]; rfl))).trans h2, h3⟩
theorem own_blk {w : World} {base e sz n : Nat} {v : Value} {cs : List Value} (h : w.ownsRow base e sz v n cs) : ∀ k, v.ownBlock = some k → k < w.heap.size ∧ base ≤ k ∧ ∃ cur, w.heap[k]? = some (.cells cur e (0, 0)) := by
  intro k hk
  rcases h.2 with ⟨rfl, _⟩ | ⟨g, cap, cur, rfl, h1, h2, h3⟩
  · cases hk
  · cases hk; exact ⟨(Array.getElem?_eq_some_iff.1 h2).1, h1, cur, h2⟩
theorem own_two {w : World} {base base' e e' sz sz' n n' : Nat} {v v' : Value} {cs cs' : List Value} (h : w.ownsRow base e sz v n cs) (h' : w.ownsRow base' e' sz' v' n' cs') (hne : e ≠ e') : ∀ k, v.ownBlock = some k → v'.ownBlock ≠ some k := by
  intro k hk hk'
  obtain ⟨-, -, c, h1⟩ := own_blk h k hk
  obtain ⟨-, -, c', h2⟩ := own_blk h' k hk'
  rw [h1] at h2
  injection h2 with h2
  injection h2 with _ h2 _
  exact hne h2
def Elt (E : Nat → Prop) (sz n : Nat) (cells : List Value) (Q : List Value → World → Prop) (W : World) : Prop := ∀ i, i < n → ∃ cs, cs.length = sz ∧ (∀ j, j < sz → cells[i * sz + j]? = cs[j]?) ∧ Bx E (Q cs) W
theorem Elt.go {E E' : Nat → Prop} {sz n : Nat} {cells : List Value} {Q : List Value → World → Prop} {w w' : World} (h : Elt E sz n cells Q w) (hF : Fr E w w') (hE : ∀ q, E' q → E q ∨ w.heap.size ≤ q) : Elt E' sz n cells Q w' := fun i hi => by
  obtain ⟨cs, h1, h2, h3⟩ := h i hi
  exact ⟨cs, h1, h2, h3.go hF hE⟩
theorem Elt.nil {E : Nat → Prop} {sz : Nat} {cells : List Value} {Q : List Value → World → Prop} {w : World} : Elt E sz 0 cells Q w := fun _ hi => absurd hi (Nat.not_lt_zero _)
theorem Elt.app {E : Nat → Prop} {sz n : Nat} {cells : List Value} {Q : List Value → World → Prop} {w : World} (h : Elt E sz n cells Q w) (hl : cells.length = n * sz) (cs : List Value) (hc : cs.length = sz) (hq : Bx E (Q cs) w) : Elt E sz (n + 1) (cells ++ cs) Q w := fun i hi => by
  by_cases h' : i < n
  · obtain ⟨cs', h1, h2, h3⟩ := h i h'
    refine ⟨cs', h1, fun j hj => ?_, h3⟩
    have h4 : i * sz + j < n * sz := by
      have : (i + 1) * sz ≤ n * sz := Nat.mul_le_mul_right _ h'
      rw [Nat.add_mul] at this; omega
    rw [List.getElem?_append_left (by omega)]
    exact h2 j hj
  · obtain rfl : i = n := by omega
    refine ⟨cs, hc, fun j hj => ?_, hq⟩
    rw [List.getElem?_append_right (by omega), hl]
    congr 1
    omega
theorem Elt.rd {α : Type} [Inhabited α] {E : Nat → Prop} {base e sz n : Nat} {cells : List Value} {v : Value} {K : World → α → List Value → Prop} {P : α → Prop} {W : World} (ho : W.ownsRow base e sz v n cells) (h : Elt E sz n cells (fun cs w => ∃ x, P x ∧ K w x cs) W) (hv : ∀ k, v.ownBlock = some k → ¬ E k) (hz : 0 < sz) (hn : n ≤ lm) :
    Bx E (fun w => ∃ xs : List α, xs.length = n ∧ (∀ x ∈ xs, P x) ∧ Rd lm sz K w v xs) W := fun w hw => by
  have ho' := own_fr ho hw hv
  have hx : ∀ i, i < n → ∃ x, P x ∧ ∃ cs, K w x cs ∧ cs.length = sz ∧ ∀ j, j < sz → cells[i * sz + j]? = cs[j]? := fun i hi => by
    obtain ⟨cs, h1, h2, h3⟩ := h i hi
    obtain ⟨x, h4, h5⟩ := h3 w hw
    exact ⟨x, h4, cs, h5, h1, h2⟩
  obtain ⟨f, hf⟩ := Go.Deep.choose_lt hx
  refine ⟨(List.range n).map f, by simp, fun x hx => ?_, ?_⟩
  · obtain ⟨i, hi, rfl⟩ := List.mem_map.1 hx
    exact (hf i (List.mem_range.1 hi)).1
  rcases ho'.2 with ⟨rfl, rfl⟩ | ⟨g, cap, cur, rfl, h1, h2, h3, h4, h5, h6⟩
  · exact ⟨none, 0, by simp, by simp, by simp, fun _ => rfl, fun h => by simp at h⟩
  · refine ⟨some ⟨g, 0, none⟩, cap, by simp, by simpa using h3, by simpa using hn, fun h => by simp at h, fun _ => ⟨g, 0, rfl, (Array.getElem?_eq_some_iff.1 h2).1, fun i hi => ?_⟩⟩
    have hi' : i < n := by simpa using hi
    obtain ⟨-, cs, k1, k2, k3⟩ := hf i hi'
    refine ⟨cs, by simpa using k1, k2, fun j hj => ?_⟩
    have hlt : i * sz + j < n * sz := by
      have : (i + 1) * sz ≤ n * sz := Nat.mul_le_mul_right _ hi'
      rw [Nat.add_mul] at this; omega
    have h7 := World.ownsRow.cellAt ho' (i * sz + j) hlt
    rw [Nat.zero_add, h7, k3 j (by omega), List.getElem?_eq_getElem hj]
structure GD where
  vP : Value
  ps : List Int
  ret : Int
  vB : Value
  nB : Nat
  cB : List Value
  vPh : Value
  nPh : Nat
  cPh : List Value
  vIn : Value
  nIn : Nat
  cIn : List Value
  tm : XTerm
  next : Int
  vids : Value
  vws : Value
  nid : Nat
  ex : Nat → Prop
structure GC where
  lo : Nat
  fl : Nat
  gr : Nat
  gg : Nat
  vr : Value
  vp : Value
  nr : Nat
  pars : List (List Int)
def GD.cells (D : GD) (C : GC) : List Value := [.pointer (some ⟨C.gr, 0, none⟩), D.vP, .int .i64 D.ret, D.vB, D.vPh, D.vIn, .int .i64 D.tm.kind, .int .i64 D.tm.a, .int .i64 D.tm.x, .int .i64 D.tm.y, .int .i64 D.next, D.vids, D.vws, C.vr, C.vp]
def GE (C : GC) (D : GD) (b : Nat) : Prop := b < C.fl ∨ b = C.gg ∨ D.vP.ownBlock = some b ∨ D.vB.ownBlock = some b ∨ D.vPh.ownBlock = some b ∨ D.vIn.ownBlock = some b ∨ D.ex b
def GK (C : GC) (D : GD) (b : Nat) : Prop := b = C.gr ∨ b = C.gg ∨ D.vP.ownBlock = some b ∨ D.vB.ownBlock = some b ∨ D.vPh.ownBlock = some b ∨ D.vIn.ownBlock = some b
def GA (C : GC) (b : Nat) : Prop := b = C.gr ∨ C.fl ≤ b
def QI (v : Value) (n : Nat) (w : World) : Prop := ∃ xs : List Int, xs.length = n ∧ True ∧ RI lm w v xs
def QInst (cs : List Value) (w : World) : Prop := ∃ x : XInst, True ∧ KInst lm w x cs
def QPhi (cs : List Value) (w : World) : Prop := ∃ x : XPhi, True ∧ KPhi lm w x cs
def sizedB (x : XBlock) : Prop := x.phis.length ≤ 1000 ∧ x.insts.length ≤ 1000
def QBlock (cs : List Value) (w : World) : Prop := ∃ x : XBlock, sizedB x ∧ KBlock lm w x cs
def KL (w : World) (x : List Int) (cs : List Value) : Prop := ∃ v, cs = [v] ∧ RI lm w v x
instance : KM KL := ⟨fun ⟨v, h, r⟩ hb => ⟨v, h, r.mv hb⟩⟩
structure GS (C : GC) (D : GD) (W : World) : Prop where
  cell : W.heap[C.gg]? = some (.cells (D.cells C).toArray 141 (0, 0))
  rs : RdS C.lo W C.gr
  hgr : C.gr < C.fl
  hgg : C.fl ≤ C.gg
  oP : W.ownsRow C.fl 2 1 D.vP D.ps.length (D.ps.map (.int .i64))
  oB : W.ownsRow C.fl 32 6 D.vB D.nB D.cB
  oPh : W.ownsRow C.fl 165 2 D.vPh D.nPh D.cPh
  oIn : W.ownsRow C.fl 26 7 D.vIn D.nIn D.cIn
  eB : Elt (GE C D) 6 D.nB D.cB QBlock W
  ePh : Elt (GE C D) 2 D.nPh D.cPh QPhi W
  eIn : Elt (GE C D) 7 D.nIn D.cIn QInst W
  eI : Bx (GE C D) (QI D.vids D.nid) W
  eW : Bx (GE C D) (QI D.vws D.nid) W
  eR : Bx (GA C) (QI C.vr C.nr) W
  eA : Bx (GA C) (fun w => Rd lm 1 KL w C.vp C.pars) W
  wP : ∀ p ∈ D.ps, isW p
  lP : D.ps.length ≤ 4
  wR : isW D.ret
  n0 : 0 ≤ D.next
  n1 : D.next ≤ 900
  n2 : D.nIn ≤ 1000
  n3 : D.nPh ≤ 1000
  n4 : D.nid ≤ 1000
  n5 : D.nB ≤ 100
  n6 : C.nr ≤ 4
  wA : ∀ x ∈ C.pars, x.length ≤ 4 ∧ ∀ p ∈ x, isW p
  nA : C.pars.length = C.nr
  hex : ∀ b, D.ex b → C.fl ≤ b ∧ b < W.heap.size ∧ b ≠ C.gg ∧ D.vP.ownBlock ≠ some b ∧ D.vB.ownBlock ≠ some b ∧ D.vPh.ownBlock ≠ some b ∧ D.vIn.ownBlock ≠ some b
theorem GK.ga {C : GC} {D : GD} {W : World} (h : GS C D W) : ∀ b, GK C D b → GA C b := by
  rintro b (rfl | rfl | e | e | e | e)
  · exact .inl rfl
  · exact .inr h.hgg
  · exact .inr (own_block_ge h.oP b e)
  · exact .inr (own_block_ge h.oB b e)
  · exact .inr (own_block_ge h.oPh b e)
  · exact .inr (own_block_ge h.oIn b e)
theorem ne_of_cells {W : World} {b b' e e' : Nat} {a a' : Array Value} {f f' : Nat × Nat} (h : W.heap[b]? = some (.cells a e f)) (h' : W.heap[b']? = some (.cells a' e' f')) (hne : e ≠ e') : b ≠ b' := by
  rintro rfl
  rw [h] at h'
  injection h' with h'
  injection h' with _ h' _
  exact hne h'
theorem GS.out {C : GC} {D : GD} {W : World} (h : GS C D W) {base e sz n : Nat} {v : Value} {cs : List Value} (ho : W.ownsRow base e sz v n cs) (h1 : e ≠ 141) (h2 : e ≠ 112) : ∀ k, v.ownBlock = some k → k ≠ C.gg ∧ k ≠ C.gr := by
  intro k hk
  obtain ⟨-, -, cur, hc⟩ := own_blk ho k hk
  obtain ⟨-, A, n, c, p, hr, -⟩ := h.rs
  exact ⟨ne_of_cells hc h.cell h1, ne_of_cells hc hr h2⟩
structure GP (C : GC) (D D' : GD) (W W' : World) : Prop where
  gs : GS C D' W'
  fr : Fr (GE C D) W W'
  sub : ∀ b, GE C D' b → GE C D b ∨ W.heap.size ≤ b
  fk : Fr (GK C D) W W'
  subk : ∀ b, GK C D' b → GK C D b ∨ W.heap.size ≤ b
theorem GP.refl {C : GC} {D : GD} {W : World} (h : GS C D W) : GP C D D W W := ⟨h, Fr.refl _ _, fun _ h => .inl h, Fr.refl _ _, fun _ h => .inl h⟩
theorem GP.trans {C : GC} {D D' D'' : GD} {W W' W'' : World} (h : GP C D D' W W') (k : GP C D' D'' W' W'') : GP C D D'' W W'' :=
  ⟨k.gs, h.fr.go k.fr h.sub, fun b hb => by
    rcases k.sub b hb with h' | h'
    · exact h.sub b h'
    · exact .inr (Nat.le_trans h.fr.size h'), h.fk.go k.fk h.subk, fun b hb => by
    rcases k.subk b hb with h' | h'
    · exact h.subk b h'
    · exact .inr (Nat.le_trans h.fr.size h')⟩
theorem GS.mem {C : GC} {D : GD} {W W' : World} (h : GS C D W) (tm : XTerm) (ret next : Int) (vids vws : Value) (nid : Nat) (hF : Fr (fun q => q = C.gg ∨ q = C.gr) W W') (hrs : RdS C.lo W' C.gr)
    (hc : W'.heap[C.gg]? = some (.cells (GD.cells {D with tm := tm, ret := ret, next := next, vids := vids, vws := vws, nid := nid} C).toArray 141 (0, 0)))
    (hi : Bx (GE C D) (QI vids nid) W') (hw : Bx (GE C D) (QI vws nid) W') (hr : isW ret) (b1 : 0 ≤ next) (b2 : next ≤ 900) (b3 : nid ≤ 1000) : GP C D {D with tm := tm, ret := ret, next := next, vids := vids, vws := vws, nid := nid} W W' := by
  have hf : Fr (GE C D) W W' := hF.sub (by rintro q (rfl | rfl) <;> simp [GE, h.hgr])
  have no := fun {base e sz n : Nat} {v : Value} {cs : List Value} (ho : W.ownsRow base e sz v n cs) h1 h2 => own_fr ho hF (fun k hk => by have := h.out ho h1 h2 k hk; simp [this.1, this.2])
  have hG : Fr (GA C) W W' := hF.sub (by
    rintro q (rfl | rfl)
    · exact .inr h.hgg
    · exact .inl rfl)
  exact ⟨⟨hc, hrs, h.hgr, h.hgg, no h.oP (by decide) (by decide), no h.oB (by decide) (by decide), no h.oPh (by decide) (by decide), no h.oIn (by decide) (by decide),
    h.eB.go hf fun _ e => .inl e, h.ePh.go hf fun _ e => .inl e, h.eIn.go hf fun _ e => .inl e, hi, hw, h.eR.go hG fun _ e => .inl e, h.eA.go hG fun _ e => .inl e, h.wP, h.lP, hr, b1, b2, h.n2, h.n3, b3, h.n5, h.n6, h.wA, h.nA, fun b e => ⟨(h.hex b e).1, Nat.lt_of_lt_of_le (h.hex b e).2.1 hF.size, (h.hex b e).2.2⟩⟩, hf, fun _ e => .inl e, hF.sub (by rintro q (rfl | rfl) <;> simp [GK]), fun _ e => .inl e⟩
theorem GS.mv {C : GC} {D : GD} {W W' : World} (h : GS C D W) (hb : Below W.heap.size W W') : GP C D D W W' := by
  have hlt := (Array.getElem?_eq_some_iff.1 h.cell).1
  have hF : Fr (fun q => q = C.gg ∨ q = C.gr) W W' := Fr.of _ hb
  have hf : Fr (GE C D) W W' := Fr.of _ hb
  exact h.mem D.tm D.ret D.next D.vids D.vws D.nid hF (h.rs.mv (row := none) ⟨hb.os, hb.tape, hb.output, hb.size, fun k hk _ => hb.block k hk⟩ (by simp) (fun k hk => by cases hk)) ((hb.block _ hlt).trans h.cell) (h.eI.go hf fun _ e => .inl e) (h.eW.go hf fun _ e => .inl e) h.wR h.n0 h.n1 h.n4
theorem GS.rd {C : GC} {D : GD} {W W' : World} (h : GS C D W) (hg : W.grownBy W' (some C.gr)) (hrs : RdS C.lo W' C.gr) : GP C D D W W' := by
  have hlt := (Array.getElem?_eq_some_iff.1 h.cell).1
  have hne : C.gg ≠ C.gr := by have := h.hgr; have := h.hgg; omega
  have hF : Fr (fun q => q = C.gg ∨ q = C.gr) W W' := (Fr.gb hg).sub (by rintro q e; cases e; exact .inr rfl)
  have hf : Fr (GE C D) W W' := (Fr.gb hg).sub (by rintro q e; cases e; exact .inl h.hgr)
  exact h.mem D.tm D.ret D.next D.vids D.vws D.nid hF hrs ((hg.block _ hlt (by simpa using hne)).trans h.cell) (h.eI.go hf fun _ e => .inl e) (h.eW.go hf fun _ e => .inl e) h.wR h.n0 h.n1 h.n4
theorem fr_row {C : GC} {W W2 W3 : World} {r : Option Nat} (hg : W.grownBy W2 r) (hs : Fr (fun q => q = C.gg) W2 W3) : Fr (fun q => q = C.gg ∨ r = some q) W W3 :=
  ((Fr.gb hg).sub fun q e => .inr e).go hs fun q e => .inl (.inl e)
theorem GS.insts {C : GC} {D : GD} {W W2 W3 : World} (h : GS C D W) (v' : Value) (cs : List Value) (hg : W.grownBy W2 D.vIn.ownBlock) (ho : W2.ownsRow C.fl 26 7 v' (D.nIn + 1) (D.cIn ++ cs)) (hv : v'.ownBlock = D.vIn.ownBlock ∨ v'.ownBlock = some W.heap.size) (hq : Bx (GE C D) (QInst cs) W) (hcl : cs.length = 7)
    (hs : Fr (fun q => q = C.gg) W2 W3) (hc : W3.heap[C.gg]? = some (.cells (GD.cells {D with vIn := v', nIn := D.nIn + 1, cIn := D.cIn ++ cs} C).toArray 141 (0, 0))) (hn : D.nIn + 1 ≤ 1000) : GP C D {D with vIn := v', nIn := D.nIn + 1, cIn := D.cIn ++ cs} W W3 := by
  have hF := fr_row hg hs
  have hgl := (Array.getElem?_eq_some_iff.1 h.cell).1
  have hsub : ∀ b, GE C {D with vIn := v', nIn := D.nIn + 1, cIn := D.cIn ++ cs} b → GE C D b ∨ W.heap.size ≤ b := by
    intro b hb
    simp only [GE] at hb ⊢
    rcases hv with hv | hv
    · rw [hv] at hb; exact .inl hb
    · rw [hv] at hb
      rcases hb with e | e | e | e | e | e | e
      all_goals first
        | (injection e with e; exact .inr (by omega))
        | exact .inl (by simp [e])
  have hsubk : ∀ b, GK C {D with vIn := v', nIn := D.nIn + 1, cIn := D.cIn ++ cs} b → GK C D b ∨ W.heap.size ≤ b := by
    intro b hb
    simp only [GK] at hb ⊢
    rcases hv with hv | hv
    · rw [hv] at hb; exact .inl hb
    · rw [hv] at hb
      rcases hb with e | e | e | e | e | e
      all_goals first
        | (injection e with e; exact .inr (by omega))
        | exact .inl (by simp [e])
  have hfk : Fr (GK C D) W W3 := hF.sub (by rintro q (rfl | e) <;> simp [GK, *])
  have hf : Fr (GE C D) W W3 := hF.sub (by rintro q (rfl | e) <;> simp [GE, *])
  have hG : Fr (GA C) W W3 := hfk.sub (GK.ga h)
  have hrow := h.out h.oIn (by decide) (by decide)
  have hrg : C.gr ≠ C.gg := by have := h.hgr; have := h.hgg; omega
  have no := fun {base e sz n : Nat} {v : Value} {cs : List Value} (ho : W.ownsRow base e sz v n cs) (h1 : e ≠ 141) (h2 : e ≠ 112) (h3 : ∀ k, v.ownBlock = some k → D.vIn.ownBlock ≠ some k) => own_fr ho hF (fun k hk => by
    have := h.out ho h1 h2 k hk
    rintro (e | e)
    · exact this.1 e
    · exact h3 k hk e)
  have hrs : RdS C.lo W3 C.gr := by
    have hb : W3.heap[C.gr]? = W.heap[C.gr]? := hF.block _ h.rs.lt (by rintro (e | e); exact hrg e; exact (hrow _ e).2 rfl)
    obtain ⟨h1, A, n, c, p, h2, h3, h4, h5⟩ := h.rs
    refine ⟨h1, A, n, c, p, hb.trans h2, h3, h4, fun i hi => ?_⟩
    obtain ⟨b, off, q, k1, k2, k3, k4, k5⟩ := h5 i hi
    refine ⟨b, off, q, k1, k2, k3, k4, ?_⟩
    rw [← k5]
    have hbl : b < W.heap.size := by
      unfold World.cell? at k5
      split at k5
      · rename_i hh; exact (Array.getElem?_eq_some_iff.1 hh).1
      · cases k5
    refine World.cell?_of_block (hF.block b hbl ?_)
    rintro (e | e)
    · have := h.hgr; have := h.hgg; omega
    · have := own_block_ge h.oIn b e; have := h.hgr; omega
  refine ⟨⟨hc, hrs, h.hgr, h.hgg, no h.oP (by decide) (by decide) (own_two h.oP h.oIn (by decide)), no h.oB (by decide) (by decide) (own_two h.oB h.oIn (by decide)), no h.oPh (by decide) (by decide) (own_two h.oPh h.oIn (by decide)), own_fr ho hs (fun k hk => ?_),
    h.eB.go hf hsub, h.ePh.go hf hsub, ?_, h.eI.go hf hsub, h.eW.go hf hsub, h.eR.go hG fun _ e => .inl e, h.eA.go hG fun _ e => .inl e, h.wP, h.lP, h.wR, h.n0, h.n1, hn, h.n3, h.n4, h.n5, h.n6, h.wA, h.nA, fun b e => ?_⟩, hf, hsub, hfk, hsubk⟩
  · rcases hv with hv | hv
    · rw [hv] at hk; exact (hrow k hk).1
    · rw [hv] at hk; injection hk with hk; omega
  · exact (h.eIn.app h.oIn.1 cs hcl hq).go hf hsub
  · obtain ⟨e1, e2, e3, e4, e5, e6, e7⟩ := h.hex b e
    refine ⟨e1, Nat.lt_of_lt_of_le e2 hF.size, e3, e4, e5, e6, ?_⟩
    rcases hv with hv | hv
    · show v'.ownBlock ≠ some b
      rw [hv]; exact e7
    · show v'.ownBlock ≠ some b
      rw [hv]; intro e'; injection e' with e'; omega
theorem GS.phis {C : GC} {D : GD} {W W2 W3 : World} (h : GS C D W) (v' : Value) (cs : List Value) (hg : W.grownBy W2 D.vPh.ownBlock) (ho : W2.ownsRow C.fl 165 2 v' (D.nPh + 1) (D.cPh ++ cs)) (hv : v'.ownBlock = D.vPh.ownBlock ∨ v'.ownBlock = some W.heap.size) (hq : Bx (GE C D) (QPhi cs) W) (hcl : cs.length = 2)
    (hs : Fr (fun q => q = C.gg) W2 W3) (hc : W3.heap[C.gg]? = some (.cells (GD.cells {D with vPh := v', nPh := D.nPh + 1, cPh := D.cPh ++ cs} C).toArray 141 (0, 0))) (hn : D.nPh + 1 ≤ 1000) : GP C D {D with vPh := v', nPh := D.nPh + 1, cPh := D.cPh ++ cs} W W3 := by
  have hF := fr_row hg hs
  have hgl := (Array.getElem?_eq_some_iff.1 h.cell).1
  have hsub : ∀ b, GE C {D with vPh := v', nPh := D.nPh + 1, cPh := D.cPh ++ cs} b → GE C D b ∨ W.heap.size ≤ b := by
    intro b hb
    simp only [GE] at hb ⊢
    rcases hv with hv | hv
    · rw [hv] at hb; exact .inl hb
    · rw [hv] at hb
      rcases hb with e | e | e | e | e | e | e
      all_goals first
        | (injection e with e; exact .inr (by omega))
        | exact .inl (by simp [e])
  have hsubk : ∀ b, GK C {D with vPh := v', nPh := D.nPh + 1, cPh := D.cPh ++ cs} b → GK C D b ∨ W.heap.size ≤ b := by
    intro b hb
    simp only [GK] at hb ⊢
    rcases hv with hv | hv
    · rw [hv] at hb; exact .inl hb
    · rw [hv] at hb
      rcases hb with e | e | e | e | e | e
      all_goals first
        | (injection e with e; exact .inr (by omega))
        | exact .inl (by simp [e])
  have hfk : Fr (GK C D) W W3 := hF.sub (by rintro q (rfl | e) <;> simp [GK, *])
  have hf : Fr (GE C D) W W3 := hF.sub (by rintro q (rfl | e) <;> simp [GE, *])
  have hG : Fr (GA C) W W3 := hfk.sub (GK.ga h)
  have hrow := h.out h.oPh (by decide) (by decide)
  have hrg : C.gr ≠ C.gg := by have := h.hgr; have := h.hgg; omega
  have no := fun {base e sz n : Nat} {v : Value} {cs : List Value} (ho : W.ownsRow base e sz v n cs) (h1 : e ≠ 141) (h2 : e ≠ 112) (h3 : ∀ k, v.ownBlock = some k → D.vPh.ownBlock ≠ some k) => own_fr ho hF (fun k hk => by
    have := h.out ho h1 h2 k hk
    rintro (e | e)
    · exact this.1 e
    · exact h3 k hk e)
  have hrs : RdS C.lo W3 C.gr := by
    have hb : W3.heap[C.gr]? = W.heap[C.gr]? := hF.block _ h.rs.lt (by rintro (e | e); exact hrg e; exact (hrow _ e).2 rfl)
    obtain ⟨h1, A, n, c, p, h2, h3, h4, h5⟩ := h.rs
    refine ⟨h1, A, n, c, p, hb.trans h2, h3, h4, fun i hi => ?_⟩
    obtain ⟨b, off, q, k1, k2, k3, k4, k5⟩ := h5 i hi
    refine ⟨b, off, q, k1, k2, k3, k4, ?_⟩
    rw [← k5]
    have hbl : b < W.heap.size := by
      unfold World.cell? at k5
      split at k5
      · rename_i hh; exact (Array.getElem?_eq_some_iff.1 hh).1
      · cases k5
    refine World.cell?_of_block (hF.block b hbl ?_)
    rintro (e | e)
    · have := h.hgr; have := h.hgg; omega
    · have := own_block_ge h.oPh b e; have := h.hgr; omega
  refine ⟨⟨hc, hrs, h.hgr, h.hgg, no h.oP (by decide) (by decide) (own_two h.oP h.oPh (by decide)), no h.oB (by decide) (by decide) (own_two h.oB h.oPh (by decide)), own_fr ho hs (fun k hk => ?_), no h.oIn (by decide) (by decide) (own_two h.oIn h.oPh (by decide)),
    h.eB.go hf hsub, ?_, h.eIn.go hf hsub, h.eI.go hf hsub, h.eW.go hf hsub, h.eR.go hG fun _ e => .inl e, h.eA.go hG fun _ e => .inl e, h.wP, h.lP, h.wR, h.n0, h.n1, h.n2, hn, h.n4, h.n5, h.n6, h.wA, h.nA, fun b e => ?_⟩, hf, hsub, hfk, hsubk⟩
  · rcases hv with hv | hv
    · rw [hv] at hk; exact (hrow k hk).1
    · rw [hv] at hk; injection hk with hk; omega
  · exact (h.ePh.app h.oPh.1 cs hcl hq).go hf hsub
  · obtain ⟨e1, e2, e3, e4, e5, e6, e7⟩ := h.hex b e
    refine ⟨e1, Nat.lt_of_lt_of_le e2 hF.size, e3, e4, e5, ?_, e7⟩
    rcases hv with hv | hv
    · show v'.ownBlock ≠ some b
      rw [hv]; exact e6
    · show v'.ownBlock ≠ some b
      rw [hv]; intro e'; injection e' with e'; omega
end Go.Proofs.YtkcgejbnhpccdaaGreat
