/- The contract of the program's PassesOf. No conditions. -/
import Derived.Test.YtdnbiohohbnhgaaDoorP4
import Derived.Test.YtdnbiohohbnhgaaDoorL4
set_option linter.unusedSimpArgs false
set_option linter.unusedVariables false
namespace Go.Proofs.YtdnbiohohbnhgaaDoor
open Go.RowKit
/-- A fresh list of numbers, if there is one, and whether there is one. -/
def RetO (r : Option (List Int)) (w : World) (e : Ending) (w' : World) : Prop := ∃ v, e = .returned (.tuple #[v, .bool r.isSome]) ∧ w'.ownsRow w.heap.size 2 1 v (r.getD []).length ((r.getD []).map (Value.int .i64)) ∧ Below w.heap.size w w'
theorem pOf_cons (x : ByteArray) (r : List ByteArray) (out : List Int) : pOf (x :: r) out = if idxW x < 0 ∨ out.length = 12 then none else pOf r (out ++ [idxW x + 1]) := rfl
theorem own_ne {w : World} {base e e' sz n b : Nat} {v : Value} {cs : List Value} {arr : Array Value} {fz : Nat × Nat} (h : w.ownsRow base e sz v n cs) (hb : w.heap[b]? = some (.cells arr e' fz)) (hne : e ≠ e') : v.ownBlock ≠ some b := by
  intro hv
  rcases h.2 with ⟨rfl, _⟩ | ⟨g, cap, cur, rfl, h1, h2, _⟩
  · simp [Value.ownBlock] at hv
  · simp only [Value.ownBlock, Option.some.injEq] at hv
    subst hv
    rw [hb] at h2
    cases h2
    exact hne rfl
theorem c_index (x : ByteArray) (b : Nat) (w : World) (h : w.heap[b]? = some (.cells (words9.map Value.string).toArray 9 (0, 0))) : Calls Tryd.prog 21 #[.slice (some ⟨b, 0, none⟩) 9 9, .string x] w (Same (.int .i64 (idxW x)) w) := by
  have hi := Tryd.slices_Index_string b 0 9 9 words9 x w (by decide) (by decide) (fun j hj => by
    rw [(row_facts h).1, Nat.zero_add]
    have hj' : j < 9 := hj
    match j, hj' with
    | 0, _ => rfl
    | 1, _ => rfl
    | 2, _ => rfl
    | 3, _ => rfl
    | 4, _ => rfl
    | 5, _ => rfl
    | 6, _ => rfl
    | 7, _ => rfl
    | 8, _ => rfl)
  exact hi.mono fun e w' ⟨h1, h2⟩ => ⟨h1, h2.symm⟩
set_option maxHeartbeats 4000000 in
theorem c_PassesOf (s : ByteArray) (m : Int) (w : World) (hs : s.size ≤ 1048576) (hm : w.cell? ⟨0, 0, none⟩ = some (.int .i64 m)) (h00 : 0 < w.heap.size) : Calls Tryd.prog 7 #[.string s] w (RetO (passesOf s) w) := by
  have hsp := fun W hW => Tryd.strings_Split s comma m W (by omega) hW (by decide)
  rw [← parts_len] at hsp
  change ∀ W, W.cell? ⟨0, 0, none⟩ = some (.int .i64 m) → Calls Tryd.prog 20 #[.string s, .string comma] W (fun e w' => e = .returned (.slice (some ⟨W.heap.size, 0, none⟩) (parts s).length (parts s).length) ∧ w' = W.alloc (.cells ((parts s).map Value.string).toArray 9)) at hsp
  have ht := empty_iff s
  have hpl : (parts s).length ≤ 4294967296 := by
    have := Lib.count_le s.data.toList comma.data.toList
    rw [parts_len]
    change Lib.countB s comma ≤ s.data.toList.length + 1 at this
    have h2 : s.data.toList.length = s.size := by simp
    omega
  by_cases h0 : s.size = 0
  · have hr : passesOf s = some [] := by unfold passesOf; rw [if_pos h0]
    rw [hr]
    rw [decide_eq_true h0] at ht
    clear hsp hpl
    go_enter Tryd.func7, Tryd.ntmps7
    go_wp2
    go_ret2
    exact ⟨_, rfl, ownI_nil _ _, Below.refl _ _⟩
  · have hr : passesOf s = pOf (parts s) [] := by unfold passesOf; rw [if_neg h0]
    rw [hr]
    rw [decide_eq_false h0] at ht
    clear hr
    have hmW : ∀ W, Below w.heap.size w W → W.cell? ⟨0, 0, none⟩ = some (.int .i64 m) := fun W hb => (bat hb 0 h00 0).trans hm
    generalize parts s = ps at *
    go_enter Tryd.func7, Tryd.ntmps7
    go_wp2_with fail
    refine (hsp _ (hmW _ ((Below.refl _ _).al (Nat.le_refl _) _))).mono ?_; rintro e w1 ⟨rfl, hw1⟩
    have hP1 : w1.heap[w.heap.size + 1]? = some (.cells (ps.map Value.string).toArray 9 (0, 0)) := by
      rw [hw1]; exact heap_new _ _ _ _ (by simp)
    have hb1 : Below w.heap.size w w1 := by rw [hw1]; exact ((Below.refl _ _).al (Nat.le_refl _) _).al (by first | (simp; done) | (simp; omega)) _
    have hz1 : w.heap.size + 2 ≤ w1.heap.size := by rw [hw1]; simp
    have ho1 : w1.ownsRow w.heap.size 2 1 (.slice (some ⟨w.heap.size, 0, none⟩) 0 0) 0 [] := by
      rw [hw1]
      exact own_mv (own_empty w w.heap.size w.heap.size 2 1 rfl (Nat.le_refl _)) ((Below.refl _ _).al (Nat.le_refl _) _)
    clear hw1 hsp
    have hP := Hd.mk hP1
    have ho := Hd.mk ho1
    have hmm := Hd.mk hmW
    have hbb := Hd.mk hb1
    clear hP1 ho1 hmW hb1 hm ht
    go_wp2
    go_loopw [4, 14] (fun s4 s14 wr => ∃ k : Nat, ∃ out A c, k ≤ ps.length ∧ s14 = .int .i64 k ∧ s4 = .slice A (out : List Int).length c ∧ w.heap.size + 2 ≤ wr.heap.size ∧ out.length ≤ 12 ∧ Hd (wr.ownsRow w.heap.size 2 1 (.slice A out.length c) out.length (out.map (Value.int .i64))) ∧ Hd (wr.heap[w.heap.size + 1]? = some (.cells (ps.map Value.string).toArray 9 (0, 0))) ∧ Hd (pOf (ps.drop k) out = pOf ps []) ∧ Hd (Below w.heap.size w wr)) (fun _ s14 _ => ps.length - (intOf s14).toNat)
    case atStart => exact ⟨0, [], _, _, Nat.zero_le _, rfl, rfl, hz1, by simp, ho, hP, ⟨by simp⟩, hbb⟩
    case round =>
      clear ho hP hbb hz1
      obtain ⟨k, out, A, c, hk, rfl, rfl, hz, hl12, ho, hP, hp, hbr⟩ := hrel
      by_cases hlt : k < ps.length
      · have hstep := hp.out
        rw [List.drop_eq_getElem_cons hlt] at hstep
        have g0 := (row_facts hP.out).1 k
        rw [show (ps.map Value.string).toArray[k]? = some (.string ps[k]) by simp [hlt]] at g0
        generalize ps[k] = x at *
        have hr := idxW_rng x
        rw [pOf_cons] at hstep
        have hcw := c_passWords m wr (hmm.out wr hbr.out)
        have hci := fun W h => c_index x wr.heap.size W h
        generalize idxW x = i0 at *
        clear hp
        by_cases hn : i0 < 0 ∨ out.length = 12
        · rw [if_pos hn] at hstep
          have hstep' := Hd.mk hstep
          clear hstep
          have hd : (decide (i0 < 0) = true) ∨ (decide (i0 < 0) = false ∧ ((out.length : Int) == 12) = true) := by
            rcases hn with hn | hn
            · exact .inl (by simpa using hn)
            · by_cases h : i0 < 0
              · exact .inl (by simpa using h)
              · exact .inr ⟨by simpa using h, by simp; omega⟩
          clear hn hr
          rcases hd with hd | ⟨hd, hd2⟩
          all_goals
            go_wp2_with fail
            refine hcw.mono ?_; rintro e w2 ⟨rfl, hw2⟩
            have hh2 : w2.heap[wr.heap.size]? = some (.cells (words9.map Value.string).toArray 9 (0, 0)) := by rw [hw2]; exact heap_new _ _ _ _ rfl
            have hb2 : Below wr.heap.size wr w2 := by rw [hw2]; exact (Below.refl _ _).al (Nat.le_refl _) _
            clear hw2 hcw
            go_wp2_with fail
            refine (hci _ hh2).mono ?_; rintro e w3 ⟨rfl, rfl⟩
            clear hh2
            go_wp2
            go_ret2
            exact ⟨_, by rw [← hstep'.out]; rfl, by rw [← hstep'.out]; exact ownI_nil _ _, hbr.out.then hb2⟩
        · rw [if_neg hn] at hstep
          have hstep' := Hd.mk hstep
          clear hstep
          have hi0 : 0 ≤ i0 := by omega
          have hi9 : i0 < 9 := by omega
          have hd : decide (i0 < 0) = false := by simp; omega
          have hd2 : ((out.length : Int) == 12) = false := by simp; omega
          have hl : out.length < 12 := by omega
          clear hn hr
          have hw : IntKind.i64.wrap (i0 + 1) = i0 + 1 := IntWalk.i64_in _ (by omega)
          go_wp2_with fail
          refine hcw.mono ?_; rintro e w2 ⟨rfl, hw2⟩
          have hh2 : w2.heap[wr.heap.size]? = some (.cells (words9.map Value.string).toArray 9 (0, 0)) := by rw [hw2]; exact heap_new _ _ _ _ rfl
          have hb2 : Below wr.heap.size wr w2 := by rw [hw2]; exact (Below.refl _ _).al (Nat.le_refl _) _
          clear hw2 hcw
          go_wp2_with fail
          refine (hci _ hh2).mono ?_; rintro e w3 ⟨rfl, rfl⟩
          clear hh2 hci
          have hz2 : w.heap.size + 2 ≤ w2.heap.size := Nat.le_trans hz hb2.size
          have hP2 : w2.heap[w.heap.size + 1]? = some (.cells (ps.map Value.string).toArray 9 (0, 0)) := (hb2.block _ (by omega)).trans hP.out
          have ho2 := own_mv ho.out hb2
          have hbr2 := hbr.out.then hb2
          have hal := fun (o : Obj) => (Below.refl w2.heap.size w2).al (Nat.le_refl _) o
          have ho3 := Hd.mk ho2
          have hP3 := Hd.mk hP2
          have hb3 := Hd.mk hbr2
          have hal' := Hd.mk hal
          clear ho2 hP2 hbr2 hal ho hP hbr hb2 hmm
          go_wp2_with (at_builtin; refine app_I rfl _ _ rfl w.heap.size _ out [i0 + 1] rfl ?h1 _ 1 1 rfl (rd_one _ _) ?h2 ?h3 ?h4)
          case h1 => exact own_mv ho3.out (hal'.out _)
          case h2 => omega
          case h3 => simp; omega
          case h4 =>
            intro v' w4 ho4 hg
            have ho3' := own_mv ho3.out (hal'.out (.cells #[.int .i64 (i0 + 1)] 2))
            have hb4 : Below w.heap.size w w4 := below_app (hb3.out.then (hal'.out _)) hg (by simp; omega) ho3' (Nat.le_refl _)
            have hP2 := heap_old (o := .cells #[.int .i64 (i0 + 1)] 2) hP3.out (by omega)
            have hP4 : w4.heap[w.heap.size + 1]? = some (.cells (ps.map Value.string).toArray 9 (0, 0)) := (hg.block _ (by simp; omega) (fun h => own_ne ho3' hP2 (by decide) h.symm)).trans hP2
            have hz4 := hg.size
            simp at hz4
            have hsh := own_shape ho4
            obtain ⟨A', c', rfl, -, -⟩ := hsh
            have ho5 := Hd.mk ho4
            have hP5 := Hd.mk hP4
            have hb5 := Hd.mk hb4
            clear hg ho4 hP4 hb4 hP2 ho3' ho3 hP3 hb3 hal'
            go_wp2
            go_roundw
            case rel => exact ⟨k + 1, out ++ [i0 + 1], A', c', by omega, by go_num, by simp, by omega, by simp; omega, ⟨by simpa using ho5.out⟩, hP5, hstep', hb5⟩
            case measure => simp [intOf]; omega
      · have e : k = ps.length := by omega
        subst e
        have hp' := hp.out
        rw [List.drop_length] at hp'
        have hp2 := Hd.mk (show some out = pOf ps [] from hp')
        clear hp' hp
        go_wp2
        go_ret2
        exact ⟨_, by rw [← hp2.out]; rfl, by rw [← hp2.out]; exact ho.out, hbr.out⟩
end Go.Proofs.YtdnbiohohbnhgaaDoor
