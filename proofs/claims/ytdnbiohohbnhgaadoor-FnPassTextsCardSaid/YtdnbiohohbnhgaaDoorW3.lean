/- Contracts of the reference's l18Words, l1Cut and PassesOf. No conditions. -/
import Derived.Test.YtdnbiohohbnhgaaDoorW2
import Derived.Deep.QuietTactic
import Derived.BigQuiet
set_option linter.unusedSimpArgs false
set_option linter.unusedVariables false
namespace Go.Proofs.YtdnbiohohbnhgaaDoor
open Go.RowKit
def words10 : List ByteArray := ⟨#[]⟩ :: words9
theorem c_l18Words (w : World) : Calls Tryd.prog 18 #[] w (fun e w' => e = .returned (.slice (some ⟨w.heap.size, 0, none⟩) 10 10) ∧ w' = w.alloc (.cells (words10.map Value.string).toArray 9)) := by
  go_enter Tryd.func18, Tryd.ntmps18
  go_wp2
  go_ret
  exact ⟨rfl, rfl⟩
theorem idxFrom_get (x : ByteArray) : ∀ (zs : List ByteArray) (i j : Nat), Lib.idxFromS zs x i = ((i + j : Nat) : Int) → zs[j]? = some x
  | [], i, j, h => by unfold Lib.idxFromS at h; omega
  | z :: zs, i, j, h => by
    unfold Lib.idxFromS at h
    split at h
    · rename_i hz
      obtain rfl : j = 0 := by omega
      rw [hz]; rfl
    · rcases idxFrom_rng x zs (i + 1) with h1 | ⟨h1, h2⟩
      · omega
      · obtain ⟨j', rfl⟩ : ∃ j', j = j' + 1 := ⟨j - 1, by omega⟩
        exact idxFrom_get x zs (i + 1) j' (by rw [h]; congr 1; omega)
theorem idxW_iff (x : ByteArray) (j : Nat) (hj : j < 9) : words9[j]? = some x ↔ idxW x = j := by
  have h : ∀ y : ByteArray, words9[j]? = some y → idxW y = j := by
    intro y hy
    match j, hj with
    | 0, _ => cases hy; decide
    | 1, _ => cases hy; decide
    | 2, _ => cases hy; decide
    | 3, _ => cases hy; decide
    | 4, _ => cases hy; decide
    | 5, _ => cases hy; decide
    | 6, _ => cases hy; decide
    | 7, _ => cases hy; decide
    | 8, _ => cases hy; decide
  exact ⟨h x, fun e => idxFrom_get x words9 0 j (by rw [Nat.zero_add]; exact e)⟩
set_option maxHeartbeats 1000000 in
theorem c_l1Cut (s : ByteArray) (w : World) (hs : s.size ≤ 1048576) : Calls Tryd.prog 19 #[.string s, .int .u8 44] w (Ret (.tuple #[.string (cutOf s).1, .string (cutOf s).2.1, .bool (cutOf s).2.2]) w) := by
  have hidx := Hd.mk (index_comma s)
  obtain ⟨R, hR⟩ : ∃ R, R = cutOf s := ⟨_, rfl⟩
  rw [← hR]
  have hR' := Hd.mk hR
  clear hR
  go_enter Tryd.func19, Tryd.ntmps19
  go_wp2
  go_loopw [7] (fun s7 wr => ∃ k : Nat, k ≤ s.size ∧ s7 = .int .i64 k ∧ Hd (∀ j (h : j < s.size), j < k → s[j] ≠ 44) ∧ Hd (Below w.heap.size w wr)) (fun s7 _ => s.size - (intOf s7).toNat)
  case atStart => exact ⟨0, Nat.zero_le _, rfl, ⟨fun _ _ h => absurd h (Nat.not_lt_zero _)⟩, ⟨Below.refl _ _⟩⟩
  case round =>
    obtain ⟨k, hk, rfl, hno, hbr⟩ := hrel
    by_cases hlt : k < s.size
    · by_cases h44 : s[k] = 44
      · have hi : Lib.indexB s comma = k := by
          rcases hidx.out with ⟨h1, h2⟩ | ⟨i, h1, h2, h3, h4⟩
          · exact absurd h44 (h2 k hlt)
          · rcases Nat.lt_trichotomy i k with h | h | h
            · exact absurd h3 (hno.out i h2 h)
            · rw [h1, h]
            · exact absurd h44 (h4 k h)
        have hc : R = (s.extract 0 k, s.extract (k + 1) s.size, true) := by
          rw [hR'.out]; unfold cutOf; rw [hi, if_neg (by omega)]; simp
        subst hc
        have ht : ((s[k].toNat : Int) == 44) = true := by rw [h44]; rfl
        clear hi h44 hR'
        have b0 : (0 : Int) ≤ (k : Int) := by omega
        have b1 : (k : Int) ≤ (s.size : Int) := by omega
        have b2 : (k : Int) + 1 ≤ (s.size : Int) := by omega
        have hw : IntKind.i64.wrap ((k : Int) + 1) = (k : Int) + 1 := IntWalk.i64_in _ (by omega)
        have hn : ((k : Int) + 1).toNat = k + 1 := by omega
        go_wp2
        go_quiet (fail)
        go_wp2
        go_ret3
        exact ⟨rfl, below_drewN hbr.out _⟩
      · have ht : ((s[k].toNat : Int) == 44) = false := by
          have : ¬ s[k].toNat = 44 := fun e => h44 (UInt8.toNat_inj.1 (by simpa using e))
          simp; omega
        have hno' := Hd.mk (show ∀ j (h : j < s.size), j < k + 1 → s[j] ≠ 44 from fun j h hj => by
          by_cases e : j = k
          · subst e; exact h44
          · exact hno.out j h (by omega))
        clear h44 hno hidx hR'
        go_wp2
        go_roundw
        case rel => exact ⟨k + 1, by omega, by go_num, hno', hbr⟩
        case measure => simp [intOf]; omega
    · have hi : Lib.indexB s comma = -1 := by
        rcases hidx.out with ⟨h1, h2⟩ | ⟨i, h1, h2, h3, h4⟩
        · exact h1
        · exact absurd h3 (hno.out i h2 (by omega))
      have hc : R = (s, ⟨#[]⟩, false) := by rw [hR'.out]; unfold cutOf; rw [if_pos hi]
      subst hc
      have e : k = s.size := by omega
      subst e
      clear hi hR' hidx hno
      go_wp2
      go_ret3
      exact ⟨rfl, hbr.out⟩
theorem parts_cut (s : ByteArray) : parts s = (cutOf s).1 :: (if (cutOf s).2.2 then parts (cutOf s).2.1 else []) := by
  unfold cutOf
  rcases index_comma s with ⟨h, _⟩ | ⟨i, h, _⟩
  · rw [if_pos h, parts_miss s h]; rfl
  · rw [if_neg (by omega), parts_hit s i h, h]; simp
theorem cut_size (s : ByteArray) : (cutOf s).1.size ≤ s.size ∧ (cutOf s).2.1.size ≤ s.size := by
  unfold cutOf
  split
  · exact ⟨Nat.le_refl _, Nat.zero_le _⟩
  · simp; omega
/-- What the reference's loop still owes. -/
def owed (rest : ByteArray) (more : Bool) (out : List Int) : Option (List Int) := if 12 < out.length then none else if more then pOf (parts rest) out else some out
theorem owed_step (rest : ByteArray) (out : List Int) (h : out.length ≤ 12) (hi : ¬ idxW (cutOf rest).1 < 0) : owed rest true out = owed (cutOf rest).2.1 (cutOf rest).2.2 (out ++ [idxW (cutOf rest).1 + 1]) := by
  unfold owed
  rw [if_neg (by omega), if_pos rfl, parts_cut, pOf_cons]
  by_cases h12 : out.length = 12
  · have h13 : 12 < (out ++ [idxW (cutOf rest).1 + 1]).length := by simp; omega
    rw [if_pos (Or.inr h12), if_pos h13]
  · have h13 : ¬ 12 < (out ++ [idxW (cutOf rest).1 + 1]).length := by simp; omega
    have h14 : ¬ (idxW (cutOf rest).1 < 0 ∨ out.length = 12) := fun h => h.elim hi h12
    rw [if_neg h14, if_neg h13]
    cases (cutOf rest).2.2 <;> rfl
theorem owed_none (rest : ByteArray) (out : List Int) (h : out.length ≤ 12) (hi : idxW (cutOf rest).1 < 0) : owed rest true out = none := by
  unfold owed
  rw [if_neg (by omega), if_pos rfl, parts_cut, pOf_cons, if_pos (.inl hi)]
theorem owed_start (s : ByteArray) : passesOf s = owed s (!decide (s.size = 0)) [] := by
  unfold passesOf owed
  by_cases h : s.size = 0 <;> simp [h]
def lenOf : Value → Nat
  | .slice _ n _ => n
  | _ => 0
/-- What the look through the words has found when k of them are looked at. -/
def seen (i0 : Int) (k : Nat) : Int := if i0 + 1 < k then i0 + 1 else 0
theorem seen_step (i0 : Int) (k : Nat) (h : 1 ≤ k) (hr : i0 = -1 ∨ 0 ≤ i0) : seen i0 (k + 1) = if i0 = (k : Int) - 1 then (k : Int) else seen i0 k := by
  unfold seen; split <;> split <;> (try split) <;> omega
theorem word_at (k : Nat) (h1 : 1 ≤ k) (h : k < 10) : ∃ wd, (words10.map Value.string).toArray[k]? = some (.string wd) ∧ words9[k - 1]? = some wd := by
  obtain ⟨j, rfl⟩ : ∃ j, k = j + 1 := ⟨k - 1, by omega⟩
  have hl : j < words9.length := by show j < 9; omega
  exact ⟨words9[j], by simp [words10, hl], by simp [hl]⟩
theorem bytes_beq (a b : ByteArray) : (a.toList == b.toList) = decide (a = b) := by
  rw [Lib.toList_data, Lib.toList_data]
  by_cases h : a = b
  · subst h; simp
  · have : ¬ a.data.toList = b.data.toList := fun e => h (ByteArray.ext (Array.toList_inj.1 e))
    rw [decide_eq_false h, beq_eq_false_iff_ne]; exact this
set_option maxHeartbeats 4000000 in
theorem s_PassesOf (s : ByteArray) (w : World) (hs : s.size ≤ 1048576) : Calls Tryd.prog 6 #[.string s] w (RetO (passesOf s) w) := by
  have ht := empty_iff s
  rw [owed_start]
  generalize decide (s.size = 0) = e0 at *
  generalize hR : owed s (!e0) [] = R
  have hR' := Hd.mk hR
  clear hR
  go_enter Tryd.func6, Tryd.ntmps6
  go_wp2_with fail
  refine (c_l18Words _).mono ?_; rintro e w1 ⟨rfl, hw1⟩
  have hP1 : w1.heap[w.heap.size + 1]? = some (.cells (words10.map Value.string).toArray 9 (0, 0)) := by
    rw [hw1]; exact heap_new _ _ _ _ (by simp)
  have hb1 : Below w.heap.size w w1 := by rw [hw1]; exact ((Below.refl _ _).al (Nat.le_refl _) _).al (by first | (simp; done) | (simp; omega)) _
  have hz1 : w.heap.size + 2 ≤ w1.heap.size := by rw [hw1]; simp
  have ho1 : w1.ownsRow w.heap.size 2 1 (.slice (some ⟨w.heap.size, 0, none⟩) 0 0) 0 [] := by
    rw [hw1]
    exact own_mv (own_empty w w.heap.size w.heap.size 2 1 rfl (Nat.le_refl _)) ((Below.refl _ _).al (Nat.le_refl _) _)
  clear hw1
  have hP := Hd.mk hP1
  have ho := Hd.mk ho1
  have hbb := Hd.mk hb1
  clear hP1 ho1 hb1
  go_wp2
  go_loopw [4, 5, 7] (fun s4 s5 s7 wr => ∃ (out : List Int) (A : Option Addr) (c : Nat) (rest : ByteArray) (more : Bool), s4 = .slice A out.length c ∧ s5 = .string rest ∧ s7 = .bool more ∧ out.length ≤ 13 ∧ rest.size ≤ 1048576 ∧ w.heap.size + 2 ≤ wr.heap.size ∧ Hd (wr.ownsRow w.heap.size 2 1 (.slice A out.length c) out.length (out.map (Value.int .i64))) ∧ Hd (wr.heap[w.heap.size + 1]? = some (.cells (words10.map Value.string).toArray 9 (0, 0))) ∧ Hd (owed rest more out = R) ∧ Hd (Below w.heap.size w wr)) (fun s4 _ _ _ => 14 - lenOf s4)
  case atStart => exact ⟨[], _, _, s, !e0, rfl, rfl, by simp [ht], by simp, hs, hz1, ho, hP, hR', hbb⟩
  case round =>
    clear ho hP hbb hz1 hR' ht
    obtain ⟨out, A, c, rest, more, rfl, rfl, rfl, hl13, hsz, hz, ho, hP, hp, hbr⟩ := hrel
    by_cases hmore : more = true ∧ out.length ≤ 12
    · obtain ⟨rfl, hl12⟩ := hmore
      have hle : decide ((out.length : Int) ≤ 12) = true := by simp; omega
      obtain ⟨wo, rfl⟩ : ∃ wo : World, wo = wr := ⟨_, rfl⟩
      have hcut := c_l1Cut rest wo hsz
      have hcs := cut_size rest
      have hst := fun hi => owed_step rest out hl12 hi
      have hno := fun hi => owed_none rest out hl12 hi
      have hrng := idxW_rng (cutOf rest).1
      have hiff := fun j hj => idxW_iff (cutOf rest).1 j hj
      generalize cutOf rest = cut at *
      obtain ⟨one, rest', more'⟩ := cut
      simp only at hcut hcs hst hno hrng hiff
      generalize idxW one = i0 at *
      have hiff' := Hd.mk hiff
      have hst' := Hd.mk hst
      have hno' := Hd.mk hno
      clear hiff hst hno
      go_wp2_with fail
      refine hcut.mono ?_; rintro e w2 ⟨rfl, hb2⟩
      have hz2 : w.heap.size + 2 ≤ w2.heap.size := Nat.le_trans hz hb2.size
      have hP2 := Hd.mk ((hb2.block _ (by omega)).trans hP.out)
      have ho2 := Hd.mk (own_mv ho.out hb2)
      have hbr2 := Hd.mk (hbr.out.then hb2)
      clear hcut hb2 ho hP hbr hz
      go_wp2
      go_loopw [9, 10] (fun s9 s10 wi => ∃ k : Nat, 1 ≤ k ∧ k ≤ 10 ∧ s10 = .int .i64 k ∧ s9 = .int .i64 (seen i0 k) ∧ Hd (Below w2.heap.size w2 wi)) (fun _ s10 _ => 10 - (intOf s10).toNat)
      case atStart => exact ⟨1, by omega, by omega, rfl, by unfold seen; congr 1; split <;> omega, ⟨Below.refl _ _⟩⟩
      case round =>
        obtain ⟨k, hk1, hk, rfl, rfl, hbi⟩ := hrel
        by_cases hlt : k < 10
        · have hsn := seen_step i0 k hk1 (by omega)
          have hii := hiff'.out (k - 1) (by omega)
          have hh := (hbi.out.block _ (by omega)).trans hP2.out
          have g0 := (row_facts hh).1 k
          obtain ⟨wd, hgk, hwk⟩ := word_at k hk1 hlt
          rw [hgk] at g0
          rw [hwk] at hii
          clear hgk hh hwk
          have hbe := bytes_beq wd one
          have hn0 : 0 ≤ seen i0 k := by unfold seen; split <;> omega
          have hn9 : seen i0 k ≤ 9 := by unfold seen; split <;> omega
          generalize seen i0 k = n at *
          generalize hn1 : seen i0 (k + 1) = n1 at *
          have hn1' := Hd.mk hn1
          clear hn1
          by_cases he : i0 = (k : Int) - 1
          · rw [if_pos he] at hsn
            have hwd : wd = one := by have := hii.2 (by omega); simpa using this
            subst hwd
            clear hii he
            subst hsn
            rw [decide_eq_true rfl] at hbe
            go_wp2
            go_roundw
            case rel => exact ⟨k + 1, by omega, by omega, by go_num, by rw [hn1'.out], hbi⟩
            case measure => simp [intOf]; omega
          · rw [if_neg he] at hsn
            have hwd : ¬ wd = one := fun h => by
              have := hii.1 (by rw [h])
              omega
            rw [decide_eq_false hwd] at hbe
            clear hwd
            clear hii he
            subst hsn
            go_wp2
            go_roundw
            case rel => exact ⟨k + 1, by omega, by omega, by go_num, by rw [hn1'.out], hbi⟩
            case measure => simp [intOf]; omega
        · have e : k = 10 := by omega
          subst e
          have hse : seen i0 10 = i0 + 1 := by unfold seen; rw [if_pos (by omega)]
          rw [hse]
          clear hse hiff' hk1 hk hlt
          have hbr3 := Hd.mk (hbr2.out.then hbi.out)
          have hP3 := Hd.mk ((hbi.out.block _ (by omega)).trans hP2.out)
          have ho3 := Hd.mk (own_mv ho2.out hbi.out)
          have hz3 : w.heap.size + 2 ≤ wr.heap.size := Nat.le_trans hz2 hbi.out.size
          clear hbr2 hP2 ho2 hbi hz2
          by_cases hneg : i0 < 0
          · have hRn := Hd.mk ((hno'.out hneg).symm.trans hp.out)
            have e0' : ((i0 + 1 : Int) == 0) = true := by simp; omega
            clear hno' hst' hp hrng
            go_wp2
            go_ret2
            exact ⟨_, by rw [← hRn.out]; rfl, by rw [← hRn.out]; exact ownI_nil _ _, hbr3.out⟩
          · have hRs := Hd.mk ((hst'.out (by omega)).symm.trans hp.out)
            have e0' : ((i0 + 1 : Int) == 0) = false := by simp; omega
            have hi0 : 0 ≤ i0 := by omega
            have hi9 : i0 < 9 := by omega
            have hal' := Hd.mk fun (o : Obj) => (Below.refl wr.heap.size wr).al (Nat.le_refl _) o
            clear hno' hst' hp hrng hneg
            go_wp2_with (at_builtin; refine app_I rfl _ _ rfl w.heap.size _ out [i0 + 1] rfl ?h1 _ 1 1 rfl (rd_one _ _) ?h2 ?h3 ?h4)
            case h1 => exact own_mv ho3.out (hal'.out _)
            case h2 => omega
            case h3 => simp; omega
            case h4 =>
              intro v' w4 ho4 hg
              have ho3' := own_mv ho3.out (hal'.out (.cells #[.int .i64 (i0 + 1)] 2))
              have hb4 : Below w.heap.size w w4 := below_app (hbr3.out.then (hal'.out _)) hg (by simp; omega) ho3' (Nat.le_refl _)
              have hP2 := heap_old (o := .cells #[.int .i64 (i0 + 1)] 2) hP3.out (by omega)
              have hP4 : w4.heap[w.heap.size + 1]? = some (.cells (words10.map Value.string).toArray 9 (0, 0)) := (hg.block _ (by simp; omega) (fun h => own_ne ho3' hP2 (by decide) h.symm)).trans hP2
              have hz4 := hg.size
              simp at hz4
              obtain ⟨A', c', rfl, -, -⟩ := own_shape ho4
              have ho5 := Hd.mk ho4
              have hP5 := Hd.mk hP4
              have hb5 := Hd.mk hb4
              clear hg ho4 hP4 hb4 hP2 ho3' ho3 hP3 hbr3 hal'
              go_wp2
              go_roundw
              case rel => exact ⟨out ++ [i0 + 1], A', c', rest', more', by simp, rfl, rfl, by simp; omega, by omega, by omega, ⟨by simpa using ho5.out⟩, hP5, hRs, hb5⟩
              case measure => simp [lenOf]; omega
    · have hRf : R = if 12 < out.length then none else some out := by
        rw [← hp.out]; unfold owed
        by_cases h12 : 12 < out.length
        · rw [if_pos h12, if_pos h12]
        · have : more = false := by cases more <;> simp_all
          rw [if_neg h12, if_neg h12, this]; rfl
      have hRf' := Hd.mk hRf
      clear hRf hp
      by_cases h12 : 12 < out.length
      · have hle : decide ((out.length : Int) ≤ 12) = false := by simp; omega
        have hgt : decide ((12 : Int) < out.length) = true := by simp; omega
        have hRn := Hd.mk (show R = none by rw [hRf'.out, if_pos h12])
        clear hRf' hmore
        cases more
        all_goals
          go_wp2
          go_ret2
          exact ⟨_, by rw [hRn.out]; rfl, by rw [hRn.out]; exact ownI_nil _ _, hbr.out⟩
      · have hm : more = false := by cases more <;> simp_all
        subst hm
        have hgt : decide ((12 : Int) < out.length) = false := by simp; omega
        have hRn := Hd.mk (show R = some out by rw [hRf'.out, if_neg h12])
        clear hRf' hmore
        go_wp2
        go_ret2
        exact ⟨_, by rw [hRn.out]; rfl, by rw [hRn.out]; exact ho.out, hbr.out⟩
end Go.Proofs.YtdnbiohohbnhgaaDoor
