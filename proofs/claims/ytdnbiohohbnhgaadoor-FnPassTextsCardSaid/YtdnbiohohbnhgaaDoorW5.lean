/- Contracts of the reference's l18Ok and PassText. No conditions. -/
import Derived.Test.YtdnbiohohbnhgaaDoorW4
import Derived.Deep.RegionWith
set_option linter.unusedSimpArgs false
set_option linter.unusedVariables false
namespace Go.Proofs.YtdnbiohohbnhgaaDoor
open Go.RowKit
theorem s_l18Ok (v : Value) (l : List Int) (w : World) (hv : RI lm w v l) : Calls Tryd.prog 23 #[v] w (Same (.bool (okP l)) w) := by
  obtain ⟨A, c, rfl, -, hl, hv0⟩ := hv.sm
  clear hv
  have hok : Hd (okP l = (decide (l.length ≤ 12) && (l.drop 0).all fun p => inR p 1 9)) := ⟨rfl⟩
  generalize okP l = R at *
  go_enter Tryd.func23, Tryd.ntmps23
  go_wp2
  go_loopw [3] (fun s2 wr => ∃ k : Nat, k ≤ l.length ∧ s2 = .int .i64 k ∧ wr = w ∧ Hd (R = (decide (l.length ≤ 12) && (l.drop k).all fun p => inR p 1 9))) (fun s2 _ => l.length - (intOf s2).toNat)
  case atStart => exact ⟨0, Nat.zero_le _, rfl, rfl, hok⟩
  case round =>
    clear hok
    obtain ⟨k, hk, rfl, rfl, hR⟩ := hrel
    by_cases hlt : k < l.length
    · obtain ⟨b, off, cs, hA, hbl, hk1, hat⟩ := hv0.out.in0 (Below.refl _ wr) k hlt
      cases hA
      cases hk1
      have g0 := hat 0 _ rfl
      simp at g0
      clear hat
      have hst := hR.out
      rw [List.drop_eq_getElem_cons hlt, List.all_cons] at hst
      have hin := fun W => s_l1In l[k] 1 9 W
      generalize l[k] = p at *
      cases hp : inR p 1 9
      · rw [hp] at hst hin
        have hst' := Hd.mk (show R = false by simpa using hst)
        clear hst hp hR
        go_wp2_with fail
        refine (hin _).mono ?_; rintro e w1 ⟨rfl, rfl⟩
        go_wp2
        go_ret
        exact ⟨by rw [hst'.out]; rfl, rfl⟩
      · rw [hp] at hst hin
        have hst' := Hd.mk (show R = (decide (l.length ≤ 12) && (l.drop (k + 1)).all fun p => inR p 1 9) by simpa using hst)
        clear hst hp hR
        go_wp2_with fail
        refine (hin _).mono ?_; rintro e w1 ⟨rfl, rfl⟩
        go_wp2
        go_roundw
        case rel => exact ⟨k + 1, by omega, by go_num, by trivial, hst'⟩
        case measure => simp [intOf]; omega
    · have e : k = l.length := by omega
      subst e
      have hst' := Hd.mk (show R = decide (l.length ≤ 12) by have := hR.out; simpa using this)
      clear hR
      by_cases h : l.length ≤ 12
      · have hd : decide ((l.length : Int) ≤ 12) = true := by simp; omega
        rw [decide_eq_true h] at hst'
        go_wp2
        go_ret
        exact ⟨by rw [hst'.out]; rfl, rfl⟩
      · have hd : decide ((l.length : Int) ≤ 12) = false := by simp; omega
        rw [decide_eq_false h] at hst'
        go_wp2
        go_ret
        exact ⟨by rw [hst'.out]; rfl, rfl⟩
theorem wordOf_size (p : Int) : (wordOf p).size ≤ 7 := by have := wordOf_le p; simpa using this
theorem textOf_size (l : List Int) (h : l.length ≤ 12) : (textOf l).size ≤ 140737488355328 := by have := text_le l h; unfold textOf; show (_ : List UInt8).toArray.size ≤ _; rw [List.size_toArray]; exact this
theorem textOf_nil : textOf [] = ⟨#[]⟩ := rfl
theorem bytes_ext {a b : ByteArray} (h : a.data.toList = b.data.toList) : a = b := ByteArray.ext (Array.toList_inj.1 h)
theorem textOf_one (p : Int) : textOf [p] = wordOf p := by
  apply bytes_ext
  simp [textOf, Lib.join_one]
theorem textOf_step (l : List Int) (k : Nat) (h0 : 0 < k) (hk : k < l.length) : textOf (l.take (k + 1)) = textOf (l.take k) ++ comma ++ wordOf l[k] := by
  apply bytes_ext
  cases l with
  | nil => simp at hk
  | cons p r =>
    obtain ⟨k, rfl⟩ : ∃ j, k = j + 1 := ⟨k - 1, by omega⟩
    simp only [List.length_cons] at hk
    have hk' : k < r.length := by omega
    have h := Lib.joinTail_take_succ comma.data.toList ((r.map wordOf).map (·.data.toList)) k (wordOf r[k]).data.toList (by simp [hk'])
    simp only [textOf, List.take_succ_cons, List.map_cons, Lib.join_cons, List.map_take, List.getElem_cons_succ, ByteArray.data_append, Array.toList_append]
    rw [h]
    simp
theorem undrew {w w' : World} (h : Below w.drew.heap.size w.drew w') : Below w.heap.size w w' := ⟨h.os, h.tape, h.output, h.size, h.block⟩
set_option maxHeartbeats 4000000 in
theorem s_PassText (v : Value) (l : List Int) (w : World) (hv : RI lm w v l) : Calls Tryd.prog 11 #[v] w (Ret (.string (passText l)) w) := by
  have hok := fun W (hb : Below w.heap.size w W) => s_l18Ok v l W (hv.mv hb)
  obtain ⟨A, c, rfl, -, hl, hv0⟩ := hv.sm
  clear hv
  cases hR : okP l
  · have hp : passText l = ⟨#[]⟩ := by unfold passText; rw [hR]; rfl
    rw [hp]
    rw [hR] at hok
    have h0 : 0 < l.length := by
      cases l with
      | nil => cases hR
      | cons _ _ => simp
    clear hp hR
    go_enter Tryd.func11, Tryd.ntmps11
    go_wp2
    go_loopw [3, 4] (fun s1 s2 wr => s2 = .int .i64 0 ∧ s1 = .string ⟨#[]⟩ ∧ wr = w) (fun _ _ _ => 0)
    case atStart => exact ⟨rfl, rfl, rfl⟩
    case round =>
      obtain ⟨rfl, rfl, rfl⟩ := hrel
      have hh := hok wr (Below.refl _ _)
      clear hok
      go_wp2_with fail
      refine hh.mono ?_; rintro e w1 ⟨rfl, rfl⟩
      go_wp2
      go_ret
      exact ⟨rfl, Below.refl _ _⟩
  · have hp : passText l = textOf l := by unfold passText; rw [hR]; rfl
    rw [hp]
    rw [hR] at hok
    have hin : ∀ i (h : i < l.length), 1 ≤ l[i] ∧ l[i] ≤ 9 := fun i h => by
      unfold okP at hR
      simp only [Bool.and_eq_true, List.all_eq_true] at hR
      have := hR.2 l[i] (List.getElem_mem h)
      unfold inR at this
      simpa using this
    have hl12 : l.length ≤ 12 := by unfold okP at hR; simp at hR; exact hR.1
    have hin' := Hd.mk hin
    have hok' := Hd.mk hok
    clear hp hR hin hok
    go_enter Tryd.func11, Tryd.ntmps11
    go_wp2
    go_loopw [3, 4] (fun s1 s2 wr => ∃ k : Nat, k ≤ l.length ∧ s2 = .int .i64 k ∧ s1 = .string (textOf (l.take k)) ∧ Hd (Below w.heap.size w wr)) (fun _ s2 _ => l.length - (intOf s2).toNat)
    case atStart => exact ⟨0, Nat.zero_le _, rfl, rfl, ⟨Below.refl _ _⟩⟩
    case round =>
      obtain ⟨k, hk, rfl, rfl, hbr⟩ := hrel
      by_cases hlt : k < l.length
      · obtain ⟨b, off, cs, hA, hbl, hk1, hat⟩ := hv0.out.in0 hbr.out k hlt
        cases hA
        cases hk1
        have g0 := hat 0 _ rfl
        simp at g0
        clear hat
        have hp := hin'.out k hlt
        have hh := hok'.out wr hbr.out
        have hz0 := textOf_size (l.take k) (by simp; omega)
        have hzw := wordOf_size l[k]
        have hts := fun h => textOf_step l k h hlt
        have ht1 := fun (h : k = 0) => show textOf (l.take (k + 1)) = wordOf l[k] by
          subst h; rw [List.take_one]; cases l with
          | nil => simp at hlt
          | cons p r => exact textOf_one p
        have ht0 := fun (h : k = 0) => show textOf (l.take k) = ⟨#[]⟩ by subst h; rfl
        generalize hT1 : textOf (l.take (k + 1)) = t1 at *
        have hT := Hd.mk hT1
        clear hT1
        generalize textOf (l.take k) = t0 at *
        have hwd : (words10.map Value.string).toArray[l[k].toNat]? = some (.string (wordOf l[k])) := by
          have h10 : l[k].toNat < words10.length := by show l[k].toNat < 10; omega
          obtain ⟨j, hj⟩ : ∃ j, l[k].toNat = j + 1 := ⟨l[k].toNat - 1, by omega⟩
          have h9 : j < words9.length := by show j < 9; omega
          unfold wordOf
          rw [show (l[k] - 1).toNat = j by omega, hj]
          rw [List.getElem?_toArray, List.getElem?_map, List.getD_eq_getElem?_getD, List.getElem?_eq_getElem h9]
          show (words10[j + 1]?).map Value.string = _
          unfold words10
          rw [List.getElem?_cons_succ, List.getElem?_eq_getElem h9]; rfl
        generalize wordOf l[k] = wd at *
        generalize l[k] = p at *
        have y1 : (0 : Int) ≤ p := by omega
        have y2 : p < 10 := by omega
        by_cases h0 : k = 0
        · have hgt : decide (0 < k) = false := by simp; omega
          have e1 := Hd.mk (show t0 ++ wd = t1 by rw [ht0 h0, ht1 h0]; apply bytes_ext; simp)
          clear hts ht1 ht0 h0
          go_wp2_with fail
          refine hh.mono ?_; rintro e w1 ⟨rfl, rfl⟩
          go_wp2_with fail
          go_region_with
            ((go_at_call 18
              refine (c_l18Words _).mono ?_; rintro e w2 ⟨rfl, hw2⟩
              have hh2 : w2.heap[wr.heap.size]? = some (.cells (words10.map Value.string).toArray 9 (0, 0)) := by rw [hw2]; exact heap_new _ _ _ _ rfl
              have hb2 : Below wr.heap.size wr w2 := undrew (by rw [hw2]; exact (Below.refl _ _).al (Nat.le_refl _) _)
              have g1 := ((row_facts hh2).1 p.toNat).trans hwd
              have g2 := (bat hb2 b (by have := hbr.out.size; omega) (off + k)).trans g0
              have hb3 := Hd.mk (hbr.out.then hb2)
              clear hw2 hh2 hb2))
          all_goals
            go_wp2
            go_roundw
            case rel => exact ⟨k + 1, by omega, by go_num, by rw [hT.out, ← e1.out], hb3⟩
            case measure => simp [intOf]; omega
        · have hgt : decide (0 < k) = true := by simp; omega
          have e1 := Hd.mk (show t0 ++ ⟨#[44]⟩ ++ wd = t1 from (hts (by omega)).symm)
          have hzc : (t0 ++ ⟨#[44]⟩).size = t0.size + 1 := by rw [ByteArray.size_append]; rfl
          have hzz : (⟨#[44]⟩ : ByteArray).size = 1 := rfl
          clear hts ht1 ht0 h0
          go_wp2_with fail
          refine hh.mono ?_; rintro e w1 ⟨rfl, rfl⟩
          go_wp2_with fail
          go_region_with
            ((go_at_call 18
              refine (c_l18Words _).mono ?_; rintro e w2 ⟨rfl, hw2⟩
              have hh2 : w2.heap[wr.heap.size]? = some (.cells (words10.map Value.string).toArray 9 (0, 0)) := by rw [hw2]; exact heap_new _ _ _ _ rfl
              have hb2 : Below wr.heap.size wr w2 := undrew (by rw [hw2]; exact (Below.refl _ _).al (Nat.le_refl _) _)
              have g1 := ((row_facts hh2).1 p.toNat).trans hwd
              have g2 := (bat hb2 b (by have := hbr.out.size; omega) (off + k)).trans g0
              have hb3 := Hd.mk (hbr.out.then hb2)
              clear hw2 hh2 hb2))
          all_goals
            go_wp2
            go_roundw
            case rel => exact ⟨k + 1, by omega, by go_num, by rw [hT.out, ← e1.out], hb3⟩
            case measure => simp [intOf]; omega
      · have e : k = l.length := by omega
        subst e
        rw [List.take_length]
        go_wp2
        go_ret
        exact ⟨rfl, hbr.out⟩
end Go.Proofs.YtdnbiohohbnhgaaDoor
