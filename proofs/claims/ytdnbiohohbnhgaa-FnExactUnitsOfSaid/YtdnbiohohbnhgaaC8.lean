/- The contract of PlaceOf. No conditions. -/
import Derived.Test.YtdnbiohohbnhgaaC7
import Derived.Test.YtdnbiohohbnhgaaP1
set_option linter.unusedSimpArgs false
set_option linter.unusedVariables false
namespace Go.Proofs.Ytdnbiohohbnhgaa
open Go.RowKit
theorem c_isId (f : XFunc) (cs : List Value) (id : Int) (w : World) (hf : KFunc lm w f cs) (hc : countOf f ≤ 9223372036854775807) : Calls Try.prog 124 #[.agg cs.toArray, .int .i64 id] w (Ret (.bool (isIdB (countOf f) id)) w) := by
  have hcount := fun W hW => c_CountOf f cs W (KM.mv hf hW)
  have hc0 := countOf_nn f
  obtain ⟨v1, v2, rfl, hp, hb⟩ := hf
  have hbl := fun o => (Below.refl w.heap.size w).al (Nat.le_refl _) o
  have hin := fun n => c_within id 0 n
  clear hp hb
  generalize countOf f = ids at *
  go_enter Try.func124, Try.ntmps124
  go_wp2_with fail
  refine (hcount _ (by first | exact hbl _ | exact Below.refl _ _)).mono ?_; rintro e w1 ⟨rfl, hb1⟩
  go_wp2_with (go_at_call 42; refine (hin _ _).mono ?_; rintro e w' ⟨rfl, rfl⟩)
  go_ret
  exact ⟨rfl, by first | exact hb1 | exact (hbl _).then hb1⟩
set_option maxHeartbeats 2000000 in
theorem c_PlaceOf (f : XFunc) (cs : List Value) (id : Int) (w : World) (hf : KFunc lm w f cs) (hc : countOf f ≤ 1099511627776) :
    Calls Try.prog 92 #[.agg cs.toArray, .int .i64 id] w (Ret (.tuple #[.int .i64 (placeOf f id).1, .int .i64 (placeOf f id).2]) w) := by
  have hid := fun W hW => c_isId f cs id W (KM.mv hf hW) (by omega)
  have hc0 := countOf_nn f
  obtain ⟨v1, v2, rfl, hp, hb⟩ := hf
  have hbd := Hd.mk hb.blocks
  obtain ⟨A1, c1, rfl, -, hl1, -⟩ := hp.sm
  obtain ⟨A2, c2, rfl, -, hl2, hb0⟩ := hb.sm
  have hbl := fun o => (Below.refl w.heap.size w).al (Nat.le_refl _) o
  clear hp hb
  have hR := Hd.mk (placeOf_eq f id)
  have hcd : countOf f = countIn f.params.length f.blocks := rfl
  generalize hq : isIdB (countOf f) id = q at *
  generalize placeOf f id = R at *
  generalize f.params.length = n at *
  generalize f.blocks = l at *
  generalize f.ret = r at *
  cases q with
  | false =>
    have hR2 := hR.out
    simp at hR2
    subst hR2
    clear hq hcd
    go_enter Try.func92, Try.ntmps92
    go_wp2_with (go_at_call 124; refine (hid _ (hbl _)).mono ?_; rintro e w1 ⟨rfl, hb1⟩)
    go_ret2
    exact ⟨rfl, (hbl _).then hb1⟩
  | true =>
    have hid2 : 0 ≤ id ∧ id ≤ countOf f - 1 := by simpa [isIdB, inR] using hq
    obtain ⟨hi0, hi1⟩ := hid2
    have hcd' := Hd.mk hcd
    clear hq hcd
    generalize countOf f = ids at *
    by_cases hlt : id < n
    · have hR2 := hR.out
      simp [hlt] at hR2
      subst hR2
      go_enter Try.func92, Try.ntmps92
      go_wp2_with fail
      refine (hid _ (hbl _)).mono ?_; rintro e w1 ⟨rfl, hb1⟩
      have k0 := bat hb1 w.heap.size (by simp)
      simp at k0
      go_wp2
      go_ret2
      exact ⟨rfl, (hbl _).then hb1⟩
    · have hR2 := Hd.mk hR.out
      clear hR
      replace hR2 := hR2.out
      simp [hlt] at hR2
      have hR := Hd.mk hR2
      clear hR2
      go_enter Try.func92, Try.ntmps92
      go_wp2_with fail
      refine (hid _ (hbl _)).mono ?_; rintro e w1 ⟨rfl, hb1⟩
      have k0 := bat hb1 w.heap.size (by simp)
      simp at k0
      have hbw := Hd.mk ((hbl _).then hb1)
      clear hb1 hid
      go_wp2
      go_loopw [6, 24] (fun s6 s24 wr => ∃ k : Nat, k ≤ l.length ∧ s24 = .int .i64 k ∧ s6 = .int .i64 (countIn n (l.take k)) ∧ Hd (Below w.heap.size w wr) ∧ Hd (R = placeIn (l.drop k) k (countIn n (l.take k)) id) ∧ Hd (countIn n (l.take k) ≤ id)) (fun _ s24 _ => l.length - (intOf s24).toNat)
      case atStart => exact ⟨0, Nat.zero_le _, rfl, by simp [countIn], hbw, ⟨by rw [hR.out]; simp [countIn]⟩, ⟨by simp [countIn]; omega⟩⟩
      case round =>
        obtain ⟨k, hk, rfl, rfl, hbr, hR, hle⟩ := hrel
        have hc1 := countIn_bd n l k hbd.out hk
        have hc2 := countIn_le n (l.take k)
        by_cases hlt : k < l.length
        · obtain ⟨b, off, cs, hA, hbl, ⟨v1, v2, rfl, hr, hr2⟩, hat⟩ := hb0.out.in_ hbr.out k hlt
          cases hA
          have g0 := hat 0 _ rfl
          have g1 := hat 1 _ rfl
          have g2 := hat 2 _ rfl
          have g3 := hat 3 _ rfl
          have g4 := hat 4 _ rfl
          have g5 := hat 5 _ rfl
          clear hat
          simp at g0 g1 g2 g3 g4 g5
          obtain ⟨A1, c1, rfl, -, hl3, -⟩ := hr.sm
          obtain ⟨A2, c2, rfl, -, hl4, -⟩ := hr2.sm
          have hsn := Hd.mk (countIn_snoc n l k hlt)
          have hdr := Hd.mk (placeIn_drop l k hlt (countIn n (l.take k)) id)
          have hsz := Hd.mk (show sizeB l[k] = l[k].phis.length + l[k].insts.length from rfl)
          have hle' := hle.out
          generalize countIn n (l.take k) = s at *
          have hb1 := hbr.out.size
          by_cases hin : id < s + (l[k].phis.length + l[k].insts.length)
          · have hR2 := hR.out
            rw [hdr.out, if_pos (by rw [hsz.out]; exact hin)] at hR2
            subst hR2
            go_wp2
            go_ret2
            exact ⟨rfl, hbr.out.al hb1 _⟩
          · go_wp2
            go_roundw
            case rel =>
              refine ⟨k + 1, by omega, by go_num, by rw [hsn.out, hsz.out], ⟨hbr.out.al hb1 _⟩, ⟨?_⟩, ⟨?_⟩⟩
              · rw [hR.out, hdr.out, if_neg (by rw [hsz.out]; exact hin), hsn.out]
              · rw [hsn.out, hsz.out]; omega
            case measure => simp [intOf]; omega
        · exfalso
          have e : k = l.length := by omega
          subst e
          rw [List.take_length] at hle
          have := hle.out
          rw [← hcd'.out] at this
          omega
end Go.Proofs.Ytdnbiohohbnhgaa
