/- The contract of unitsOf. No conditions. -/
import Derived.Test.YtdnbiohohbnhgaaC10
set_option linter.unusedSimpArgs false
set_option linter.unusedVariables false
namespace Go.Proofs.Ytdnbiohohbnhgaa
open Go.RowKit
theorem units_snoc (f : XFunc) (k : Nat) : (upTo (k + 1)).filter (isUnit f) = (upTo k).filter (isUnit f) ++ (if isUnit f k then [(k : Int)] else []) := by
  rw [upTo_succ, List.filter_append]
  congr 1
  cases h : isUnit f k <;> simp [h]
theorem upTo_len (n : Nat) : (upTo n).length = n := by simp [upTo]
theorem filt_le {α : Type} (p : α → Bool) (l : List α) : (l.filter p).length ≤ l.length := List.length_filter_le p l
theorem own_block_ge {w : World} {base e sz n : Nat} {v : Value} {cs : List Value} (h : w.ownsRow base e sz v n cs) : ∀ k, v.ownBlock = some k → base ≤ k := by
  intro k hk
  rcases h.2 with ⟨rfl, _⟩ | ⟨g, cap, cur, rfl, h, _⟩
  · simp [Value.ownBlock] at hk
  · simp only [Value.ownBlock, Option.some.injEq] at hk; omega
theorem own_lower {w : World} {base base' e sz n : Nat} {v : Value} {cs : List Value} (h : w.ownsRow base e sz v n cs) (hb : base' ≤ base) : w.ownsRow base' e sz v n cs := by
  refine ⟨h.1, ?_⟩
  rcases h.2 with h' | ⟨g, cap, cur, hv, h1, h2⟩
  · exact .inl h'
  · exact .inr ⟨g, cap, cur, hv, Nat.le_trans hb h1, h2⟩
/-- A cell of a block that an append did not write. -/
theorem grown_cell {W w' : World} {row : Option Nat} (hg : W.grownBy w' row) {b : Nat} (hb : b < W.heap.size) (hne : row ≠ some b) (o : Nat) : w'.cell? ⟨b, o, none⟩ = W.cell? ⟨b, o, none⟩ :=
  World.cell?_of_block (w := W) (w' := w') (a := ⟨b, o, none⟩) (hg.block b hb fun e => hne (by first | exact e | exact e.symm))
theorem own_empty (W : World) (base g e sz : Nat) (hg : g = W.heap.size) (hb : base ≤ W.heap.size) : (W.alloc (.cells #[] e)).ownsRow base e sz (.slice (some ⟨g, 0, none⟩) 0 0) 0 [] := by
  subst hg
  exact World.ownsRow_made _ _ _ hb (by unfold maxLen; omega) (by simp)
/-- A row of one's own over whatever leaves old memory as it was: made since. -/
theorem own_mv {W w' : World} {base e sz n : Nat} {v : Value} {cs : List Value} (h : W.ownsRow base e sz v n cs) (hb : Below W.heap.size W w') : w'.ownsRow base e sz v n cs := by
  refine ⟨h.1, ?_⟩
  rcases h.2 with h' | ⟨g, cap, cur, hv, h1, h2, h3⟩
  · exact .inl h'
  · exact .inr ⟨g, cap, cur, hv, h1, (hb.block g (Array.getElem?_eq_some_iff.1 h2).1).trans h2, h3⟩
set_option maxHeartbeats 4000000 in
theorem c_unitsOf (f : XFunc) (cs : List Value) (w : World) (hf : KFunc lm w f cs) (hc : countOf f ≤ 1048576) : Calls Try.prog 30 #[.agg cs.toArray] w (RetI (unitsOf f) w) := by
  have hin := fun id W hW => c_instOf f cs id W (KM.mv hf hW) (by omega)
  have hcount := fun W hW => c_CountOf f cs W (KM.mv hf hW)
  have hc0 := countOf_nn f
  obtain ⟨v1, v2, rfl, hp, hb⟩ := hf
  have hbl := fun o o' => ((Below.refl w.heap.size w).al (Nat.le_refl _) o).al (by simp) o'
  clear hp hb
  unfold unitsOf
  obtain ⟨n, hn⟩ : ∃ n : Nat, countOf f = n := ⟨(countOf f).toNat, by omega⟩
  rw [hn, Int.toNat_natCast]
  rw [hn] at hcount hc
  have hl := fun k => filt_le (isUnit f) (upTo k)
  simp only [upTo_len] at hl
  have hl' := Hd.mk hl
  clear hl hn hc0
  go_enter Try.func30, Try.ntmps30
  go_wp2_with fail
  refine (hcount _ (hbl _ _)).mono ?_; rintro e w1 ⟨rfl, hb1⟩
  have k0 := bat hb1 w.heap.size (by simp; omega)
  have hz1 := hb1.size
  simp at k0 hz1
  have hown : w1.ownsRow (w.heap.size + 1) 2 1 (.slice (some ⟨w.heap.size + 1, 0, none⟩) 0 0) 0 [] := own_mv (own_empty _ _ _ _ _ (by simp) (by simp)) hb1
  have hbw := Hd.mk ((hbl _ _).then hb1)
  clear hb1 hcount
  go_wp2
  go_loopw [3, 10] (fun s3 s10 wr => ∃ k : Nat, k ≤ n ∧ s10 = .int .i64 k ∧ Hd (wr.ownsRow (w.heap.size + 1) 2 1 s3 ((upTo k).filter (isUnit f)).length (((upTo k).filter (isUnit f)).map (Value.int .i64))) ∧ Hd (Below w.heap.size w wr) ∧ Hd (∀ o, wr.cell? ⟨w.heap.size, o, none⟩ = w1.cell? ⟨w.heap.size, o, none⟩) ∧ Hd (w.heap.size < wr.heap.size)) (fun _ s10 _ => n - (intOf s10).toNat)
  case atStart => exact ⟨0, Nat.zero_le _, rfl, ⟨by simpa [upTo] using hown⟩, hbw, ⟨fun _ => rfl⟩, ⟨by omega⟩⟩
  case round =>
    obtain ⟨k, hk, rfl, ho, hbr, hk0, hzr⟩ := hrel
    replace k0 := fun o => (hk0.out o).trans (k0 o)
    have hk0' := hk0.out
    by_cases hlt : k < n
    · have hun := Hd.mk (units_snoc f k)
      have hi1 := hin k wr hbr.out
      have hun2 : isUnit f k = ((instAt f k).2 && ((instAt f k).1.op == 24 || (instAt f k).1.op == 25)) := rfl
      unfold RetInst at hi1
      generalize hI : instAt f k = I at *
      obtain ⟨i, b⟩ := I
      simp only at hun2 hi1
      have hrl := hl'.out k
      generalize (upTo k).filter (isUnit f) = xs at *
      have hz := hzr.out
      go_wp2_with fail
      refine hi1.mono ?_; rintro e w2 ⟨cs, rfl, ⟨v7, rfl, hr7⟩, hb2⟩
      obtain ⟨A7, c7, rfl, -, -, -⟩ := hr7.sm
      have ho2 := Hd.mk (own_mv ho.out hb2)
      have hb2' := Hd.mk (hbr.out.then hb2)
      replace k0 := fun o => (bat hb2 w.heap.size hz o).trans (k0 o)
      have hk2 := Hd.mk (fun o => (bat hb2 w.heap.size hz o).trans (hk0' o))
      have hz2 := hb2.size
      clear hb2 hi1 hr7 hk0 hk0'
      cases b with
      | false =>
        rw [hun2] at hun
        go_wp2
        go_roundw
        case rel =>
          have hb3 := fun o => (Below.refl w2.heap.size w2).al (Nat.le_refl _) o
          refine ⟨k + 1, by omega, by go_num, ⟨?_⟩, ⟨hb2'.out.then (hb3 _)⟩, ⟨fun o => (bat (hb3 _) w.heap.size (by omega) o).trans (hk2.out o)⟩, ⟨by simp; omega⟩⟩
          rw [hun.out]
          simpa using own_mv ho2.out (hb3 _)
        case measure => simp [intOf]; omega
      | true =>
        have hb3 := fun o o' => ((Below.refl w2.heap.size w2).al (Nat.le_refl _) o).al (by simp) o'
        have his := fun o => c_is (.slice (some ⟨w2.heap.size + 1, 0, none⟩) 2 2) [24, 25] i.op ((w2.alloc o).alloc (.cells #[.int .i64 24, .int .i64 25] 2))
          (rd_at _ (w2.heap.size + 1) 0 2 [24, 25] (by simp) (by simp) (by simp) (fun j hj => by
            simp at hj
            have : j = 0 ∨ j = 1 := by omega
            rcases this with rfl | rfl <;> simp))
        have hs : hasI [24, 25] i.op = (i.op == 24 || i.op == 25) := by simp [hasI]
        simp only [hs] at his
        simp only [Bool.true_and] at hun2
        rw [hun2] at hun
        clear hs hun2
        generalize (i.op == 24 || i.op == 25) = q at *
        have z2 : w.heap.size < w2.heap.size := by omega
        go_wp2_with fail
        refine (his _).mono ?_; rintro e w3 ⟨rfl, hb4⟩
        have hb5 := Hd.mk ((hb3 _ _).then hb4)
        clear hb4 his hb3
        have ho3 := Hd.mk (own_mv ho2.out hb5.out)
        have hk3 := Hd.mk (fun o => (bat hb5.out w.heap.size z2 o).trans (hk2.out o))
        have hz3 := hb5.out.size
        have hb3' := Hd.mk (hb2'.out.then hb5.out)
        cases q with
        | false =>
          go_wp2
          go_roundw
          case rel =>
            refine ⟨k + 1, by omega, by go_num, ⟨?_⟩, hb3', hk3, ⟨by omega⟩⟩
            rw [hun.out]
            simpa using ho3.out
          case measure => simp [intOf]; omega
        | true =>
          have hb6 := fun o => (Below.refl w3.heap.size w3).al (Nat.le_refl _) o
          go_wp2_with (at_builtin; refine app_I rfl _ _ rfl (w.heap.size + 1) _ xs [(k : Int)] rfl ?h1 _ 1 1 rfl (rd_one _ _) ?h2 ?h3 ?h4)
          case h1 => exact own_mv ho3.out (hb6 _)
          case h2 => omega
          case h3 => simp; omega
          case h4 =>
            intro v' w4 ho4 hg
            have hb7 : Below w.heap.size w w4 := (hb3'.out.then (hb6 _)).grown hg (by simp; omega) (fun k hk => by have := own_block_ge ho3.out k hk; omega)
            have hk7 : ∀ o, w4.cell? ⟨w.heap.size, o, none⟩ = w1.cell? ⟨w.heap.size, o, none⟩ := fun o => (grown_cell hg (by simp; omega) (fun h => by have := own_block_ge ho3.out _ h; omega) o).trans ((bat (hb6 _) w.heap.size (by omega) o).trans (hk3.out o))
            have hz7 := hg.size
            simp at hz7
            have ho4' := Hd.mk ho4
            have hb7' := Hd.mk hb7
            have hk7' := Hd.mk hk7
            clear hg ho4 hb7 hk7 hb6
            go_wp2
            go_roundw
            case rel =>
              refine ⟨k + 1, by omega, by go_num, ⟨?_⟩, hb7', hk7', ⟨by omega⟩⟩
              rw [hun.out]
              simpa using ho4'.out
            case measure => simp [intOf]; omega
    · have e : k = n := by omega
      subst e
      go_wp2
      go_ret
      exact ⟨_, rfl, own_lower ho.out (by omega), hbr.out⟩
end Go.Proofs.Ytdnbiohohbnhgaa
