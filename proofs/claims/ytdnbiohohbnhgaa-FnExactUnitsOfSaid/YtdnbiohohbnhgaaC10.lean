/- Contracts of Index, is and isFormed. No conditions. -/
import Derived.Test.YtdnbiohohbnhgaaC9
set_option linter.unusedSimpArgs false
set_option linter.unusedVariables false
namespace Go.Proofs.Ytdnbiohohbnhgaa
open Go.RowKit
set_option maxHeartbeats 400000 in
theorem c_IndexI (v : Value) (xs : List Int) (x : Int) (w : World) (hv : RI lm w v xs) : Calls Try.prog 125 #[v, .int .i64 x] w (Ret (.int .i64 (idx (fun y => x == y) xs)) w) := by
  obtain ⟨A, c, rfl, h1, h2, hv0⟩ := hv.sm
  clear hv
  go_enter Try.func125, Try.ntmps125
  go_wp2
  go_loopw [5, 8] (fun _ s8 wr => ∃ k : Nat, k ≤ xs.length ∧ s8 = .int .i64 k ∧ Hd (Below w.heap.size w wr) ∧ Hd (∀ j (h : j < xs.length), j < k → (x == xs[j]) = false)) (fun _ s8 _ => xs.length - (intOf s8).toNat)
  case atStart => exact ⟨0, Nat.zero_le _, rfl, ⟨Below.refl _ w⟩, ⟨fun j _ h => absurd h (Nat.not_lt_zero _)⟩⟩
  case round =>
    obtain ⟨k, hk, rfl, hb, hn⟩ := hrel
    by_cases hlt : k < xs.length
    · obtain ⟨b, off, cs, hA, hbl, hkk, hat⟩ := hv0.out.in0 hb.out k hlt
      cases hA
      cases hkk
      have g0 := hat 0 _ rfl
      simp at g0
      clear hat
      cases hq : (x == xs[k]) with
      | true =>
        have hq' := Hd.mk hq
        have hq2 : (xs[k] == x) = true := by rw [Bool.beq_comm] at hq; simpa using hq
        go_wp2
        go_ret
        exact ⟨by rw [idx_hit (fun y => x == y) xs k hlt hq'.out hn.out]; rfl, hb.out⟩
      | false =>
        have hq' := Hd.mk hq
        go_wp2
        go_roundw
        case rel =>
          refine ⟨k + 1, by omega, by go_num, hb, ⟨fun j hj hjk => ?_⟩⟩
          by_cases e : j = k
          · subst e; exact hq'.out
          · exact hn.out j hj (by omega)
        case measure => simp [intOf]; omega
    · have e : k = xs.length := by omega
      subst e
      go_wp2
      go_ret
      exact ⟨by rw [idx_miss (fun y => x == y) xs (fun j hj => hn.out j hj hj)]; rfl, hb.out⟩
def hasI (xs : List Int) (x : Int) : Bool := xs.any (fun y => x == y)
theorem c_ContainsI (v : Value) (xs : List Int) (x : Int) (w : World) (hv : RI lm w v xs) : Calls Try.prog 93 #[v, .int .i64 x] w (Ret (.bool (hasI xs x)) w) := by
  rw [hasI, ← idx_any]
  have hi := c_IndexI v xs x w hv
  clear hv
  go_enter Try.func93, Try.ntmps93
  go_wp2_with (go_at_call 125; refine hi.mono ?_; rintro e w' ⟨rfl, hb'⟩)
  go_ret
  exact ⟨rfl, hb'⟩
theorem c_is (v : Value) (xs : List Int) (x : Int) (w : World) (hv : RI lm w v xs) : Calls Try.prog 55 #[.int .i64 x, v] w (Ret (.bool (hasI xs x)) w) := by
  have hi := c_ContainsI v xs x w hv
  clear hv
  go_enter Try.func55, Try.ntmps55
  go_wp2_with (go_at_call 93; refine hi.mono ?_; rintro e w' ⟨rfl, hb'⟩)
  go_ret
  exact ⟨rfl, hb'⟩
theorem c_isFunc (f : XFunc) (cs : List Value) (funcs : Int) (w : World) (hf : KFunc lm w f cs) (hf0 : 0 ≤ funcs) (hf1 : funcs ≤ 1048576) :
    Calls Try.prog 52 #[.agg cs.toArray, .int .i64 funcs] w (Ret (.bool (funcOk f funcs)) w) := by
  cases h : funcPre f with
  | true => exact c_isFunc_ok f cs funcs w hf h hf0 hf1
  | false => rw [funcOk_pre, h]; exact c_isFunc_pre f cs funcs w hf h
theorem c_isFormed (f : XFunc) (cs : List Value) (w : World) (hf : KFunc lm w f cs) : Calls Try.prog 29 #[.agg cs.toArray] w (Ret (.bool (funcOk f 3)) w) := by
  have h := fun W hW => c_isFunc f cs 3 W (KM.mv hf hW) (by omega) (by omega)
  obtain ⟨v1, v2, rfl, hp, hb⟩ := hf
  have hbl := fun o => (Below.refl w.heap.size w).al (Nat.le_refl _) o
  clear hp hb
  go_enter Try.func29, Try.ntmps29
  go_wp2_with fail
  refine (h _ (by first | exact hbl _ | exact Below.refl _ _)).mono ?_; rintro e w1 ⟨rfl, hb1⟩
  go_wp2
  go_ret
  exact ⟨rfl, by first | exact hb1 | exact (hbl _).then hb1⟩
end Go.Proofs.Ytdnbiohohbnhgaa
