/- Contracts of slices.IndexFunc and slices.ContainsFunc at each element type, for any predicate that is known by its contract. No conditions. -/
import Derived.Test.YtdnbiohohbnhgaaDoorProg
import Derived.Test.YtdnbiohohbnhgaaDoorC0
set_option linter.unusedSimpArgs false
set_option linter.unusedVariables false
namespace Go.Proofs.YtdnbiohohbnhgaaDoor
open Go.RowKit

set_option maxHeartbeats 400000 in
theorem c_IdxI (v : Value) (xs : List Int) (g : Nat) (lb : Array Value) (p : Int → Bool) (w : World) (hv : Rd lm 1 KInt w v xs)
    (eg : ∀ args w, (callFunc g args).run Tryd.prog w = .ok (.enter g args) w) (hp : PB Tryd.prog g lb KInt arg1 p w) :
    Calls Tryd.prog 43 #[v, .func (.func g) #[] lb] w (Ret (.int .i64 (idx p xs)) w) := by
  obtain ⟨A, c, rfl, h1, h2, hv0⟩ := hv.sm
  have hp' := Hd.mk hp
  clear hv hp
  go_enter Tryd.func43, Tryd.ntmps43
  go_wp2
  go_loopw [5, 8] (fun _ s8 wr => ∃ k : Nat, k ≤ xs.length ∧ s8 = .int .i64 k ∧ Hd (Below w.heap.size w wr) ∧ Hd (∀ j (h : j < xs.length), j < k → p xs[j] = false)) (fun _ s8 _ => xs.length - (intOf s8).toNat)
  case atStart => exact ⟨0, Nat.zero_le _, rfl, ⟨Below.refl _ w⟩, ⟨fun j _ h => absurd h (Nat.not_lt_zero _)⟩⟩
  case round =>
    obtain ⟨k, hk, rfl, hb, hn⟩ := hrel
    by_cases hlt : k < xs.length
    · obtain ⟨b, off, cs, hA, hbl, hkk, hat⟩ := hv0.out.in_ hb.out k hlt
      cases hA
      obtain rfl := hkk
      have g0 := hat 0 _ rfl
      simp at g0
      have hcall := hp'.out wr xs[k] _ hb.out rfl
      clear hat
      cases hq : p xs[k] with
      | true =>
        rw [hq] at hcall
        have hq' := Hd.mk hq
        clear hq
        go_wp2_with (go_at_fn g; refine hcall.mono ?_; rintro e w' ⟨rfl, hb'⟩)
        go_ret
        exact ⟨by rw [idx_hit p xs k hlt hq'.out hn.out]; rfl, hb.out.then hb'⟩
      | false =>
        rw [hq] at hcall
        have hq' := Hd.mk hq
        clear hq
        go_wp2_with (go_at_fn g; refine hcall.mono ?_; rintro e w' ⟨rfl, hb'⟩)
        go_roundw
        case rel =>
          refine ⟨k + 1, by omega, by go_num, ⟨hb.out.then hb'⟩, ⟨fun j hj hjk => ?_⟩⟩
          by_cases e : j = k
          · subst e; exact hq'.out
          · exact hn.out j hj (by omega)
        case measure => simp [intOf]; omega
    · have e : k = xs.length := by omega
      subst e
      go_wp2
      go_ret
      exact ⟨by rw [idx_miss p xs (fun j hj => hn.out j hj hj)]; rfl, hb.out⟩
theorem c_ConI (v : Value) (xs : List Int) (g : Nat) (lb : Array Value) (p : Int → Bool) (w : World) (hv : Rd lm 1 KInt w v xs)
    (eg : ∀ args w, (callFunc g args).run Tryd.prog w = .ok (.enter g args) w) (hp : PB Tryd.prog g lb KInt arg1 p w) :
    Calls Tryd.prog 32 #[v, .func (.func g) #[] lb] w (Ret (.bool (xs.any p)) w) := by
  rw [← idx_any]
  have hi := c_IdxI v xs g lb p w hv eg hp
  clear hv eg hp
  go_enter Tryd.func32, Tryd.ntmps32
  go_wp2_with (go_at_call 43; refine hi.mono ?_; rintro e w' ⟨rfl, hb'⟩)
  go_ret
  exact ⟨rfl, hb'⟩






end Go.Proofs.YtdnbiohohbnhgaaDoor
