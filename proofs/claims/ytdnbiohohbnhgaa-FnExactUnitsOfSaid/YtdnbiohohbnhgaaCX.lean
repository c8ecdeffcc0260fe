/- Contracts of slices.IndexFunc and slices.ContainsFunc at each element type, for any predicate that is known by its contract. No conditions. -/
import Derived.Test.YtdnbiohohbnhgaaProg
import Derived.Test.YtdnbiohohbnhgaaC0
set_option linter.unusedSimpArgs false
set_option linter.unusedVariables false
namespace Go.Proofs.Ytdnbiohohbnhgaa
open Go.RowKit

set_option maxHeartbeats 400000 in
theorem c_IdxI (v : Value) (xs : List Int) (g : Nat) (lb : Array Value) (p : Int → Bool) (w : World) (hv : Rd lm 1 KInt w v xs)
    (eg : ∀ args w, (callFunc g args).run Try.prog w = .ok (.enter g args) w) (hp : PB Try.prog g lb KInt arg1 p w) :
    Calls Try.prog 102 #[v, .func (.func g) #[] lb] w (Ret (.int .i64 (idx p xs)) w) := by
  obtain ⟨A, c, rfl, h1, h2, hv0⟩ := hv.sm
  have hp' := Hd.mk hp
  clear hv hp
  go_enter Try.func102, Try.ntmps102
  go_wp2
  go_loopw [5, 8] (fun _ s8 wr => ∃ k : Nat, k ≤ xs.length ∧ s8 = .int .i64 k ∧ Hd (Below w.heap.size w wr) ∧ Hd (∀ j (h : j < xs.length), j < k → p xs[j] = false)) (fun _ s8 _ => xs.length - (intOf s8).toNat)
  case atStart => exact ⟨0, Nat.zero_le _, rfl, ⟨Below.refl _ w⟩, ⟨fun j _ h => absurd h (Nat.not_lt_zero _)⟩⟩
  case round =>
    obtain ⟨k, hk, rfl, hb, hn⟩ := hrel
    by_cases hlt : k < xs.length
    · obtain ⟨b, off, cs, hA, hbl, hkk, hat⟩ := hv0.out.in_ hb.out k hlt
      cases hA
      obtain rfl := hkk
      have g0 := hat 0 _ rfl
      simp at g0
      have hcall := hp'.out wr xs[k] _ hb.out rfl
      clear hat
      cases hq : p xs[k] with
      | true =>
        rw [hq] at hcall
        have hq' := Hd.mk hq
        clear hq
        go_wp2_with (go_at_fn g; refine hcall.mono ?_; rintro e w' ⟨rfl, hb'⟩)
        go_ret
        exact ⟨by rw [idx_hit p xs k hlt hq'.out hn.out]; rfl, hb.out.then hb'⟩
      | false =>
        rw [hq] at hcall
        have hq' := Hd.mk hq
        clear hq
        go_wp2_with (go_at_fn g; refine hcall.mono ?_; rintro e w' ⟨rfl, hb'⟩)
        go_roundw
        case rel =>
          refine ⟨k + 1, by omega, by go_num, ⟨hb.out.then hb'⟩, ⟨fun j hj hjk => ?_⟩⟩
          by_cases e : j = k
          · subst e; exact hq'.out
          · exact hn.out j hj (by omega)
        case measure => simp [intOf]; omega
    · have e : k = xs.length := by omega
      subst e
      go_wp2
      go_ret
      exact ⟨by rw [idx_miss p xs (fun j hj => hn.out j hj hj)]; rfl, hb.out⟩
theorem c_ConI (v : Value) (xs : List Int) (g : Nat) (lb : Array Value) (p : Int → Bool) (w : World) (hv : Rd lm 1 KInt w v xs)
    (eg : ∀ args w, (callFunc g args).run Try.prog w = .ok (.enter g args) w) (hp : PB Try.prog g lb KInt arg1 p w) :
    Calls Try.prog 65 #[v, .func (.func g) #[] lb] w (Ret (.bool (xs.any p)) w) := by
  rw [← idx_any]
  have hi := c_IdxI v xs g lb p w hv eg hp
  clear hv eg hp
  go_enter Try.func65, Try.ntmps65
  go_wp2_with (go_at_call 102; refine hi.mono ?_; rintro e w' ⟨rfl, hb'⟩)
  go_ret
  exact ⟨rfl, hb'⟩

set_option maxHeartbeats 400000 in
theorem c_IdxPhi (v : Value) (xs : List XPhi) (g : Nat) (lb : Array Value) (p : XPhi → Bool) (w : World) (hv : Rd lm 2 (KPhi lm) w v xs)
    (eg : ∀ args w, (callFunc g args).run Try.prog w = .ok (.enter g args) w) (hp : PB Try.prog g lb (KPhi lm) argN p w) :
    Calls Try.prog 116 #[v, .func (.func g) #[] lb] w (Ret (.int .i64 (idx p xs)) w) := by
  obtain ⟨A, c, rfl, h1, h2, hv0⟩ := hv.sm
  have hp' := Hd.mk hp
  clear hv hp
  go_enter Try.func116, Try.ntmps116
  go_wp2
  go_loopw [5, 8] (fun _ s8 wr => ∃ k : Nat, k ≤ xs.length ∧ s8 = .int .i64 k ∧ Hd (Below w.heap.size w wr) ∧ Hd (∀ j (h : j < xs.length), j < k → p xs[j] = false)) (fun _ s8 _ => xs.length - (intOf s8).toNat)
  case atStart => exact ⟨0, Nat.zero_le _, rfl, ⟨Below.refl _ w⟩, ⟨fun j _ h => absurd h (Nat.not_lt_zero _)⟩⟩
  case round =>
    obtain ⟨k, hk, rfl, hb, hn⟩ := hrel
    by_cases hlt : k < xs.length
    · obtain ⟨b, off, cs, hA, hbl, hkk, hat⟩ := hv0.out.in_ hb.out k hlt
      cases hA
      obtain ⟨v1, rfl, hr⟩ := hkk
      have g0 := hat 0 _ rfl
      have g1 := hat 1 _ rfl
      simp at g0 g1
      have hcall := hp'.out wr xs[k] _ hb.out ⟨v1, rfl, hr⟩
      clear hat
      cases hq : p xs[k] with
      | true =>
        rw [hq] at hcall
        have hq' := Hd.mk hq
        clear hq
        go_wp2_with (go_at_fn g; refine hcall.mono ?_; rintro e w' ⟨rfl, hb'⟩)
        go_ret
        exact ⟨by rw [idx_hit p xs k hlt hq'.out hn.out]; rfl, hb.out.then hb'⟩
      | false =>
        rw [hq] at hcall
        have hq' := Hd.mk hq
        clear hq
        go_wp2_with (go_at_fn g; refine hcall.mono ?_; rintro e w' ⟨rfl, hb'⟩)
        go_roundw
        case rel =>
          refine ⟨k + 1, by omega, by go_num, ⟨hb.out.then hb'⟩, ⟨fun j hj hjk => ?_⟩⟩
          by_cases e : j = k
          · subst e; exact hq'.out
          · exact hn.out j hj (by omega)
        case measure => simp [intOf]; omega
    · have e : k = xs.length := by omega
      subst e
      go_wp2
      go_ret
      exact ⟨by rw [idx_miss p xs (fun j hj => hn.out j hj hj)]; rfl, hb.out⟩
theorem c_ConPhi (v : Value) (xs : List XPhi) (g : Nat) (lb : Array Value) (p : XPhi → Bool) (w : World) (hv : Rd lm 2 (KPhi lm) w v xs)
    (eg : ∀ args w, (callFunc g args).run Try.prog w = .ok (.enter g args) w) (hp : PB Try.prog g lb (KPhi lm) argN p w) :
    Calls Try.prog 85 #[v, .func (.func g) #[] lb] w (Ret (.bool (xs.any p)) w) := by
  rw [← idx_any]
  have hi := c_IdxPhi v xs g lb p w hv eg hp
  clear hv eg hp
  go_enter Try.func85, Try.ntmps85
  go_wp2_with (go_at_call 116; refine hi.mono ?_; rintro e w' ⟨rfl, hb'⟩)
  go_ret
  exact ⟨rfl, hb'⟩

set_option maxHeartbeats 400000 in
theorem c_IdxInst (v : Value) (xs : List XInst) (g : Nat) (lb : Array Value) (p : XInst → Bool) (w : World) (hv : Rd lm 7 (KInst lm) w v xs)
    (eg : ∀ args w, (callFunc g args).run Try.prog w = .ok (.enter g args) w) (hp : PB Try.prog g lb (KInst lm) argN p w) :
    Calls Try.prog 117 #[v, .func (.func g) #[] lb] w (Ret (.int .i64 (idx p xs)) w) := by
  obtain ⟨A, c, rfl, h1, h2, hv0⟩ := hv.sm
  have hp' := Hd.mk hp
  clear hv hp
  go_enter Try.func117, Try.ntmps117
  go_wp2
  go_loopw [5, 8] (fun _ s8 wr => ∃ k : Nat, k ≤ xs.length ∧ s8 = .int .i64 k ∧ Hd (Below w.heap.size w wr) ∧ Hd (∀ j (h : j < xs.length), j < k → p xs[j] = false)) (fun _ s8 _ => xs.length - (intOf s8).toNat)
  case atStart => exact ⟨0, Nat.zero_le _, rfl, ⟨Below.refl _ w⟩, ⟨fun j _ h => absurd h (Nat.not_lt_zero _)⟩⟩
  case round =>
    obtain ⟨k, hk, rfl, hb, hn⟩ := hrel
    by_cases hlt : k < xs.length
    · obtain ⟨b, off, cs, hA, hbl, hkk, hat⟩ := hv0.out.in_ hb.out k hlt
      cases hA
      obtain ⟨v1, rfl, hr⟩ := hkk
      have g0 := hat 0 _ rfl
      have g1 := hat 1 _ rfl
      have g2 := hat 2 _ rfl
      have g3 := hat 3 _ rfl
      have g4 := hat 4 _ rfl
      have g5 := hat 5 _ rfl
      have g6 := hat 6 _ rfl
      simp at g0 g1 g2 g3 g4 g5 g6
      have hcall := hp'.out wr xs[k] _ hb.out ⟨v1, rfl, hr⟩
      clear hat
      cases hq : p xs[k] with
      | true =>
        rw [hq] at hcall
        have hq' := Hd.mk hq
        clear hq
        go_wp2_with (go_at_fn g; refine hcall.mono ?_; rintro e w' ⟨rfl, hb'⟩)
        go_ret
        exact ⟨by rw [idx_hit p xs k hlt hq'.out hn.out]; rfl, hb.out.then hb'⟩
      | false =>
        rw [hq] at hcall
        have hq' := Hd.mk hq
        clear hq
        go_wp2_with (go_at_fn g; refine hcall.mono ?_; rintro e w' ⟨rfl, hb'⟩)
        go_roundw
        case rel =>
          refine ⟨k + 1, by omega, by go_num, ⟨hb.out.then hb'⟩, ⟨fun j hj hjk => ?_⟩⟩
          by_cases e : j = k
          · subst e; exact hq'.out
          · exact hn.out j hj (by omega)
        case measure => simp [intOf]; omega
    · have e : k = xs.length := by omega
      subst e
      go_wp2
      go_ret
      exact ⟨by rw [idx_miss p xs (fun j hj => hn.out j hj hj)]; rfl, hb.out⟩
theorem c_ConInst (v : Value) (xs : List XInst) (g : Nat) (lb : Array Value) (p : XInst → Bool) (w : World) (hv : Rd lm 7 (KInst lm) w v xs)
    (eg : ∀ args w, (callFunc g args).run Try.prog w = .ok (.enter g args) w) (hp : PB Try.prog g lb (KInst lm) argN p w) :
    Calls Try.prog 88 #[v, .func (.func g) #[] lb] w (Ret (.bool (xs.any p)) w) := by
  rw [← idx_any]
  have hi := c_IdxInst v xs g lb p w hv eg hp
  clear hv eg hp
  go_enter Try.func88, Try.ntmps88
  go_wp2_with (go_at_call 117; refine hi.mono ?_; rintro e w' ⟨rfl, hb'⟩)
  go_ret
  exact ⟨rfl, hb'⟩

set_option maxHeartbeats 400000 in
theorem c_IdxMIns (v : Value) (xs : List XMIns) (g : Nat) (lb : Array Value) (p : XMIns → Bool) (w : World) (hv : Rd lm 7 KMIns w v xs)
    (eg : ∀ args w, (callFunc g args).run Try.prog w = .ok (.enter g args) w) (hp : PB Try.prog g lb KMIns argN p w) :
    Calls Try.prog 103 #[v, .func (.func g) #[] lb] w (Ret (.int .i64 (idx p xs)) w) := by
  obtain ⟨A, c, rfl, h1, h2, hv0⟩ := hv.sm
  have hp' := Hd.mk hp
  clear hv hp
  go_enter Try.func103, Try.ntmps103
  go_wp2
  go_loopw [5, 8] (fun _ s8 wr => ∃ k : Nat, k ≤ xs.length ∧ s8 = .int .i64 k ∧ Hd (Below w.heap.size w wr) ∧ Hd (∀ j (h : j < xs.length), j < k → p xs[j] = false)) (fun _ s8 _ => xs.length - (intOf s8).toNat)
  case atStart => exact ⟨0, Nat.zero_le _, rfl, ⟨Below.refl _ w⟩, ⟨fun j _ h => absurd h (Nat.not_lt_zero _)⟩⟩
  case round =>
    obtain ⟨k, hk, rfl, hb, hn⟩ := hrel
    by_cases hlt : k < xs.length
    · obtain ⟨b, off, cs, hA, hbl, hkk, hat⟩ := hv0.out.in_ hb.out k hlt
      cases hA
      obtain rfl := hkk
      have g0 := hat 0 _ rfl
      have g1 := hat 1 _ rfl
      have g2 := hat 2 _ rfl
      have g3 := hat 3 _ rfl
      have g4 := hat 4 _ rfl
      have g5 := hat 5 _ rfl
      have g6 := hat 6 _ rfl
      simp at g0 g1 g2 g3 g4 g5 g6
      have hcall := hp'.out wr xs[k] _ hb.out rfl
      clear hat
      cases hq : p xs[k] with
      | true =>
        rw [hq] at hcall
        have hq' := Hd.mk hq
        clear hq
        go_wp2_with (go_at_fn g; refine hcall.mono ?_; rintro e w' ⟨rfl, hb'⟩)
        go_ret
        exact ⟨by rw [idx_hit p xs k hlt hq'.out hn.out]; rfl, hb.out.then hb'⟩
      | false =>
        rw [hq] at hcall
        have hq' := Hd.mk hq
        clear hq
        go_wp2_with (go_at_fn g; refine hcall.mono ?_; rintro e w' ⟨rfl, hb'⟩)
        go_roundw
        case rel =>
          refine ⟨k + 1, by omega, by go_num, ⟨hb.out.then hb'⟩, ⟨fun j hj hjk => ?_⟩⟩
          by_cases e : j = k
          · subst e; exact hq'.out
          · exact hn.out j hj (by omega)
        case measure => simp [intOf]; omega
    · have e : k = xs.length := by omega
      subst e
      go_wp2
      go_ret
      exact ⟨by rw [idx_miss p xs (fun j hj => hn.out j hj hj)]; rfl, hb.out⟩
theorem c_ConMIns (v : Value) (xs : List XMIns) (g : Nat) (lb : Array Value) (p : XMIns → Bool) (w : World) (hv : Rd lm 7 KMIns w v xs)
    (eg : ∀ args w, (callFunc g args).run Try.prog w = .ok (.enter g args) w) (hp : PB Try.prog g lb KMIns argN p w) :
    Calls Try.prog 70 #[v, .func (.func g) #[] lb] w (Ret (.bool (xs.any p)) w) := by
  rw [← idx_any]
  have hi := c_IdxMIns v xs g lb p w hv eg hp
  clear hv eg hp
  go_enter Try.func70, Try.ntmps70
  go_wp2_with (go_at_call 103; refine hi.mono ?_; rintro e w' ⟨rfl, hb'⟩)
  go_ret
  exact ⟨rfl, hb'⟩



end Go.Proofs.Ytdnbiohohbnhgaa
