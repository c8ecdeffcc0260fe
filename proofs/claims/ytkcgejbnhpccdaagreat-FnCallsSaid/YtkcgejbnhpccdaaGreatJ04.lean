/- The first contracts: small functions of numbers alone. No conditions. Contracts of slices.IndexFunc and slices.ContainsFunc at each element type, for any predicate that is known by its contract. No conditions. Contracts of the program's leaf functions. No conditions. An append to a row of numbers of the call's own, and the contract of Clone. No conditions. The contract of OperandsOf. No conditions. The contract of isInst. No conditions. -/
import Derived.Test.YtkcgejbnhpccdaaGreatProg
import Derived.Test.YtkcgejbnhpccdaaGreatJ02
import Derived.Test.YtkcgejbnhpccdaaGreatJ03
set_option linter.unusedSimpArgs false
set_option linter.unusedVariables false
namespace Go.Proofs.YtkcgejbnhpccdaaGreat
open Go.RowKit
theorem Same.ret {P : Program} {f : Nat} {args : Array Value} {v : Value} {w : World} (h : Calls P f args w (Same v w)) : Calls P f args w (Ret v w) := h.mono fun _ _ ⟨he, hw⟩ => ⟨he, hw ▸ Below.refl _ _⟩
end Go.Proofs.YtkcgejbnhpccdaaGreat
set_option linter.unusedSimpArgs false
set_option linter.unusedVariables false
namespace Go.Proofs.YtkcgejbnhpccdaaGreat
open Go.RowKit

set_option maxHeartbeats 400000 in
theorem c_IdxI (v : Value) (xs : List Int) (g : Nat) (lb : Array Value) (p : Int → Bool) (w : World) (hv : Rd lm 1 KInt w v xs)
    (eg : ∀ args w, (callFunc g args).run Tryz.prog w = .ok (.enter g args) w) (hp : PB Tryz.prog g lb KInt arg1 p w) :
    Calls Tryz.prog 204 #[v, .func (.func g) #[] lb] w (Ret (.int .i64 (idx p xs)) w) := by
  obtain ⟨A, c, rfl, h1, h2, hv0⟩ := hv.sm
  have hp' := Hd.mk hp
  clear hv hp
  go_enter Tryz.func204, Tryz.ntmps204
  go_wp2
  go_loopw [5, 8] (fun _ s8 wr => ∃ k : Nat, k ≤ xs.length ∧ s8 = .int .i64 k ∧ Hd (Below w.heap.size w wr) ∧ Hd (∀ j (h : j < xs.length), j < k → p xs[j] = false)) (fun _ s8 _ => xs.length - (intOf s8).toNat)
  case atStart => exact ⟨0, Nat.zero_le _, rfl, ⟨Below.refl _ w⟩, ⟨fun j _ h => absurd h (Nat.not_lt_zero _)⟩⟩
  case round =>
    obtain ⟨k, hk, rfl, hb, hn⟩ := hrel
    by_cases hlt : k < xs.length
    · obtain ⟨b, off, cs, hA, hbl, hkk, hat⟩ := hv0.out.in_ hb.out k hlt
      cases hA
      obtain rfl := hkk
      have g0 := hat 0 _ rfl
      simp at g0
      have hcall := hp'.out wr xs[k] _ hb.out rfl
      clear hat
      cases hq : p xs[k] with
      | true =>
        rw [hq] at hcall
        have hq' := Hd.mk hq
        clear hq
        go_wp2_with (go_at_fn g; refine hcall.mono ?_; rintro e w' ⟨rfl, hb'⟩)
        go_ret
        exact ⟨by rw [idx_hit p xs k hlt hq'.out hn.out]; rfl, hb.out.then hb'⟩
      | false =>
        rw [hq] at hcall
        have hq' := Hd.mk hq
        clear hq
        go_wp2_with (go_at_fn g; refine hcall.mono ?_; rintro e w' ⟨rfl, hb'⟩)
        go_roundw
        case rel =>
          refine ⟨k + 1, by omega, by go_num, ⟨hb.out.then hb'⟩, ⟨fun j hj hjk => ?_⟩⟩
          by_cases e : j = k
          · subst e; exact hq'.out
          · exact hn.out j hj (by omega)
        case measure => simp [intOf]; omega
    · have e : k = xs.length := by omega
      subst e
      go_wp2
      go_ret
      exact ⟨by rw [idx_miss p xs (fun j hj => hn.out j hj hj)]; rfl, hb.out⟩
theorem c_ConI (v : Value) (xs : List Int) (g : Nat) (lb : Array Value) (p : Int → Bool) (w : World) (hv : Rd lm 1 KInt w v xs)
    (eg : ∀ args w, (callFunc g args).run Tryz.prog w = .ok (.enter g args) w) (hp : PB Tryz.prog g lb KInt arg1 p w) :
    Calls Tryz.prog 165 #[v, .func (.func g) #[] lb] w (Ret (.bool (xs.any p)) w) := by
  rw [← idx_any]
  have hi := c_IdxI v xs g lb p w hv eg hp
  clear hv eg hp
  go_enter Tryz.func165, Tryz.ntmps165
  go_wp2_with (go_at_call 204; refine hi.mono ?_; rintro e w' ⟨rfl, hb'⟩)
  go_ret
  exact ⟨rfl, hb'⟩

set_option maxHeartbeats 400000 in
theorem c_IdxPhi (v : Value) (xs : List XPhi) (g : Nat) (lb : Array Value) (p : XPhi → Bool) (w : World) (hv : Rd lm 2 (KPhi lm) w v xs)
    (eg : ∀ args w, (callFunc g args).run Tryz.prog w = .ok (.enter g args) w) (hp : PB Tryz.prog g lb (KPhi lm) argN p w) :
    Calls Tryz.prog 205 #[v, .func (.func g) #[] lb] w (Ret (.int .i64 (idx p xs)) w) := by
  obtain ⟨A, c, rfl, h1, h2, hv0⟩ := hv.sm
  have hp' := Hd.mk hp
  clear hv hp
  go_enter Tryz.func205, Tryz.ntmps205
  go_wp2
  go_loopw [5, 8] (fun _ s8 wr => ∃ k : Nat, k ≤ xs.length ∧ s8 = .int .i64 k ∧ Hd (Below w.heap.size w wr) ∧ Hd (∀ j (h : j < xs.length), j < k → p xs[j] = false)) (fun _ s8 _ => xs.length - (intOf s8).toNat)
  case atStart => exact ⟨0, Nat.zero_le _, rfl, ⟨Below.refl _ w⟩, ⟨fun j _ h => absurd h (Nat.not_lt_zero _)⟩⟩
  case round =>
    obtain ⟨k, hk, rfl, hb, hn⟩ := hrel
    by_cases hlt : k < xs.length
    · obtain ⟨b, off, cs, hA, hbl, hkk, hat⟩ := hv0.out.in_ hb.out k hlt
      cases hA
      obtain ⟨v1, rfl, hr⟩ := hkk
      have g0 := hat 0 _ rfl
      have g1 := hat 1 _ rfl
      simp at g0 g1
      have hcall := hp'.out wr xs[k] _ hb.out ⟨v1, rfl, hr⟩
      clear hat
      cases hq : p xs[k] with
      | true =>
        rw [hq] at hcall
        have hq' := Hd.mk hq
        clear hq
        go_wp2_with (go_at_fn g; refine hcall.mono ?_; rintro e w' ⟨rfl, hb'⟩)
        go_ret
        exact ⟨by rw [idx_hit p xs k hlt hq'.out hn.out]; rfl, hb.out.then hb'⟩
      | false =>
        rw [hq] at hcall
        have hq' := Hd.mk hq
        clear hq
        go_wp2_with (go_at_fn g; refine hcall.mono ?_; rintro e w' ⟨rfl, hb'⟩)
        go_roundw
        case rel =>
          refine ⟨k + 1, by omega, by go_num, ⟨hb.out.then hb'⟩, ⟨fun j hj hjk => ?_⟩⟩
          by_cases e : j = k
          · subst e; exact hq'.out
          · exact hn.out j hj (by omega)
        case measure => simp [intOf]; omega
    · have e : k = xs.length := by omega
      subst e
      go_wp2
      go_ret
      exact ⟨by rw [idx_miss p xs (fun j hj => hn.out j hj hj)]; rfl, hb.out⟩
theorem c_ConPhi (v : Value) (xs : List XPhi) (g : Nat) (lb : Array Value) (p : XPhi → Bool) (w : World) (hv : Rd lm 2 (KPhi lm) w v xs)
    (eg : ∀ args w, (callFunc g args).run Tryz.prog w = .ok (.enter g args) w) (hp : PB Tryz.prog g lb (KPhi lm) argN p w) :
    Calls Tryz.prog 167 #[v, .func (.func g) #[] lb] w (Ret (.bool (xs.any p)) w) := by
  rw [← idx_any]
  have hi := c_IdxPhi v xs g lb p w hv eg hp
  clear hv eg hp
  go_enter Tryz.func167, Tryz.ntmps167
  go_wp2_with (go_at_call 205; refine hi.mono ?_; rintro e w' ⟨rfl, hb'⟩)
  go_ret
  exact ⟨rfl, hb'⟩

set_option maxHeartbeats 400000 in
theorem c_IdxInst (v : Value) (xs : List XInst) (g : Nat) (lb : Array Value) (p : XInst → Bool) (w : World) (hv : Rd lm 7 (KInst lm) w v xs)
    (eg : ∀ args w, (callFunc g args).run Tryz.prog w = .ok (.enter g args) w) (hp : PB Tryz.prog g lb (KInst lm) argN p w) :
    Calls Tryz.prog 177 #[v, .func (.func g) #[] lb] w (Ret (.int .i64 (idx p xs)) w) := by
  obtain ⟨A, c, rfl, h1, h2, hv0⟩ := hv.sm
  have hp' := Hd.mk hp
  clear hv hp
  go_enter Tryz.func177, Tryz.ntmps177
  go_wp2
  go_loopw [5, 8] (fun _ s8 wr => ∃ k : Nat, k ≤ xs.length ∧ s8 = .int .i64 k ∧ Hd (Below w.heap.size w wr) ∧ Hd (∀ j (h : j < xs.length), j < k → p xs[j] = false)) (fun _ s8 _ => xs.length - (intOf s8).toNat)
  case atStart => exact ⟨0, Nat.zero_le _, rfl, ⟨Below.refl _ w⟩, ⟨fun j _ h => absurd h (Nat.not_lt_zero _)⟩⟩
  case round =>
    obtain ⟨k, hk, rfl, hb, hn⟩ := hrel
    by_cases hlt : k < xs.length
    · obtain ⟨b, off, cs, hA, hbl, hkk, hat⟩ := hv0.out.in_ hb.out k hlt
      cases hA
      obtain ⟨v1, rfl, hr⟩ := hkk
      have g0 := hat 0 _ rfl
      have g1 := hat 1 _ rfl
      have g2 := hat 2 _ rfl
      have g3 := hat 3 _ rfl
      have g4 := hat 4 _ rfl
      have g5 := hat 5 _ rfl
      have g6 := hat 6 _ rfl
      simp at g0 g1 g2 g3 g4 g5 g6
      have hcall := hp'.out wr xs[k] _ hb.out ⟨v1, rfl, hr⟩
      clear hat
      cases hq : p xs[k] with
      | true =>
        rw [hq] at hcall
        have hq' := Hd.mk hq
        clear hq
        go_wp2_with (go_at_fn g; refine hcall.mono ?_; rintro e w' ⟨rfl, hb'⟩)
        go_ret
        exact ⟨by rw [idx_hit p xs k hlt hq'.out hn.out]; rfl, hb.out.then hb'⟩
      | false =>
        rw [hq] at hcall
        have hq' := Hd.mk hq
        clear hq
        go_wp2_with (go_at_fn g; refine hcall.mono ?_; rintro e w' ⟨rfl, hb'⟩)
        go_roundw
        case rel =>
          refine ⟨k + 1, by omega, by go_num, ⟨hb.out.then hb'⟩, ⟨fun j hj hjk => ?_⟩⟩
          by_cases e : j = k
          · subst e; exact hq'.out
          · exact hn.out j hj (by omega)
        case measure => simp [intOf]; omega
    · have e : k = xs.length := by omega
      subst e
      go_wp2
      go_ret
      exact ⟨by rw [idx_miss p xs (fun j hj => hn.out j hj hj)]; rfl, hb.out⟩
theorem c_ConInst (v : Value) (xs : List XInst) (g : Nat) (lb : Array Value) (p : XInst → Bool) (w : World) (hv : Rd lm 7 (KInst lm) w v xs)
    (eg : ∀ args w, (callFunc g args).run Tryz.prog w = .ok (.enter g args) w) (hp : PB Tryz.prog g lb (KInst lm) argN p w) :
    Calls Tryz.prog 132 #[v, .func (.func g) #[] lb] w (Ret (.bool (xs.any p)) w) := by
  rw [← idx_any]
  have hi := c_IdxInst v xs g lb p w hv eg hp
  clear hv eg hp
  go_enter Tryz.func132, Tryz.ntmps132
  go_wp2_with (go_at_call 177; refine hi.mono ?_; rintro e w' ⟨rfl, hb'⟩)
  go_ret
  exact ⟨rfl, hb'⟩



set_option maxHeartbeats 400000 in
theorem c_IdxFunc (v : Value) (xs : List XFunc) (g : Nat) (lb : Array Value) (p : XFunc → Bool) (w : World) (hv : Rd lm 3 (KFunc lm) w v xs)
    (eg : ∀ args w, (callFunc g args).run Tryz.prog w = .ok (.enter g args) w) (hp : PB Tryz.prog g lb (KFunc lm) argN p w) :
    Calls Tryz.prog 164 #[v, .func (.func g) #[] lb] w (Ret (.int .i64 (idx p xs)) w) := by
  obtain ⟨A, c, rfl, h1, h2, hv0⟩ := hv.sm
  have hp' := Hd.mk hp
  clear hv hp
  go_enter Tryz.func164, Tryz.ntmps164
  go_wp2
  go_loopw [5, 8] (fun _ s8 wr => ∃ k : Nat, k ≤ xs.length ∧ s8 = .int .i64 k ∧ Hd (Below w.heap.size w wr) ∧ Hd (∀ j (h : j < xs.length), j < k → p xs[j] = false)) (fun _ s8 _ => xs.length - (intOf s8).toNat)
  case atStart => exact ⟨0, Nat.zero_le _, rfl, ⟨Below.refl _ w⟩, ⟨fun j _ h => absurd h (Nat.not_lt_zero _)⟩⟩
  case round =>
    obtain ⟨k, hk, rfl, hb, hn⟩ := hrel
    by_cases hlt : k < xs.length
    · obtain ⟨b, off, cs, hA, hbl, hkk, hat⟩ := hv0.out.in_ hb.out k hlt
      cases hA
      obtain ⟨v1, v2, rfl, hr, hr2⟩ := hkk
      have g0 := hat 0 _ rfl
      have g1 := hat 1 _ rfl
      have g2 := hat 2 _ rfl
      simp at g0 g1 g2
      have hcall := hp'.out wr xs[k] _ hb.out ⟨v1, v2, rfl, hr, hr2⟩
      clear hat
      cases hq : p xs[k] with
      | true =>
        rw [hq] at hcall
        have hq' := Hd.mk hq
        clear hq
        go_wp2_with (go_at_fn g; refine hcall.mono ?_; rintro e w' ⟨rfl, hb'⟩)
        go_ret
        exact ⟨by rw [idx_hit p xs k hlt hq'.out hn.out]; rfl, hb.out.then hb'⟩
      | false =>
        rw [hq] at hcall
        have hq' := Hd.mk hq
        clear hq
        go_wp2_with (go_at_fn g; refine hcall.mono ?_; rintro e w' ⟨rfl, hb'⟩)
        go_roundw
        case rel =>
          refine ⟨k + 1, by omega, by go_num, ⟨hb.out.then hb'⟩, ⟨fun j hj hjk => ?_⟩⟩
          by_cases e : j = k
          · subst e; exact hq'.out
          · exact hn.out j hj (by omega)
        case measure => simp [intOf]; omega
    · have e : k = xs.length := by omega
      subst e
      go_wp2
      go_ret
      exact ⟨by rw [idx_miss p xs (fun j hj => hn.out j hj hj)]; rfl, hb.out⟩
theorem c_ConFunc (v : Value) (xs : List XFunc) (g : Nat) (lb : Array Value) (p : XFunc → Bool) (w : World) (hv : Rd lm 3 (KFunc lm) w v xs)
    (eg : ∀ args w, (callFunc g args).run Tryz.prog w = .ok (.enter g args) w) (hp : PB Tryz.prog g lb (KFunc lm) argN p w) :
    Calls Tryz.prog 126 #[v, .func (.func g) #[] lb] w (Ret (.bool (xs.any p)) w) := by
  rw [← idx_any]
  have hi := c_IdxFunc v xs g lb p w hv eg hp
  clear hv eg hp
  go_enter Tryz.func126, Tryz.ntmps126
  go_wp2_with (go_at_call 164; refine hi.mono ?_; rintro e w' ⟨rfl, hb'⟩)
  go_ret
  exact ⟨rfl, hb'⟩

end Go.Proofs.YtkcgejbnhpccdaaGreat
set_option linter.unusedSimpArgs false
set_option linter.unusedVariables false
namespace Go.Proofs.YtkcgejbnhpccdaaGreat
open Go.RowKit
theorem c_within (n lo hi : Int) (w : World) : Calls Tryz.prog 62 #[.int .i64 n, .int .i64 lo, .int .i64 hi] w (Same (.bool (inR n lo hi)) w) := by
  unfold inR
  by_cases h : lo ≤ n
  all_goals
    go_enter Tryz.func62, Tryz.ntmps62
    go_wp2
    go_ret
    exact ⟨by first | (simp [h]; done) | (have h' : ¬ lo ≤ n := (by omega); simp [h']), rfl⟩
theorem c_WidthOk (n : Int) (w : World) : Calls Tryz.prog 56 #[.int .i64 n] w (Same (.bool (widthOk n)) w) := by
  go_enter Tryz.func56, Tryz.ntmps56
  go_wp2
  all_goals
    go_ret
    exact ⟨by simp [widthOk, *], rfl⟩
theorem c_isBinary (n : Int) (w : World) : Calls Tryz.prog 138 #[.int .i64 n] w (Same (.bool (bin n)) w) := by
  go_enter Tryz.func138, Tryz.ntmps138
  go_wp2_with (go_at_call 62; refine (c_within _ _ _ _).mono ?_; rintro e w' ⟨rfl, rfl⟩)
  go_ret
  exact ⟨rfl, rfl⟩
theorem c_isCast (n : Int) (w : World) : Calls Tryz.prog 140 #[.int .i64 n] w (Same (.bool (cst n)) w) := by
  go_enter Tryz.func140, Tryz.ntmps140
  go_wp2_with (go_at_call 62; refine (c_within _ _ _ _).mono ?_; rintro e w' ⟨rfl, rfl⟩)
  go_ret
  exact ⟨rfl, rfl⟩
theorem c_mask (n : Int) (w : World) (h : widthOk n = true) : Calls Tryz.prog 57 #[.int .i64 n] w (Same (.int .i64 (2 ^ n.toNat - 1)) w) := by
  simp only [widthOk, Bool.or_eq_true, beq_iff_eq] at h
  rcases h with ((rfl | rfl) | rfl) | rfl
  all_goals
    go_enter Tryz.func57, Tryz.ntmps57
    go_wp2
    go_ret
    exact ⟨rfl, rfl⟩
theorem c_isValue (n v : Int) (w : World) : Calls Tryz.prog 92 #[.int .i64 n, .int .i64 v] w (Same (.bool (isVal n v)) w) := by
  unfold isVal
  cases h : widthOk n
  all_goals
    have hh := Hd.mk h
    have hw := c_WidthOk n
    rw [h] at hw
    clear h
    go_enter Tryz.func92, Tryz.ntmps92
    go_wp2_with (first | (go_at_call 56; refine (hw _).mono ?_; rintro e w' ⟨rfl, rfl⟩) | (go_at_call 57; refine (c_mask _ _ hh.out).mono ?_; rintro e w' ⟨rfl, rfl⟩) | (go_at_call 62; refine (c_within _ _ _ _).mono ?_; rintro e w' ⟨rfl, rfl⟩))
    go_ret
    exact ⟨by simp, rfl⟩
theorem c_isInst1 (id ids : Int) (b : Nat) (w : World) (hc : w.cell? ⟨b, 0, none⟩ = some (.int .i64 ids)) (h : -9223372036854775807 ≤ ids) (h2 : ids ≤ 9223372036854775807) : Calls Tryz.prog 206 #[.int .i64 id, .pointer (some ⟨b, 0, none⟩)] w (Same (.bool (!isIdB ids id)) w) := by
  go_enter Tryz.func206, Tryz.ntmps206
  go_wp2_with (go_at_call 62; refine (c_within _ _ _ _).mono ?_; rintro e w' ⟨rfl, rfl⟩)
  go_ret
  exact ⟨rfl, rfl⟩
theorem c_isInst2 (n : Int) (w : World) : Calls Tryz.prog 207 #[.int .i64 n] w (Same (.bool (n != 0)) w) := by
  go_enter Tryz.func207, Tryz.ntmps207
  go_wp2
  go_ret
  exact ⟨rfl, rfl⟩
theorem c_isFunc1 (n : Int) (w : World) : Calls Tryz.prog 166 #[.int .i64 n] w (Same (.bool (!widthOk n)) w) := by
  go_enter Tryz.func166, Tryz.ntmps166
  go_wp2_with (go_at_call 56; refine (c_WidthOk _ _).mono ?_; rintro e w' ⟨rfl, rfl⟩)
  go_ret
  exact ⟨rfl, rfl⟩
end Go.Proofs.YtkcgejbnhpccdaaGreat
set_option linter.unusedSimpArgs false
set_option linter.unusedVariables false
namespace Go.Proofs.YtkcgejbnhpccdaaGreat
open Go.RowKit
set_option maxHeartbeats 400000 in
theorem c_Clone (v : Value) (xs : List Int) (w : World) (hv : RI lm w v xs) : Calls Tryz.prog 61 #[v] w (RetI xs w) := by
  obtain ⟨A, c, rfl, h1, h2, hv0⟩ := hv.sm
  have hn := hv.src.2.2.1
  clear hv
  have keq := fun W a l c => Lib.run_eql_slice_nil (P := Tryz.prog) W 24 2 a l c 0 0 Tryz.underlying24
  cases A with
  | none =>
    obtain rfl := hn rfl
    go_enter Tryz.func61, Tryz.ntmps61
    go_wp2
    go_ret
    exact ⟨_, rfl, ownI_nil _ _, Below.refl _ _⟩
  | some ad =>
    clear hn
    go_enter Tryz.func61, Tryz.ntmps61
    go_wp2_with (at_builtin; refine app_I rfl _ _ rfl w.heap.size _ [] xs rfl ?h1 (some ad) xs.length c rfl ?h2 (by simp) ?h3 ?h4)
    case h1 => exact World.ownsRow_made _ _ _ (Nat.le_refl _) (by unfold maxLen; omega) rfl
    case h2 => exact hv0.out.mv ((Below.refl _ _).al (Nat.le_refl _) _)
    case h3 => simp
    case h4 =>
      intro v' w' ho hg
      go_wp2
      go_ret
      refine ⟨_, rfl, ho, ((Below.refl _ w).al (Nat.le_refl _) (.cells #[] 2)).grown hg (by simp) (fun k hk => ?_)⟩
      simp only [Value.ownBlock, Option.some.injEq] at hk; omega
end Go.Proofs.YtkcgejbnhpccdaaGreat
set_option linter.unusedSimpArgs false
set_option linter.unusedVariables false
namespace Go.Proofs.YtkcgejbnhpccdaaGreat
open Go.RowKit
/-! an instruction as it is handed over -/
theorem opsOf_len (i : XInst) (h : i.args.length ≤ 1048576) : (opsOf i).length ≤ 1048576 := by
  rcases opsOf_le i with h' | ⟨h', _⟩
  · omega
  · rw [h']; exact h
theorem retI_made {w W : World} (hb : Below w.heap.size w W) (xs : List Int) (n g : Nat) (hn : n = xs.length) (hg : g = W.heap.size) (hl : n ≤ 1048576) : RetI xs w (.returned (.slice (some ⟨g, 0, none⟩) n n)) (W.alloc (.cells (xs.map (Value.int .i64)).toArray 2)) := by
  subst hn hg
  refine ⟨_, rfl, ⟨by simp, .inr ⟨W.heap.size, xs.length, (xs.map (Value.int .i64)).toArray, rfl, hb.size, ?_, Nat.le_refl _, by unfold maxLen; omega, by simp, ?_⟩⟩, hb.al hb.size _⟩
  · show (W.heap.push _)[W.heap.size]? = _
    simp
  · exact List.take_of_length_le (by simp)
theorem retI_nil {w W : World} (hb : Below w.heap.size w W) : RetI [] w (.returned (.slice none 0 0)) W := ⟨_, rfl, ownI_nil _ _, hb⟩
theorem RetI.later {w w1 : World} {xs : List Int} {e : Ending} {w' : World} (hb : Below w.heap.size w w1) (h : RetI xs w1 e w') : RetI xs w e w' := by
  obtain ⟨v, he, ⟨hl, ho⟩, hb'⟩ := h
  refine ⟨v, he, ⟨hl, ?_⟩, hb.then hb'⟩
  rcases ho with ho | ⟨g, cap, cur, hv, hg, r⟩
  · exact .inl ho
  · exact .inr ⟨g, cap, cur, hv, Nat.le_trans hb.size hg, r⟩
abbrev instV (i : XInst) (v : Value) : Value := .agg #[.int .i64 i.op, .int .i64 i.w, .int .i64 i.a, .int .i64 i.b, .int .i64 i.c, .int .i64 i.imm, v]
set_option maxHeartbeats 1000000 in
theorem c_OperandsOf (i : XInst) (v : Value) (w : World) (hv : RI lm w v i.args) : Calls Tryz.prog 137 #[instV i v] w (RetI (opsOf i) w) := by
  obtain ⟨op, wd, a, b, c, imm, args⟩ := i
  simp only [instV] at hv ⊢
  have hv0 := Hd.mk hv
  have hb := c_isBinary op
  have hc := c_isCast op
  have hbl := fun o => (Below.refl w.heap.size w).al (Nat.le_refl _) o
  clear hv
  by_cases h1 : bin op = true
  · rw [h1] at hb
    rw [show opsOf ⟨op, wd, a, b, c, imm, args⟩ = [a, b] by simp [opsOf, h1]]
    clear h1
    go_enter Tryz.func137, Tryz.ntmps137
    go_wp2_with (go_at_call 138; refine (hb _).mono ?_; rintro e w' ⟨rfl, rfl⟩)
    go_ret
    exact retI_made (hbl _) [a, b] 2 _ rfl (by simp) (by omega)
  rw [Bool.not_eq_true] at h1
  rw [h1] at hb
  by_cases h2 : op = 24
  · subst h2
    rw [show opsOf ⟨24, wd, a, b, c, imm, args⟩ = [a, b] by simp [opsOf]]
    go_enter Tryz.func137, Tryz.ntmps137
    go_wp2_with (go_at_call 138; refine (hb _).mono ?_; rintro e w' ⟨rfl, rfl⟩)
    go_ret
    exact retI_made (hbl _) [a, b] 2 _ rfl (by simp) (by omega)
  by_cases h3 : cst op = true
  · rw [h3] at hc
    rw [show opsOf ⟨op, wd, a, b, c, imm, args⟩ = [a] by simp [opsOf, h1, h2, h3]]
    have b2 := beqF h2
    clear h1 h2 h3
    go_enter Tryz.func137, Tryz.ntmps137
    go_wp2_with (first | (go_at_call 138; refine (hb _).mono ?_; rintro e w' ⟨rfl, rfl⟩) | (go_at_call 140; refine (hc _).mono ?_; rintro e w' ⟨rfl, rfl⟩))
    go_ret
    exact retI_made (hbl _) [a] 1 _ rfl (by simp) (by omega)
  rw [Bool.not_eq_true] at h3
  rw [h3] at hc
  by_cases h4 : op = 23 ∨ op = 25 ∨ op = 27
  · rcases h4 with rfl | rfl | rfl
    all_goals
      rw [show ∀ o, o = 23 ∨ o = 25 ∨ o = 27 → opsOf ⟨o, wd, a, b, c, imm, args⟩ = [a] from fun o ho => by rcases ho with rfl | rfl | rfl <;> simp [opsOf, bin, inR]]
      · clear h1 h2 h3
        go_enter Tryz.func137, Tryz.ntmps137
        go_wp2_with (first | (go_at_call 138; refine (hb _).mono ?_; rintro e w' ⟨rfl, rfl⟩) | (go_at_call 140; refine (hc _).mono ?_; rintro e w' ⟨rfl, rfl⟩))
        go_ret
        exact retI_made (hbl _) [a] 1 _ rfl (by simp) (by omega)
      · simp
  obtain ⟨h5, h6, h7⟩ : op ≠ 23 ∧ op ≠ 25 ∧ op ≠ 27 := by omega
  clear h4
  have b2 := beqF h2
  have b5 := beqF h5
  have b6 := beqF h6
  have b7 := beqF h7
  by_cases h8 : op = 22
  · subst h8
    rw [show opsOf ⟨22, wd, a, b, c, imm, args⟩ = [a, b, c] by simp [opsOf, bin, cst, inR]]
    clear h1 h2 h3 h5 h6 h7 b2 b5 b6 b7
    go_enter Tryz.func137, Tryz.ntmps137
    go_wp2_with (first | (go_at_call 138; refine (hb _).mono ?_; rintro e w' ⟨rfl, rfl⟩) | (go_at_call 140; refine (hc _).mono ?_; rintro e w' ⟨rfl, rfl⟩))
    go_ret
    exact retI_made (hbl _) [a, b, c] 3 _ rfl (by simp) (by omega)
  have b8 := beqF h8
  by_cases h9 : op = 26
  · subst h9
    rw [show opsOf ⟨26, wd, a, b, c, imm, args⟩ = args by simp [opsOf, bin, cst, inR]]
    clear h1 h2 h3 h5 h6 h7 b2 b5 b6 b7 b8 h8
    go_enter Tryz.func137, Tryz.ntmps137
    go_wp2_with (first | (go_at_call 138; refine (hb _).mono ?_; rintro e w' ⟨rfl, rfl⟩) | (go_at_call 140; refine (hc _).mono ?_; rintro e w' ⟨rfl, rfl⟩) | (go_at_call 61; refine (c_Clone _ _ _ (hv0.out.mv (hbl _))).mono ?_; rintro e w' hr; obtain ⟨v', rfl, ho, hb'⟩ := hr.later (hbl _)))
    go_ret
    exact ⟨_, rfl, ho, hb'⟩
  · have b9 := beqF h9
    rw [show opsOf ⟨op, wd, a, b, c, imm, args⟩ = [] by simp [opsOf, h1, h2, h3, h5, h6, h7, h8, h9]]
    clear h1 h2 h3 h5 h6 h7 h8 h9
    go_enter Tryz.func137, Tryz.ntmps137
    go_wp2_with (first | (go_at_call 138; refine (hb _).mono ?_; rintro e w' ⟨rfl, rfl⟩) | (go_at_call 140; refine (hc _).mono ?_; rintro e w' ⟨rfl, rfl⟩))
    go_ret
    exact retI_nil (hbl _)
end Go.Proofs.YtkcgejbnhpccdaaGreat
set_option linter.unusedSimpArgs false
set_option linter.unusedVariables false
namespace Go.Proofs.YtkcgejbnhpccdaaGreat
open Go.RowKit
theorem rd_at (W : World) (g off c : Nat) (xs : List Int) (hc : xs.length ≤ c) (hl : xs.length ≤ 1048576) (hb : g < W.heap.size) (h : ∀ j (h : j < xs.length), W.cell? ⟨g, off + j, none⟩ = some (.int .i64 xs[j])) : RI lm W (.slice (some ⟨g, off, none⟩) xs.length c) xs :=
  ⟨_, c, rfl, hc, hl, fun h => (by cases h), fun _ => ⟨g, off, rfl, hb, fun i hi => ⟨_, rfl, rfl, fun j hj => by
    obtain rfl : j = 0 := by simpa using hj
    simpa using h i hi⟩⟩⟩
theorem c_isWidth (i : XInst) (v : Value) (w : World) : Calls Tryz.prog 208 #[instV i v] w (Ret (.bool (wFits i)) w) := by
  obtain ⟨op, wd, a, b, c, imm, args⟩ := i
  simp only [instV]
  have hbl := fun o => (Below.refl w.heap.size w).al (Nat.le_refl _) o
  by_cases h1 : op = 24
  · subst h1
    go_enter Tryz.func208, Tryz.ntmps208
    go_wp2
    go_ret
    exact ⟨rfl, hbl _⟩
  by_cases h2 : op = 25
  · subst h2
    go_enter Tryz.func208, Tryz.ntmps208
    go_wp2
    go_ret
    exact ⟨rfl, hbl _⟩
  by_cases h3 : op = 23
  · subst h3
    go_enter Tryz.func208, Tryz.ntmps208
    go_wp2
    go_ret
    exact ⟨rfl, hbl _⟩
  · rw [show wFits ⟨op, wd, a, b, c, imm, args⟩ = widthOk wd by simp [wFits, h1, h2, h3]]
    go_enter Tryz.func208, Tryz.ntmps208
    go_wp2_with (go_at_call 56; refine (c_WidthOk _ _).mono ?_; rintro e w' ⟨rfl, rfl⟩)
    go_ret
    exact ⟨rfl, hbl _⟩
theorem c_isImm (i : XInst) (v : Value) (funcs : Int) (w : World) (hf : 0 ≤ funcs) (hf2 : funcs ≤ 1048576) : Calls Tryz.prog 209 #[instV i v, .int .i64 funcs] w (Ret (.bool (immFits i funcs)) w) := by
  obtain ⟨op, wd, a, b, c, imm, args⟩ := i
  simp only [instV]
  have hbl := fun o => (Below.refl w.heap.size w).al (Nat.le_refl _) o
  by_cases h1 : op = 21
  · subst h1
    go_enter Tryz.func209, Tryz.ntmps209
    go_wp2_with (go_at_call 92; refine (c_isValue _ _ _).mono ?_; rintro e w' ⟨rfl, rfl⟩)
    go_ret
    exact ⟨rfl, hbl _⟩
  by_cases h2 : op = 26
  · subst h2
    go_enter Tryz.func209, Tryz.ntmps209
    go_wp2_with (go_at_call 62; refine (c_within _ _ _ _).mono ?_; rintro e w' ⟨rfl, rfl⟩)
    go_ret
    exact ⟨rfl, hbl _⟩
  · rw [show immFits ⟨op, wd, a, b, c, imm, args⟩ funcs = (imm == 0) by simp [immFits, h1, h2]]
    go_enter Tryz.func209, Tryz.ntmps209
    go_wp2
    go_ret
    exact ⟨rfl, hbl _⟩
/-- The tests ahead of the list of ids. -/
def instPre (i : XInst) : Bool := inR i.op 1 27 && decide (i.args.length ≤ 4) && (i.args.isEmpty || i.op == 26)
theorem instOk_pre (ids funcs : Int) (i : XInst) : instOk ids funcs i = (instPre i && ((opsOf i).all (isIdB ids) && (([i.a, i.b, i.c].drop (ownN i)).all (· == 0) && (wFits i && immFits i funcs)))) := by
  simp only [instOk, instPre, Bool.and_assoc]
theorem pb_isInst1 (W : World) (b : Nat) (ids : Int) (hb : b < W.heap.size) (hc : W.cell? ⟨b, 0, none⟩ = some (.int .i64 ids)) (h : 0 ≤ ids) (h2 : ids ≤ 1048576) :
    PB Tryz.prog 206 #[.pointer (some ⟨b, 0, none⟩)] KInt arg1 (fun id => !isIdB ids id) W := fun W' x cs hW hk => by
  cases hk
  exact Same.ret (c_isInst1 x ids b W' ((hW.cell (p := ⟨b, 0, none⟩) hb).trans hc) (by omega) (by omega))
theorem pb_isInst2 (W : World) : PB Tryz.prog 207 #[] KInt arg1 (fun n => n != 0) W := fun W' x cs hW hk => by
  cases hk
  exact Same.ret (c_isInst2 x W')
theorem any_ne (l : List Int) : (l.any fun n => n != 0) = !(l.all fun n => n == 0) := any_not (fun n => n == 0) l
theorem three (W : World) (a b c : Int) (n : Nat) (hn : n ≤ 2) : RI lm (W.alloc (.cells #[.int .i64 a, .int .i64 b, .int .i64 c] 2)) (.slice (some ⟨W.heap.size, n, none⟩) (3 - n) (3 - n)) ([a, b, c].drop n) := by
  have h := rd_at (W.alloc (.cells #[.int .i64 a, .int .i64 b, .int .i64 c] 2)) W.heap.size n (3 - n) ([a, b, c].drop n) (by simp) (by simp; omega) (by simp) (fun j hj => by
    simp at hj ⊢
    have : (n = 0 ∧ j = 0) ∨ (n = 0 ∧ j = 1) ∨ (n = 0 ∧ j = 2) ∨ (n = 1 ∧ j = 0) ∨ (n = 1 ∧ j = 1) ∨ (n = 2 ∧ j = 0) := by omega
    rcases this with ⟨rfl, rfl⟩ | ⟨rfl, rfl⟩ | ⟨rfl, rfl⟩ | ⟨rfl, rfl⟩ | ⟨rfl, rfl⟩ | ⟨rfl, rfl⟩ <;> rfl)
  simpa using h
theorem three' (W : World) (a b c : Int) {n : Nat} {l : List Int} (_ : n = l.length) (hn : n ≤ 3) : RI lm (W.alloc (.cells #[.int .i64 a, .int .i64 b, .int .i64 c] 2)) (.slice (some ⟨W.heap.size, if n = 3 then 0 else n, none⟩) (3 - n) (3 - n)) ([a, b, c].drop n) := by
  by_cases h : n = 3
  · subst h
    exact ⟨_, 0, rfl, Nat.le_refl _, by simp, fun h => (by cases h), fun h => absurd h (by simp)⟩
  · rw [if_neg h]; exact three W a b c n (by omega)
set_option maxHeartbeats 2000000 in
theorem c_isInst26 (i : XInst) (v : Value) (ids funcs : Int) (w : World) (hv : RI lm w v i.args) (hi : 0 ≤ ids) (hi2 : ids ≤ 1048576) (hf : 0 ≤ funcs) (hf2 : funcs ≤ 1048576) (ho : i.op = 26) (hl4 : i.args.length ≤ 4) :
    Calls Tryz.prog 171 #[instV i v, .int .i64 ids, .int .i64 funcs] w (Ret (.bool (instOk ids funcs i)) w) := by
  have hin := c_within i.op 1 27
  have hops := c_OperandsOf i
  have hw0 := c_isWidth i
  have hm0 := c_isImm i
  obtain ⟨A, c, rfl, _, hl, hv0⟩ := hv.sm
  have e1 := enters_of Tryz.func206 (by kernel_rfl) rfl
  have e2 := enters_of Tryz.func207 (by kernel_rfl) rfl
  have hp := instOk_pre ids funcs i
  have hpre : instPre i = true := by simp [instPre, ho, hl4, inR]
  have hbl := fun o o' => ((Below.refl w.heap.size w).al (Nat.le_refl _) o).al (by simp) o'
  obtain ⟨op, wd, a, b, c0, imm, args⟩ := i
  simp only [instV] at *
  subst ho
  rw [hpre] at hp
  rw [show inR 26 1 27 = true from rfl] at hin
  rw [show ownN ⟨26, wd, a, b, c0, imm, args⟩ = 0 from rfl, show opsOf ⟨26, wd, a, b, c0, imm, args⟩ = args from rfl] at hp
  rw [show opsOf ⟨26, wd, a, b, c0, imm, args⟩ = args from rfl] at hops
  generalize instOk ids funcs _ = R at *
  generalize hQ : args.all _ = Q1 at *
  have hR := Hd.mk hp
  have hQ' := Hd.mk hQ
  clear hp hQ hpre
  have d4 : decide (4 < (args.length : Int)) = false := by simp; omega
  by_cases d0 : 0 < args.length
  all_goals
    go_enter Tryz.func171, Tryz.ntmps171
    go_wp2_with fail
    refine (hin _).mono ?_
    rintro e w' ⟨rfl, rfl⟩
    go_wp2_with fail
    refine (hops _ _ (hv0.out.mv (hbl _ _))).mono ?_
    rintro e w1 ⟨v', rfl, ho1, hb1⟩
    have hr1 : RI lm w1 v' args := (own_ints ho1 (by omega)).2
    obtain ⟨A1, c1, rfl, hcA, -, hr1'⟩ := hr1.sm
    clear ho1 hr1
    have hz1 := hb1.size
    simp at hz1
    have k0 := bat hb1 w.heap.size (by simp; omega)
    have k1 := bat hb1 (w.heap.size + 1) (by simp)
    simp at k0 k1
    have hbw := Hd.mk ((hbl _ _).then hb1)
    go_wp2_with fail
    have hcon := c_ConI _ args _ _ (fun id => !isIdB ids id) _ hr1'.out e1 (pb_isInst1 w1 (w.heap.size + 1) ids (by omega) (by rw [k1]; rfl) hi hi2)
    rw [any_not, hQ'.out] at hcon
    cases Q1 with
    | false =>
      refine hcon.mono ?_
      rintro e w2 ⟨rfl, hb2⟩
      clear hcon
      have e := hR.out
      simp at e
      subst e
      go_wp2
      go_ret
      exact ⟨rfl, hbw.out.then hb2⟩
    | true =>
      refine hcon.mono ?_
      rintro e w2 ⟨rfl, hb2⟩
      clear hcon
      have hz2 := hb2.size
      replace k0 := fun o => (bat hb2 w.heap.size (by omega) o).trans (k0 o)
      clear k1
      have hbw2 := Hd.mk (hbw.out.then hb2)
      go_wp2_with fail
      have hcon2 := c_ConI _ _ _ #[] (fun n => n != 0) _ (three w2 a b c0 0 (by omega)) e2 (pb_isInst2 _)
      rw [any_ne] at hcon2
      generalize hq3 : ([a, b, c0].drop 0).all _ = Q3 at hcon2
      have hR2 := hR.out
      rw [hq3] at hR2
      cases Q3 with
      | false =>
        refine hcon2.mono ?_
        rintro e w3 ⟨rfl, hb3⟩
        simp at hR2
        subst hR2
        go_wp2
        go_ret
        exact ⟨rfl, (hbw2.out.al hbw2.out.size _).then hb3⟩
      | true =>
        refine hcon2.mono ?_
        rintro e w3 ⟨rfl, hb3⟩
        replace k0 := fun o => (bat hb3 w.heap.size (by simp; omega) o).trans ((World.cell?_alloc_past _ _ _ (by omega)).trans (k0 o))
        have hbw3 := Hd.mk ((hbw2.out.al hbw2.out.size _).then hb3)
        go_wp2_with fail
        refine (hw0 _ _).mono ?_
        rintro e w4 ⟨rfl, hb4⟩
        have hbw4 := Hd.mk (hbw3.out.then hb4)
        have hz3 := hb3.size
        simp at hz3
        replace k0 := fun o => (bat hb4 w.heap.size (by omega) o).trans (k0 o)
        generalize wFits _ = Q4 at *
        cases Q4 with
        | false =>
          simp at hR2
          subst hR2
          go_wp2
          go_ret
          exact ⟨rfl, hbw4.out⟩
        | true =>
          simp at hR2
          go_wp2_with fail
          refine (hm0 _ _ _ hf hf2).mono ?_
          rintro e w5 ⟨rfl, hb5⟩
          go_wp2
          go_ret
          exact ⟨by rw [hR2]; rfl, hbw4.out.then hb5⟩
set_option maxHeartbeats 2000000 in
theorem c_isInstO (i : XInst) (v : Value) (ids funcs : Int) (w : World) (hv : RI lm w v i.args) (hi : 0 ≤ ids) (hi2 : ids ≤ 1048576) (hf : 0 ≤ funcs) (hf2 : funcs ≤ 1048576) (ho : i.op ≠ 26) (hin' : inR i.op 1 27 = true) (hl0 : i.args = []) :
    Calls Tryz.prog 171 #[instV i v, .int .i64 ids, .int .i64 funcs] w (Ret (.bool (instOk ids funcs i)) w) := by
  have hin := c_within i.op 1 27
  have hops := c_OperandsOf i
  have hw0 := c_isWidth i
  have hm0 := c_isImm i
  obtain ⟨A, c, rfl, _, hl, hv0⟩ := hv.sm
  have e1 := enters_of Tryz.func206 (by kernel_rfl) rfl
  have e2 := enters_of Tryz.func207 (by kernel_rfl) rfl
  have hp := instOk_pre ids funcs i
  have hpre : instPre i = true := by simp [instPre, hl0, hin']
  have hnO : ownN i = (opsOf i).length := by simp [ownN, ho]
  have hn3 : (opsOf i).length ≤ 3 := by rcases opsOf_le i with h | ⟨_, h⟩; exact h; exact absurd h ho
  have hbl := fun o o' => ((Below.refl w.heap.size w).al (Nat.le_refl _) o).al (by simp) o'
  obtain ⟨op, wd, a, b, c0, imm, args⟩ := i
  simp only [instV] at *
  subst hl0
  rw [hpre, hnO] at hp
  rw [hin'] at hin
  have bo := beqF ho
  generalize instOk ids funcs _ = R at *
  generalize opsOf _ = l at *
  generalize hQ : l.all _ = Q1 at *
  clear hnO hin'
  have hR := Hd.mk hp
  have hQ' := Hd.mk hQ
  clear hp hQ hpre
  obtain ⟨n, hn⟩ : ∃ n, n = l.length := ⟨_, rfl⟩
  have hq : n = 0 ∨ n = 1 ∨ n = 2 ∨ n = 3 := by omega
  clear ho
  rw [← hn] at hR
  have hn' := Hd.mk hn
  clear hn hn3
  rcases hq with rfl | rfl | rfl | rfl
  all_goals
    go_enter Tryz.func171, Tryz.ntmps171
    go_wp2_with fail
    refine (hin _).mono ?_
    rintro e w' ⟨rfl, rfl⟩
    go_wp2_with fail
    refine (hops _ _ (hv0.out.mv (hbl _ _))).mono ?_
    rintro e w1 ⟨v', rfl, ho1, hb1⟩
    have hr1 : RI lm w1 v' l := (own_ints ho1 (by have := hn'.out; simp only [lm]; omega)).2
    obtain ⟨A1, c1, rfl, hcA, -, hr1'⟩ := hr1.sm
    rw [← hn'.out] at hr1'
    rw [← hn'.out]
    clear hcA
    clear ho1 hr1
    have hz1 := hb1.size
    simp at hz1
    have k0 := bat hb1 w.heap.size (by simp; omega)
    have k1 := bat hb1 (w.heap.size + 1) (by simp)
    simp at k0 k1
    have hbw := Hd.mk ((hbl _ _).then hb1)
    go_wp2_with fail
    have hcon := c_ConI _ l _ _ (fun id => !isIdB ids id) _ hr1'.out e1 (pb_isInst1 w1 (w.heap.size + 1) ids (by omega) (by rw [k1]; rfl) hi hi2)
    rw [any_not, hQ'.out] at hcon
    cases Q1 with
    | false =>
      refine hcon.mono ?_
      rintro e w2 ⟨rfl, hb2⟩
      clear hcon
      have e := hR.out
      simp at e
      subst e
      go_wp2
      go_ret
      exact ⟨rfl, hbw.out.then hb2⟩
    | true =>
      refine hcon.mono ?_
      rintro e w2 ⟨rfl, hb2⟩
      clear hcon
      have hz2 := hb2.size
      replace k0 := fun o => (bat hb2 w.heap.size (by omega) o).trans (k0 o)
      clear k1
      have hbw2 := Hd.mk (hbw.out.then hb2)
      go_wp2_with fail
      have hcon2 := c_ConI _ _ _ #[] (fun n => n != 0) _ (three' w2 a b c0 hn'.out (by omega)) e2 (pb_isInst2 _)
      rw [any_ne] at hcon2
      generalize hq3 : (List.drop _ [a, b, c0]).all _ = Q3 at hcon2
      have hR2 := hR.out
      rw [hq3] at hR2
      cases Q3 with
      | false =>
        refine hcon2.mono ?_
        rintro e w3 ⟨rfl, hb3⟩
        simp at hR2
        subst hR2
        go_wp2
        go_ret
        exact ⟨rfl, (hbw2.out.al hbw2.out.size _).then hb3⟩
      | true =>
        refine hcon2.mono ?_
        rintro e w3 ⟨rfl, hb3⟩
        replace k0 := fun o => (bat hb3 w.heap.size (by simp; omega) o).trans ((World.cell?_alloc_past _ _ _ (by omega)).trans (k0 o))
        have hbw3 := Hd.mk ((hbw2.out.al hbw2.out.size _).then hb3)
        go_wp2_with fail
        refine (hw0 _ _).mono ?_
        rintro e w4 ⟨rfl, hb4⟩
        have hbw4 := Hd.mk (hbw3.out.then hb4)
        have hz3 := hb3.size
        simp at hz3
        replace k0 := fun o => (bat hb4 w.heap.size (by omega) o).trans (k0 o)
        generalize wFits _ = Q4 at *
        cases Q4 with
        | false =>
          simp at hR2
          subst hR2
          go_wp2
          go_ret
          exact ⟨rfl, hbw4.out⟩
        | true =>
          simp at hR2
          go_wp2_with fail
          refine (hm0 _ _ _ hf hf2).mono ?_
          rintro e w5 ⟨rfl, hb5⟩
          go_wp2
          go_ret
          exact ⟨by rw [hR2]; rfl, hbw4.out.then hb5⟩
end Go.Proofs.YtkcgejbnhpccdaaGreat
