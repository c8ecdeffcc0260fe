/- An append to a row of numbers of the call's own, and the contract of Clone. No conditions. -/
import Derived.Test.YtdnbiohohbnhgaaC1
import Derived.Laws.AppendOwnNone
set_option linter.unusedSimpArgs false
set_option linter.unusedVariables false
namespace Go.Proofs.Ytdnbiohohbnhgaa
open Go.RowKit
theorem infoI : (Try.prog.info? 2).map (fun i => (i.zero, i.size, i.bytes)) = some (some (.int .i64 0), 1, 8) := by kernel_rfl
/-- A fresh list of numbers. -/
def RetI (xs : List Int) (w : World) (e : Ending) (w' : World) : Prop := ∃ v, e = .returned v ∧ w'.ownsRow w.heap.size 2 1 v xs.length (xs.map (Value.int .i64)) ∧ Below w.heap.size w w'
theorem Rd.src {w : World} {A : Option Addr} {n c : Nat} {xs : List Int} (h : Rd lm 1 KInt w (.slice A n c) xs) : n = xs.length ∧ xs.length ≤ 1048576 ∧ (A = none → xs = []) ∧ ∀ ad, A = some ad → ∀ j u, (xs.map (Value.int .i64))[j]? = some u → w.cell? (ad.add j) = some u := by
  obtain ⟨A', c', hv, h1, h2, _, h3⟩ := h
  cases hv
  refine ⟨rfl, h2, fun hA => ?_, fun ad hA j u hj => ?_⟩
  · rcases Nat.eq_zero_or_pos xs.length with h0 | h0
    · exact List.eq_nil_of_length_eq_zero h0
    · obtain ⟨b, off, e, _⟩ := h3 h0
      rw [hA] at e; cases e
  · have hjl := (List.getElem?_eq_some_iff.1 hj).1
    simp at hjl
    obtain ⟨b, off, e, hb, hat⟩ := h3 (by omega)
    rw [hA] at e; cases e
    obtain ⟨cs, rfl, _, hc⟩ := hat j hjl
    have := hc 0 (by simp)
    simp only [List.getElem?_map, List.getElem?_eq_getElem hjl, Option.map_some, Option.some.injEq] at hj
    subst hj
    simpa [Addr.add_lit] using this
theorem ownI_nil (w : World) (base : Nat) : w.ownsRow base 2 1 (.slice none 0 0) ([] : List Int).length (([] : List Int).map (Value.int .i64)) := World.ownsRow_nil w base _ _
/-- One number, in a new block. -/
theorem rd_one (W : World) (x : Int) : Rd lm 1 KInt (W.alloc (.cells #[.int .i64 x] 2)) (.slice (some ⟨W.heap.size, 0, none⟩) 1 1) [x] := by
  refine ⟨_, 1, rfl, by simp, by simp [lm], fun h => (by cases h), fun _ => ⟨W.heap.size, 0, rfl, by simp, fun i hi => ⟨_, rfl, rfl, fun j hj => ?_⟩⟩⟩
  obtain rfl : j = 0 := by simpa using hj
  obtain rfl : i = 0 := by simpa using hi
  simp
/-- append(v, ys...): v the call's own, ys whatever is read. -/
theorem app_I {ops : Array Oper} {rest : List Oper} {o : Oper} {a : Act} {Q : Exit → Act → World → Prop} {W : World} (hgd : o.guard = none) (s x : Operand)
    (ho : o.op = .call { callee := .builtin .append, args := #[s, x], argTypes := #[22, 22] }) (base : Nat) (v : Value) (xs ys : List Int) (hs : a.eval s = v)
    (hown : W.ownsRow base 2 1 v xs.length (xs.map (Value.int .i64))) (A : Option Addr) (n c : Nat) (hx : a.eval x = .slice A n c) (hr : RI lm W (.slice A n c) ys) (hl : xs.length ≤ 1099511627776) (hb : base ≤ W.heap.size)
    (h : ∀ v' w', w'.ownsRow base 2 1 v' (xs ++ ys).length ((xs ++ ys).map (Value.int .i64)) → W.grownBy w' v.ownBlock → wpList Try.prog ops Q rest (a.put o.dst v') w') : wpList Try.prog ops Q (o :: rest) a W := by
  obtain ⟨i0, hi, hz0, hz1, hz2⟩ := info_parts infoI
  obtain ⟨rfl, hle, hn, hsrc⟩ := hr.src
  cases A with
  | none =>
    obtain rfl := hn rfl
    obtain ⟨A', c', hv, _, _, hc0, _⟩ := hr
    cases hv
    obtain rfl := hc0 rfl
    refine wpList_append_own_none hgd s x 22 ho base 2 i0 1 Try.underlying22 hi v xs.length _ hs hown hx (h v W (by simpa using hown) ⟨rfl, rfl, rfl, Nat.le_refl _, fun _ _ _ => rfl⟩)
  | some ad =>
    refine wpList_append_own W hgd s x 22 ho base 2 i0 (.int .i64 0) 1 8 Try.underlying22 hi hz0 hz1 hz2 rfl (by decide) v xs.length _ hs hown ad ys.length c (ys.map (Value.int .i64)) hx (by simp) (hsrc ad rfl) (by simp [Value.oneCell']) (by unfold maxLen; omega) (by omega) hb fun v' w' h1 h2 _ => h v' w' (by simpa using h1) h2
theorem below_app {w W w' : World} {v : Value} {base n : Nat} {cs : List Value} (hb : Below w.heap.size w W) (hg : W.grownBy w' v.ownBlock) (hw : w.heap.size ≤ W.heap.size) (hown : W.ownsRow base 2 1 v n cs) (hbase : w.heap.size ≤ base) : Below w.heap.size w w' :=
  hb.grown hg hw fun k hk => Nat.le_trans hbase (by
    rcases hown.2 with ⟨rfl, _⟩ | ⟨g, cap, cur, rfl, h, _⟩
    · simp [Value.ownBlock] at hk
    · simp only [Value.ownBlock, Option.some.injEq] at hk; omega)
set_option maxHeartbeats 400000 in
theorem c_Clone (v : Value) (xs : List Int) (w : World) (hv : RI lm w v xs) : Calls Try.prog 134 #[v] w (RetI xs w) := by
  obtain ⟨A, c, rfl, h1, h2, hv0⟩ := hv.sm
  have hn := hv.src.2.2.1
  clear hv
  have keq := fun W a l c => Lib.run_eql_slice_nil (P := Try.prog) W 22 2 a l c 0 0 Try.underlying22
  cases A with
  | none =>
    obtain rfl := hn rfl
    go_enter Try.func134, Try.ntmps134
    go_wp2
    go_ret
    exact ⟨_, rfl, ownI_nil _ _, Below.refl _ _⟩
  | some ad =>
    clear hn
    go_enter Try.func134, Try.ntmps134
    go_wp2_with (at_builtin; refine app_I rfl _ _ rfl w.heap.size _ [] xs rfl ?h1 (some ad) xs.length c rfl ?h2 (by simp) ?h3 ?h4)
    case h1 => exact World.ownsRow_made _ _ _ (Nat.le_refl _) (by unfold maxLen; omega) rfl
    case h2 => exact hv0.out.mv ((Below.refl _ _).al (Nat.le_refl _) _)
    case h3 => simp
    case h4 =>
      intro v' w' ho hg
      go_wp2
      go_ret
      refine ⟨_, rfl, ho, ((Below.refl _ w).al (Nat.le_refl _) (.cells #[] 2)).grown hg (by simp) (fun k hk => ?_)⟩
      simp only [Value.ownBlock, Option.some.injEq] at hk; omega
end Go.Proofs.Ytdnbiohohbnhgaa
