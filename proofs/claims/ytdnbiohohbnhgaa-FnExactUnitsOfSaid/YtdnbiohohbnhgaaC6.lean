/- Contracts of the closures and of CountOf. No conditions. -/
import Derived.Test.YtdnbiohohbnhgaaC5
set_option linter.unusedSimpArgs false
set_option linter.unusedVariables false
namespace Go.Proofs.Ytdnbiohohbnhgaa
open Go.RowKit
theorem countIn_bd (n : Int) (l : List XBlock) (k : Nat) (h : ∀ b ∈ l, b.phis.length ≤ 1048576 ∧ b.insts.length ≤ 1048576) (hk : k ≤ l.length) : countIn n (l.take k) ≤ n + 2097152 * k := by
  induction k with
  | zero => simp [countIn]
  | succ k ih =>
    rw [countIn_snoc n l k (by omega)]
    have := ih (by omega)
    have hb := h l[k] (List.getElem_mem _)
    unfold sizeB
    omega
theorem Rd.blocks {w : World} {v : Value} {l : List XBlock} (h : RBlock lm w v l) : ∀ b ∈ l, b.phis.length ≤ 1048576 ∧ b.insts.length ≤ 1048576 := by
  intro b hb
  obtain ⟨i, hi, rfl⟩ := List.getElem_of_mem hb
  obtain ⟨_, _, _, cs, _, _, ⟨v1, v2, _, h1, h2⟩, _⟩ := h.at_ i hi
  exact ⟨h1.len, h2.len⟩
set_option maxHeartbeats 1000000 in
theorem c_CountOf (f : XFunc) (cs : List Value) (w : World) (hf : KFunc lm w f cs) : Calls Try.prog 53 #[.agg cs.toArray] w (Ret (.int .i64 (countOf f)) w) := by
  obtain ⟨v1, v2, rfl, hp, hb⟩ := hf
  have hbd := Hd.mk hb.blocks
  obtain ⟨A1, c1, rfl, -, hl1, -⟩ := hp.sm
  obtain ⟨A2, c2, rfl, -, hl2, hb0⟩ := hb.sm
  clear hb hp
  unfold countOf
  generalize f.params.length = n at *
  generalize f.blocks = l at *
  generalize f.ret = r at *
  go_enter Try.func53, Try.ntmps53
  go_wp2
  go_loopw [3, 12] (fun s3 s12 wr => ∃ k : Nat, k ≤ l.length ∧ s12 = .int .i64 k ∧ s3 = .int .i64 (countIn n (l.take k)) ∧ Hd (Below w.heap.size w wr)) (fun _ s12 _ => l.length - (intOf s12).toNat)
  case atStart => exact ⟨0, Nat.zero_le _, rfl, by simp [countIn], ⟨(Below.refl _ w).al (Nat.le_refl _) _⟩⟩
  case round =>
    obtain ⟨k, hk, rfl, rfl, hbw⟩ := hrel
    have hc1 := countIn_bd n l k hbd.out hk
    have hc2 := countIn_le n (l.take k)
    by_cases hlt : k < l.length
    · obtain ⟨b, off, cs, hA, hbl, ⟨v1, v2, rfl, hr, hr2⟩, hat⟩ := hb0.out.in_ hbw.out k hlt
      cases hA
      have g0 := hat 0 _ rfl
      have g1 := hat 1 _ rfl
      have g2 := hat 2 _ rfl
      have g3 := hat 3 _ rfl
      have g4 := hat 4 _ rfl
      have g5 := hat 5 _ rfl
      clear hat
      simp at g0 g1 g2 g3 g4 g5
      obtain ⟨A1, c1, rfl, -, hl3, -⟩ := hr.sm
      obtain ⟨A2, c2, rfl, -, hl4, -⟩ := hr2.sm
      have hsn := Hd.mk (countIn_snoc n l k hlt)
      generalize countIn n (l.take k) = s at *
      have hb1 := hbw.out.size
      go_wp2
      go_roundw
      case rel => exact ⟨k + 1, by omega, by go_num, by rw [hsn.out]; rfl, ⟨hbw.out.al hb1 _⟩⟩
      case measure => simp [intOf]; omega
    · have e : k = l.length := by omega
      subst e
      go_wp2
      go_ret
      exact ⟨by rw [List.take_length]; rfl, hbw.out⟩
theorem c_isFunc21 (id ids : Int) (b : Nat) (w : World) (hc : w.cell? ⟨b, 0, none⟩ = some (.int .i64 ids)) (h : 0 ≤ ids) (h2 : ids ≤ 1048576) : Calls Try.prog 87 #[.int .i64 id, .pointer (some ⟨b, 0, none⟩)] w (Same (.bool (!isIdB ids id)) w) := by
  go_enter Try.func87, Try.ntmps87
  go_wp2_with (go_at_call 42; refine (c_within _ _ _ _).mono ?_; rintro e w' ⟨rfl, rfl⟩)
  go_ret
  exact ⟨rfl, rfl⟩
theorem pb_isFunc21 (W : World) (b : Nat) (ids : Int) (hb : b < W.heap.size) (hc : W.cell? ⟨b, 0, none⟩ = some (.int .i64 ids)) (h : 0 ≤ ids) (h2 : ids ≤ 1048576) :
    PB Try.prog 87 #[.pointer (some ⟨b, 0, none⟩)] KInt arg1 (fun id => !isIdB ids id) W := fun W' x cs hW hk => by
  cases hk
  exact Same.ret (c_isFunc21 x ids b W' ((hW.cell (p := ⟨b, 0, none⟩) hb).trans hc) h h2)
theorem pb_isFunc1 (W : World) : PB Try.prog 84 #[] KInt arg1 (fun n => !widthOk n) W := fun W' x cs hW hk => by
  cases hk
  exact Same.ret (c_isFunc1 x W')
set_option maxHeartbeats 1000000 in
theorem c_isFunc2 (p : XPhi) (cs : List Value) (ids : Int) (b : Nat) (w : World) (hk : KPhi lm w p cs) (hb : b < w.heap.size) (hc : w.cell? ⟨b, 0, none⟩ = some (.int .i64 ids)) (h : 0 ≤ ids) (h2 : ids ≤ 1048576) :
    Calls Try.prog 86 #[.agg cs.toArray, .pointer (some ⟨b, 0, none⟩)] w (Ret (.bool (!phiOk ids p)) w) := by
  obtain ⟨v, rfl, hr⟩ := hk
  have hw := c_WidthOk p.w
  have e1 := enters_of Try.func87 (by kernel_rfl) rfl
  obtain ⟨A, c, rfl, -, hl, hr0⟩ := hr.sm
  have hbl := fun o => (Below.refl w.heap.size w).al (Nat.le_refl _) o
  unfold phiOk
  generalize hq : widthOk p.w = q at *
  have hcon := fun W hW => c_ConI _ p.ins _ _ (fun id => !isIdB ids id) W (hr0.out.mv hW) e1 (pb_isFunc21 W b ids (Nat.lt_of_lt_of_le hb hW.size) ((bat hW b hb 0).trans hc) h h2)
  simp only [any_not] at hcon
  generalize hq1 : p.ins.all (isIdB ids) = q1 at *
  generalize p.ins = l at *
  generalize p.w = wd at *
  clear hr hq hq1
  cases q with
  | false =>
    go_enter Try.func86, Try.ntmps86
    go_wp2_with (go_at_call 69; refine (hw _).mono ?_; rintro e w' ⟨rfl, rfl⟩)
    go_ret
    exact ⟨by simp, hbl _⟩
  | true =>
    by_cases h3 : 10 < l.length
    · have h4 : decide (10 < (l.length : Int)) = true := by simp; omega
      go_enter Try.func86, Try.ntmps86
      go_wp2_with (go_at_call 69; refine (hw _).mono ?_; rintro e w' ⟨rfl, rfl⟩)
      go_ret
      exact ⟨by simp; omega, hbl _⟩
    · have h4 : decide (l.length ≤ 10) = true := by simp; omega
      rw [h4]
      have h5 : decide (10 < (l.length : Int)) = false := by simp; omega
      go_enter Try.func86, Try.ntmps86
      go_wp2_with (first | (go_at_call 69; refine (hw _).mono ?_; rintro e w' ⟨rfl, rfl⟩) | (go_at_call 65; refine (hcon _ (hbl _)).mono ?_; rintro e w' ⟨rfl, hb'⟩))
      go_ret
      exact ⟨by simp, (hbl _).then hb'⟩
theorem pb_isFunc2 (W : World) (b : Nat) (ids : Int) (hb : b < W.heap.size) (hc : W.cell? ⟨b, 0, none⟩ = some (.int .i64 ids)) (h : 0 ≤ ids) (h2 : ids ≤ 1048576) :
    PB Try.prog 86 #[.pointer (some ⟨b, 0, none⟩)] (KPhi lm) argN (fun p => !phiOk ids p) W := fun W' x cs hW hk =>
  c_isFunc2 x cs ids b W' hk (Nat.lt_of_lt_of_le hb hW.size) ((hW.cell (p := ⟨b, 0, none⟩) hb).trans hc) h h2
theorem c_isFunc3 (i : XInst) (cs : List Value) (ids funcs : Int) (b b2 : Nat) (w : World) (hk : KInst lm w i cs) (hb : b < w.heap.size) (hb2 : b2 < w.heap.size) (hc : w.cell? ⟨b, 0, none⟩ = some (.int .i64 ids)) (hc2 : w.cell? ⟨b2, 0, none⟩ = some (.int .i64 funcs)) (h : 0 ≤ ids) (h2 : ids ≤ 1048576) (hf : 0 ≤ funcs) (hf2 : funcs ≤ 1048576) :
    Calls Try.prog 89 #[.agg cs.toArray, .pointer (some ⟨b, 0, none⟩), .pointer (some ⟨b2, 0, none⟩)] w (Ret (.bool (!instOk ids funcs i)) w) := by
  obtain ⟨v, rfl, hr⟩ := hk
  have hbl := fun o => (Below.refl w.heap.size w).al (Nat.le_refl _) o
  have hin := fun W hW => c_isInst i v ids funcs W (hr.mv hW) h h2 hf hf2
  go_enter Try.func89, Try.ntmps89
  go_wp2_with (go_at_call 90; refine (hin _ (by first | exact hbl _ | exact Below.refl _ _)).mono ?_; rintro e w' ⟨rfl, hb'⟩)
  go_ret
  exact ⟨rfl, by first | exact hb' | exact (hbl _).then hb'⟩
theorem pb_isFunc3 (W : World) (b b2 : Nat) (ids funcs : Int) (hb : b < W.heap.size) (hb2 : b2 < W.heap.size) (hc : W.cell? ⟨b, 0, none⟩ = some (.int .i64 ids)) (hc2 : W.cell? ⟨b2, 0, none⟩ = some (.int .i64 funcs)) (h : 0 ≤ ids) (h2 : ids ≤ 1048576) (hf : 0 ≤ funcs) (hf2 : funcs ≤ 1048576) :
    PB Try.prog 89 #[.pointer (some ⟨b, 0, none⟩), .pointer (some ⟨b2, 0, none⟩)] (KInst lm) argN (fun p => !instOk ids funcs p) W := fun W' x cs hW hk =>
  c_isFunc3 x cs ids funcs b b2 W' hk (Nat.lt_of_lt_of_le hb hW.size) (Nat.lt_of_lt_of_le hb2 hW.size) ((hW.cell (p := ⟨b, 0, none⟩) hb).trans hc) ((hW.cell (p := ⟨b2, 0, none⟩) hb2).trans hc2) h h2 hf hf2
end Go.Proofs.Ytdnbiohohbnhgaa
