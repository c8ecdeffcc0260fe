/- The contract of isTerm. No conditions. Contracts of the closures and of CountOf. No conditions. The contract of isFunc. No conditions. -/
import Derived.Test.YtkcgejbnhpccdaaGreatJ02
set_option linter.unusedSimpArgs false
set_option linter.unusedVariables false
namespace Go.Proofs.YtkcgejbnhpccdaaGreat
open Go.RowKit
set_option maxHeartbeats 1000000 in
theorem c_isInst (i : XInst) (v : Value) (ids funcs : Int) (w : World) (hv : RI lm w v i.args) (hi : 0 ≤ ids) (hi2 : ids ≤ 1048576) (hf : 0 ≤ funcs) (hf2 : funcs ≤ 1048576) :
    Calls Tryz.prog 171 #[instV i v, .int .i64 ids, .int .i64 funcs] w (Ret (.bool (instOk ids funcs i)) w) := by
  by_cases ho : i.op = 26 ∧ i.args.length ≤ 4
  · exact c_isInst26 i v ids funcs w hv hi hi2 hf hf2 ho.1 ho.2
  by_cases hq : i.op ≠ 26 ∧ inR i.op 1 27 = true ∧ i.args = []
  · exact c_isInstO i v ids funcs w hv hi hi2 hf hf2 hq.1 hq.2.1 hq.2.2
  have hpre : instPre i = false := by
    rw [Bool.eq_false_iff]
    intro h
    simp only [instPre, Bool.and_eq_true, Bool.or_eq_true, decide_eq_true_eq, List.isEmpty_iff, beq_iff_eq] at h
    obtain ⟨⟨h1, h2⟩, h3⟩ := h
    by_cases h4 : i.op = 26
    · exact ho ⟨h4, h2⟩
    · exact hq ⟨h4, h1, h3.resolve_right h4⟩
  rw [instOk_pre, hpre]
  simp only [Bool.false_and]
  have hin := c_within i.op 1 27
  obtain ⟨A, c, rfl, _, hl, hv0⟩ := hv.sm
  have hbl := fun o o' => ((Below.refl w.heap.size w).al (Nat.le_refl _) o).al (by simp) o'
  simp only [instPre] at hpre
  obtain ⟨op, wd, a, b, c0, imm, args⟩ := i
  simp only [instV] at *
  clear ho hq
  cases h0 : inR op 1 27 with
  | false =>
    rw [h0] at hin
    clear hpre
    go_enter Tryz.func171, Tryz.ntmps171
    go_wp2_with (go_at_call 62; refine (hin _).mono ?_; rintro e w' ⟨rfl, rfl⟩)
    go_ret
    exact ⟨rfl, hbl _ _⟩
  | true =>
    rw [h0] at hin hpre
    by_cases h1 : 4 < args.length
    · clear hpre
      go_enter Tryz.func171, Tryz.ntmps171
      go_wp2_with (go_at_call 62; refine (hin _).mono ?_; rintro e w' ⟨rfl, rfl⟩)
      go_ret
      exact ⟨rfl, hbl _ _⟩
    · have h3 : 0 < args.length ∧ op ≠ 26 := by
        have h4 : args.length ≤ 4 := by omega
        simp [h4] at hpre
        exact ⟨by have := List.length_pos_iff.2 hpre.1; omega, hpre.2⟩
      clear hpre
      obtain ⟨h3, h4⟩ := h3
      have b4 := bneT h4
      have b5 : decide (4 < (args.length : Int)) = false := by simp; omega
      go_enter Tryz.func171, Tryz.ntmps171
      go_wp2_with (go_at_call 62; refine (hin _).mono ?_; rintro e w' ⟨rfl, rfl⟩)
      go_ret
      exact ⟨rfl, hbl _ _⟩
abbrev termV (t : XTerm) : Value := .agg #[.int .i64 t.kind, .int .i64 t.a, .int .i64 t.x, .int .i64 t.y]
theorem c_isTerm1 (n : Int) (b : Nat) (A : Option Addr) (m c : Nat) (w : World) (hc : w.cell? ⟨b, 2, none⟩ = some (.slice A m c)) (hm : m ≤ 1048576) : Calls Tryz.prog 210 #[.int .i64 n, .pointer (some ⟨b, 0, none⟩)] w (Same (.bool (isIdB m n)) w) := by
  go_enter Tryz.func210, Tryz.ntmps210
  go_wp2_with (go_at_call 62; refine (c_within _ _ _ _).mono ?_; rintro e w' ⟨rfl, rfl⟩)
  go_ret
  exact ⟨rfl, rfl⟩
set_option maxHeartbeats 2000000 in
theorem c_isTerm (vp : Value) (r : Int) (A : Option Addr) (m c : Nat) (t : XTerm) (ids : Int) (w : World) (hm : m ≤ 1048576) (hi : 0 ≤ ids) (hi2 : ids ≤ 1048576) :
    Calls Tryz.prog 172 #[.agg #[vp, .int .i64 r, .slice A m c], termV t, .int .i64 ids] w (Ret (.bool (termOk ids m t)) w) := by
  have hin := c_within t.a 0 (ids - 1)
  have et := enters_of Tryz.func210 (by kernel_rfl) rfl
  have hT1 := fun n W => c_isTerm1 n w.heap.size A m c W
  have hbl := fun o o' => ((Below.refl w.heap.size w).al (Nat.le_refl _) o).al (by simp) o'
  obtain ⟨k, a, x, y⟩ := t
  simp only [termV] at *
  have hid : isIdB ids a = inR a 0 (ids - 1) := rfl
  by_cases h1 : k = 1
  · subst h1
    rw [show termOk ids m ⟨1, a, x, y⟩ = (isIdB ids a && x == 0 && y == 0) from rfl, hid]
    generalize inR a 0 (ids - 1) = q at *
    clear hid hT1
    cases q
    all_goals by_cases hx : x = 0
    all_goals by_cases hy : y = 0
    all_goals
      go_enter Tryz.func172, Tryz.ntmps172
      go_wp2_with (go_at_call 62; refine (hin _).mono ?_; rintro e w' ⟨rfl, rfl⟩)
      go_ret
      exact ⟨by simp [hx, hy], hbl _ _⟩
  have hx := hT1 x
  have hy := hT1 y
  clear hT1
  by_cases h2 : k = 2
  · subst h2
    rw [show termOk ids m ⟨2, a, x, y⟩ = (a == 0 && isIdB m x && y == 0) from rfl]
    generalize isIdB m x = q at *
    clear hid hy hin
    cases q
    all_goals by_cases hA : a = 0
    all_goals by_cases hY : y = 0
    all_goals
      go_enter Tryz.func172, Tryz.ntmps172
      go_wp2_with (go_at_call 210; refine (hx _ (by simp) hm).mono ?_; rintro e w' ⟨rfl, rfl⟩)
      go_ret
      exact ⟨by simp [hA, hY], hbl _ _⟩
  by_cases h3 : k = 3
  · subst h3
    rw [show termOk ids m ⟨3, a, x, y⟩ = (isIdB ids a && isIdB m x && isIdB m y && x != y) from rfl, hid]
    generalize inR a 0 (ids - 1) = q at *
    clear hid
    cases q with
    | false =>
      go_enter Tryz.func172, Tryz.ntmps172
      go_wp2_with (go_at_call 62; refine (hin _).mono ?_; rintro e w' ⟨rfl, rfl⟩)
      go_ret
      exact ⟨by simp, hbl _ _⟩
    | true =>
      generalize hq1 : isIdB m x = q1 at *
      clear hq1
      cases q1 with
      | false =>
        go_enter Tryz.func172, Tryz.ntmps172
        go_wp2_with (first | (go_at_call 62; refine (hin _).mono ?_; rintro e w' ⟨rfl, rfl⟩) | (go_at_call 210; refine (hx _ (by simp) hm).mono ?_; rintro e w' ⟨rfl, rfl⟩))
        go_ret
        exact ⟨by simp, hbl _ _⟩
      | true =>
        generalize hq2 : isIdB m y = q2 at *
        clear hq2
        have go : ∀ g : Int, g = x → True := fun _ _ => trivial
        clear go
        go_enter Tryz.func172, Tryz.ntmps172
        go_wp2_with fail
        refine (hin _).mono ?_
        rintro e w' ⟨rfl, rfl⟩
        go_wp2_with fail
        refine (hx _ (by simp) hm).mono ?_
        rintro e w' ⟨rfl, rfl⟩
        go_wp2_with fail
        refine (hy _ (by simp) hm).mono ?_
        rintro e w' ⟨rfl, rfl⟩
        cases q2
        all_goals
          go_wp2
          go_ret
          exact ⟨by simp, hbl _ _⟩
  by_cases h4 : k = 4
  · subst h4
    rw [show termOk ids m ⟨4, a, x, y⟩ = (a == 0 && x == 0 && y == 0) from rfl]
    clear hx hy hin hid
    by_cases hA : a = 0
    all_goals by_cases hX : x = 0
    all_goals by_cases hY : y = 0
    all_goals
      go_enter Tryz.func172, Tryz.ntmps172
      go_wp2
      go_ret
      exact ⟨by simp [hA, hX, hY], hbl _ _⟩
  · rw [show termOk ids m ⟨k, a, x, y⟩ = false by simp [termOk, h1, h2, h3, h4]]
    go_enter Tryz.func172, Tryz.ntmps172
    go_wp2
    go_ret
    exact ⟨by simp, hbl _ _⟩
end Go.Proofs.YtkcgejbnhpccdaaGreat
set_option linter.unusedSimpArgs false
set_option linter.unusedVariables false
namespace Go.Proofs.YtkcgejbnhpccdaaGreat
open Go.RowKit
theorem countIn_bd (n : Int) (l : List XBlock) (k : Nat) (h : ∀ b ∈ l, b.phis.length ≤ 1048576 ∧ b.insts.length ≤ 1048576) (hk : k ≤ l.length) : countIn n (l.take k) ≤ n + 2097152 * k := by
  induction k with
  | zero => simp [countIn]
  | succ k ih =>
    rw [countIn_snoc n l k (by omega)]
    have := ih (by omega)
    have hb := h l[k] (List.getElem_mem _)
    unfold sizeB
    omega
theorem Rd.blocks {w : World} {v : Value} {l : List XBlock} (h : RBlock lm w v l) : ∀ b ∈ l, b.phis.length ≤ 1048576 ∧ b.insts.length ≤ 1048576 := by
  intro b hb
  obtain ⟨i, hi, rfl⟩ := List.getElem_of_mem hb
  obtain ⟨_, _, _, cs, _, _, ⟨v1, v2, _, h1, h2⟩, _⟩ := h.at_ i hi
  exact ⟨h1.len, h2.len⟩
set_option maxHeartbeats 1000000 in
theorem c_CountOf (f : XFunc) (cs : List Value) (w : World) (hf : KFunc lm w f cs) : Calls Tryz.prog 94 #[.agg cs.toArray] w (Ret (.int .i64 (countOf f)) w) := by
  obtain ⟨v1, v2, rfl, hp, hb⟩ := hf
  have hbd := Hd.mk hb.blocks
  obtain ⟨A1, c1, rfl, -, hl1, -⟩ := hp.sm
  obtain ⟨A2, c2, rfl, -, hl2, hb0⟩ := hb.sm
  clear hb hp
  unfold countOf
  generalize f.params.length = n at *
  generalize f.blocks = l at *
  generalize f.ret = r at *
  go_enter Tryz.func94, Tryz.ntmps94
  go_wp2
  go_loopw [3, 12] (fun s3 s12 wr => ∃ k : Nat, k ≤ l.length ∧ s12 = .int .i64 k ∧ s3 = .int .i64 (countIn n (l.take k)) ∧ Hd (Below w.heap.size w wr)) (fun _ s12 _ => l.length - (intOf s12).toNat)
  case atStart => exact ⟨0, Nat.zero_le _, rfl, by simp [countIn], ⟨(Below.refl _ w).al (Nat.le_refl _) _⟩⟩
  case round =>
    obtain ⟨k, hk, rfl, rfl, hbw⟩ := hrel
    have hc1 := countIn_bd n l k hbd.out hk
    have hc2 := countIn_le n (l.take k)
    by_cases hlt : k < l.length
    · obtain ⟨b, off, cs, hA, hbl, ⟨v1, v2, rfl, hr, hr2⟩, hat⟩ := hb0.out.in_ hbw.out k hlt
      cases hA
      have g0 := hat 0 _ rfl
      have g1 := hat 1 _ rfl
      have g2 := hat 2 _ rfl
      have g3 := hat 3 _ rfl
      have g4 := hat 4 _ rfl
      have g5 := hat 5 _ rfl
      clear hat
      simp at g0 g1 g2 g3 g4 g5
      obtain ⟨A1, c1, rfl, -, hl3, -⟩ := hr.sm
      obtain ⟨A2, c2, rfl, -, hl4, -⟩ := hr2.sm
      have hsn := Hd.mk (countIn_snoc n l k hlt)
      generalize countIn n (l.take k) = s at *
      have hb1 := hbw.out.size
      go_wp2
      go_roundw
      case rel => exact ⟨k + 1, by omega, by go_num, by rw [hsn.out]; rfl, ⟨hbw.out.al hb1 _⟩⟩
      case measure => simp [intOf]; omega
    · have e : k = l.length := by omega
      subst e
      go_wp2
      go_ret
      exact ⟨by rw [List.take_length]; rfl, hbw.out⟩
theorem c_isFunc21 (id ids : Int) (b : Nat) (w : World) (hc : w.cell? ⟨b, 0, none⟩ = some (.int .i64 ids)) (h : 0 ≤ ids) (h2 : ids ≤ 1048576) : Calls Tryz.prog 169 #[.int .i64 id, .pointer (some ⟨b, 0, none⟩)] w (Same (.bool (!isIdB ids id)) w) := by
  go_enter Tryz.func169, Tryz.ntmps169
  go_wp2_with (go_at_call 62; refine (c_within _ _ _ _).mono ?_; rintro e w' ⟨rfl, rfl⟩)
  go_ret
  exact ⟨rfl, rfl⟩
theorem pb_isFunc21 (W : World) (b : Nat) (ids : Int) (hb : b < W.heap.size) (hc : W.cell? ⟨b, 0, none⟩ = some (.int .i64 ids)) (h : 0 ≤ ids) (h2 : ids ≤ 1048576) :
    PB Tryz.prog 169 #[.pointer (some ⟨b, 0, none⟩)] KInt arg1 (fun id => !isIdB ids id) W := fun W' x cs hW hk => by
  cases hk
  exact Same.ret (c_isFunc21 x ids b W' ((hW.cell (p := ⟨b, 0, none⟩) hb).trans hc) h h2)
theorem pb_isFunc1 (W : World) : PB Tryz.prog 166 #[] KInt arg1 (fun n => !widthOk n) W := fun W' x cs hW hk => by
  cases hk
  exact Same.ret (c_isFunc1 x W')
set_option maxHeartbeats 1000000 in
theorem c_isFunc2 (p : XPhi) (cs : List Value) (ids : Int) (b : Nat) (w : World) (hk : KPhi lm w p cs) (hb : b < w.heap.size) (hc : w.cell? ⟨b, 0, none⟩ = some (.int .i64 ids)) (h : 0 ≤ ids) (h2 : ids ≤ 1048576) :
    Calls Tryz.prog 168 #[.agg cs.toArray, .pointer (some ⟨b, 0, none⟩)] w (Ret (.bool (!phiOk ids p)) w) := by
  obtain ⟨v, rfl, hr⟩ := hk
  have hw := c_WidthOk p.w
  have e1 := enters_of Tryz.func169 (by kernel_rfl) rfl
  obtain ⟨A, c, rfl, -, hl, hr0⟩ := hr.sm
  have hbl := fun o => (Below.refl w.heap.size w).al (Nat.le_refl _) o
  unfold phiOk
  generalize hq : widthOk p.w = q at *
  have hcon := fun W hW => c_ConI _ p.ins _ _ (fun id => !isIdB ids id) W (hr0.out.mv hW) e1 (pb_isFunc21 W b ids (Nat.lt_of_lt_of_le hb hW.size) ((bat hW b hb 0).trans hc) h h2)
  simp only [any_not] at hcon
  generalize hq1 : p.ins.all (isIdB ids) = q1 at *
  generalize p.ins = l at *
  generalize p.w = wd at *
  clear hr hq hq1
  cases q with
  | false =>
    go_enter Tryz.func168, Tryz.ntmps168
    go_wp2_with (go_at_call 56; refine (hw _).mono ?_; rintro e w' ⟨rfl, rfl⟩)
    go_ret
    exact ⟨by simp, hbl _⟩
  | true =>
    by_cases h3 : 10 < l.length
    · have h4 : decide (10 < (l.length : Int)) = true := by simp; omega
      go_enter Tryz.func168, Tryz.ntmps168
      go_wp2_with (go_at_call 56; refine (hw _).mono ?_; rintro e w' ⟨rfl, rfl⟩)
      go_ret
      exact ⟨by simp; omega, hbl _⟩
    · have h4 : decide (l.length ≤ 10) = true := by simp; omega
      rw [h4]
      have h5 : decide (10 < (l.length : Int)) = false := by simp; omega
      go_enter Tryz.func168, Tryz.ntmps168
      go_wp2_with (first | (go_at_call 56; refine (hw _).mono ?_; rintro e w' ⟨rfl, rfl⟩) | (go_at_call 165; refine (hcon _ (hbl _)).mono ?_; rintro e w' ⟨rfl, hb'⟩))
      go_ret
      exact ⟨by simp, (hbl _).then hb'⟩
theorem pb_isFunc2 (W : World) (b : Nat) (ids : Int) (hb : b < W.heap.size) (hc : W.cell? ⟨b, 0, none⟩ = some (.int .i64 ids)) (h : 0 ≤ ids) (h2 : ids ≤ 1048576) :
    PB Tryz.prog 168 #[.pointer (some ⟨b, 0, none⟩)] (KPhi lm) argN (fun p => !phiOk ids p) W := fun W' x cs hW hk =>
  c_isFunc2 x cs ids b W' hk (Nat.lt_of_lt_of_le hb hW.size) ((hW.cell (p := ⟨b, 0, none⟩) hb).trans hc) h h2
theorem c_isFunc3 (i : XInst) (cs : List Value) (ids funcs : Int) (b b2 : Nat) (w : World) (hk : KInst lm w i cs) (hb : b < w.heap.size) (hb2 : b2 < w.heap.size) (hc : w.cell? ⟨b, 0, none⟩ = some (.int .i64 ids)) (hc2 : w.cell? ⟨b2, 0, none⟩ = some (.int .i64 funcs)) (h : 0 ≤ ids) (h2 : ids ≤ 1048576) (hf : 0 ≤ funcs) (hf2 : funcs ≤ 1048576) :
    Calls Tryz.prog 170 #[.agg cs.toArray, .pointer (some ⟨b, 0, none⟩), .pointer (some ⟨b2, 0, none⟩)] w (Ret (.bool (!instOk ids funcs i)) w) := by
  obtain ⟨v, rfl, hr⟩ := hk
  have hbl := fun o => (Below.refl w.heap.size w).al (Nat.le_refl _) o
  have hin := fun W hW => c_isInst i v ids funcs W (hr.mv hW) h h2 hf hf2
  go_enter Tryz.func170, Tryz.ntmps170
  go_wp2_with (go_at_call 171; refine (hin _ (by first | exact hbl _ | exact Below.refl _ _)).mono ?_; rintro e w' ⟨rfl, hb'⟩)
  go_ret
  exact ⟨rfl, by first | exact hb' | exact (hbl _).then hb'⟩
theorem pb_isFunc3 (W : World) (b b2 : Nat) (ids funcs : Int) (hb : b < W.heap.size) (hb2 : b2 < W.heap.size) (hc : W.cell? ⟨b, 0, none⟩ = some (.int .i64 ids)) (hc2 : W.cell? ⟨b2, 0, none⟩ = some (.int .i64 funcs)) (h : 0 ≤ ids) (h2 : ids ≤ 1048576) (hf : 0 ≤ funcs) (hf2 : funcs ≤ 1048576) :
    PB Tryz.prog 170 #[.pointer (some ⟨b, 0, none⟩), .pointer (some ⟨b2, 0, none⟩)] (KInst lm) argN (fun p => !instOk ids funcs p) W := fun W' x cs hW hk =>
  c_isFunc3 x cs ids funcs b b2 W' hk (Nat.lt_of_lt_of_le hb hW.size) (Nat.lt_of_lt_of_le hb2 hW.size) ((hW.cell (p := ⟨b, 0, none⟩) hb).trans hc) ((hW.cell (p := ⟨b2, 0, none⟩) hb2).trans hc2) h h2 hf hf2
end Go.Proofs.YtkcgejbnhpccdaaGreat
set_option linter.unusedSimpArgs false
set_option linter.unusedVariables false
namespace Go.Proofs.YtkcgejbnhpccdaaGreat
open Go.RowKit
theorem all_take_snoc {α : Type} (p : α → Bool) (l : List α) (k : Nat) (h : k < l.length) : (l.take (k + 1)).all p = ((l.take k).all p && p l[k]) := by
  rw [List.take_succ_eq_append_getElem h, List.all_append]; simp
/-- The tests ahead of the blocks. -/
def funcPre (f : XFunc) : Bool := decide (f.params.length ≤ 4) && (widthOk f.ret && (inR f.blocks.length 1 10 && f.params.all widthOk))
theorem funcOk_pre (f : XFunc) (funcs : Int) : funcOk f funcs = (funcPre f && (decide (countOf f ≤ 60) && f.blocks.all (blockOk (countOf f) funcs f.blocks.length))) := by
  simp only [funcOk, funcPre, Bool.and_assoc]
theorem countOf_nn (f : XFunc) : 0 ≤ countOf f := by have := countIn_le f.params.length f.blocks; unfold countOf; omega
theorem all_false_of {α : Type} (p : α → Bool) (l : List α) (k : Nat) (h : k < l.length) (hp : p l[k] = false) : l.all p = false := by
  rw [Bool.eq_false_iff]; intro h'; rw [List.all_eq_true] at h'
  rw [h' _ (List.getElem_mem h)] at hp; cases hp
set_option maxHeartbeats 2000000 in
theorem c_isFunc_pre (f : XFunc) (cs : List Value) (funcs : Int) (w : World) (hf : KFunc lm w f cs) (hpre : funcPre f = false) :
    Calls Tryz.prog 128 #[.agg cs.toArray, .int .i64 funcs] w (Ret (.bool false) w) := by
  obtain ⟨v1, v2, rfl, hp, hb⟩ := hf
  obtain ⟨A1, c1, rfl, -, hl1, hp0⟩ := hp.sm
  obtain ⟨A2, c2, rfl, -, hl2, -⟩ := hb.sm
  have e1 := enters_of Tryz.func166 (by kernel_rfl) rfl
  have hcon := fun W hW => c_ConI _ f.params _ #[] (fun n => !widthOk n) W (hp0.out.mv hW) e1 (pb_isFunc1 W)
  simp only [any_not] at hcon
  have hwd := c_WidthOk f.ret
  have hin := c_within f.blocks.length 1 10
  have hbl := fun o o' => ((Below.refl w.heap.size w).al (Nat.le_refl _) o).al (by simp) o'
  unfold funcPre at hpre
  clear hb hp
  generalize widthOk f.ret = q1 at *
  generalize inR f.blocks.length 1 10 = q2 at *
  generalize f.params.all widthOk = q3 at *
  generalize f.params.length = n at *
  generalize f.blocks.length = m at *
  by_cases h1 : 4 < n
  · clear hpre
    have h2 : decide (4 < (n : Int)) = true := by simp; omega
    go_enter Tryz.func128, Tryz.ntmps128
    go_wp2
    go_ret
    exact ⟨rfl, hbl _ _⟩
  have h2 : decide (4 < (n : Int)) = false := by simp; omega
  have h3 : n ≤ 4 := by omega
  simp [h3] at hpre
  cases q1 with
  | false =>
    clear hpre
    go_enter Tryz.func128, Tryz.ntmps128
    go_wp2_with (go_at_call 56; refine (hwd _).mono ?_; rintro e w' ⟨rfl, rfl⟩)
    go_ret
    exact ⟨rfl, hbl _ _⟩
  | true =>
    simp at hpre
    cases q2 with
    | false =>
      clear hpre
      go_enter Tryz.func128, Tryz.ntmps128
      go_wp2_with (first | (go_at_call 56; refine (hwd _).mono ?_; rintro e w' ⟨rfl, rfl⟩) | (go_at_call 62; refine (hin _).mono ?_; rintro e w' ⟨rfl, rfl⟩))
      go_ret
      exact ⟨rfl, hbl _ _⟩
    | true =>
      simp at hpre
      subst hpre
      go_enter Tryz.func128, Tryz.ntmps128
      go_wp2_with (first | (go_at_call 56; refine (hwd _).mono ?_; rintro e w' ⟨rfl, rfl⟩) | (go_at_call 62; refine (hin _).mono ?_; rintro e w' ⟨rfl, rfl⟩) | (go_at_call 165; refine (hcon _ (hbl _ _)).mono ?_; rintro e w' ⟨rfl, hb'⟩))
      go_ret
      exact ⟨rfl, (hbl _ _).then hb'⟩
set_option maxHeartbeats 4000000 in
theorem c_isFunc_ok (f : XFunc) (cs : List Value) (funcs : Int) (w : World) (hf : KFunc lm w f cs) (hpre : funcPre f = true) (hf0 : 0 ≤ funcs) (hf1 : funcs ≤ 1048576) :
    Calls Tryz.prog 128 #[.agg cs.toArray, .int .i64 funcs] w (Ret (.bool (funcOk f funcs)) w) := by
  have hR := Hd.mk (funcOk_pre f funcs)
  rw [hpre] at hR
  have hcount := fun W hW => c_CountOf f cs W (KM.mv hf hW)
  obtain ⟨v1, v2, rfl, hp, hb⟩ := hf
  obtain ⟨A1, c1, rfl, -, hl1, hp0⟩ := hp.sm
  obtain ⟨A2, c2, rfl, -, hl2, hb0⟩ := hb.sm
  have e1 := enters_of Tryz.func166 (by kernel_rfl) rfl
  have e2 := enters_of Tryz.func168 (by kernel_rfl) rfl
  have e3 := enters_of Tryz.func170 (by kernel_rfl) rfl
  have hcon := fun W hW => c_ConI _ f.params _ #[] (fun n => !widthOk n) W (hp0.out.mv hW) e1 (pb_isFunc1 W)
  simp only [any_not] at hcon
  have hwd := c_WidthOk f.ret
  have hin := c_within f.blocks.length 1 10
  have hbl := fun o o' => ((Below.refl w.heap.size w).al (Nat.le_refl _) o).al (by simp) o'
  have hc0 := countOf_nn f
  simp only [funcPre, Bool.and_eq_true, decide_eq_true_eq] at hpre
  obtain ⟨h1, h2, h3, h4⟩ := hpre
  rw [h2] at hwd
  rw [h3] at hin
  rw [h4] at hcon
  clear hb hp h2 h3 h4
  generalize funcOk f funcs = R at *
  generalize countOf f = ids at *
  generalize f.params.length = n at *
  generalize f.ret = r at *
  generalize f.blocks = l at *
  have h2 : decide (4 < (n : Int)) = false := by simp; omega
  go_enter Tryz.func128, Tryz.ntmps128
  go_wp2_with fail
  refine (hwd _).mono ?_; rintro e w' ⟨rfl, rfl⟩
  go_wp2_with fail
  refine (hin _).mono ?_; rintro e w' ⟨rfl, rfl⟩
  go_wp2_with fail
  refine (hcon _ (hbl _ _)).mono ?_; rintro e w1 ⟨rfl, hb1⟩
  have k0 := bat hb1 w.heap.size (by simp; omega)
  have k1 := bat hb1 (w.heap.size + 1) (by simp)
  simp at k0 k1
  have hbw1 := Hd.mk ((hbl _ _).then hb1)
  have hz1 := hb1.size
  simp at hz1
  clear hb1 hcon hin hwd
  go_wp2_with fail
  refine (hcount _ hbw1.out).mono ?_; rintro e w2 ⟨rfl, hb2⟩
  replace k0 := fun o => (bat hb2 w.heap.size (by omega) o).trans (k0 o)
  replace k1 := fun o => (bat hb2 (w.heap.size + 1) (by omega) o).trans (k1 o)
  have hbw2 := Hd.mk (hbw1.out.then hb2)
  have hz2 := hb2.size
  clear hb2 hbw1 hcount
  by_cases hi : 60 < ids
  · have h5 : decide (ids ≤ 60) = false := by simp; omega
    have e := hR.out
    rw [h5] at e
    simp at e
    subst e
    clear h5
    go_wp2
    go_ret
    exact ⟨rfl, hbw2.out.al hbw2.out.size _⟩
  have h5 : decide (ids ≤ 60) = true := by simp; omega
  rw [h5] at hR
  clear h5
  have z0 : w.heap.size < w2.heap.size := by omega
  have z1 : w.heap.size + 1 < w2.heap.size := by omega
  go_wp2
  generalize hw3 : w2.alloc (.cells #[.int .i64 ids] 2) = w3
  have hb3 : Below w2.heap.size w2 w3 := by subst hw3; exact (Below.refl _ _).al (Nat.le_refl _) _
  replace k0 := fun o => (bat hb3 w.heap.size (by omega) o).trans (k0 o)
  replace k1 := fun o => (bat hb3 (w.heap.size + 1) (by omega) o).trans (k1 o)
  have k2 : w3.cell? ⟨w2.heap.size, 0, none⟩ = some (.int .i64 ids) := by subst hw3; simp
  have hz3 : w2.heap.size + 1 = w3.heap.size := by subst hw3; simp
  have hbw3 := Hd.mk (hbw2.out.then hb3)
  clear hw3 hb3 hbw2
  go_loopw [37] (fun s37 wr => ∃ k : Nat, k ≤ l.length ∧ s37 = .int .i64 k ∧ Hd (Below w3.heap.size w3 wr) ∧ Hd ((l.take k).all (blockOk ids funcs l.length) = true)) (fun s37 _ => l.length - (intOf s37).toNat)
  case atStart => exact ⟨0, Nat.zero_le _, rfl, ⟨Below.refl _ _⟩, ⟨by simp⟩⟩
  case round =>
    obtain ⟨k, hk, rfl, hbw, hall⟩ := hrel
    have hzr := hbw.out.size
    have hbr := Hd.mk (hbw3.out.then hbw.out)
    replace k0 := fun o => (bat hbw.out w.heap.size (by omega) o).trans (k0 o)
    replace k1 := fun o => (bat hbw.out (w.heap.size + 1) (by omega) o).trans (k1 o)
    replace k2 := (bat hbw.out w2.heap.size (by omega) 0).trans k2
    by_cases hlt : k < l.length
    · obtain ⟨b, off, cs, hA, hbl, ⟨v1, v2, rfl, hr, hr2⟩, hat⟩ := hb0.out.in_ hbr.out k hlt
      cases hA
      have g0 := hat 0 _ rfl
      have g1 := hat 1 _ rfl
      have g2 := hat 2 _ rfl
      have g3 := hat 3 _ rfl
      have g4 := hat 4 _ rfl
      have g5 := hat 5 _ rfl
      clear hat
      simp at g0 g1 g2 g3 g4 g5
      have hsn := Hd.mk (all_take_snoc (blockOk ids funcs l.length) l k hlt)
      have hfail := fun h => Hd.mk (all_false_of (blockOk ids funcs l.length) l k hlt h)
      have hbk : blockOk ids funcs l.length l[k] = (l[k].phis.all (phiOk ids) && (l[k].insts.all (instOk ids funcs) && termOk ids l.length l[k].term)) := by simp only [blockOk, Bool.and_assoc]
      generalize l[k] = x at *
      have hcP := fun W (hW : Below wr.heap.size wr W) => c_ConPhi v1 x.phis _ #[.pointer (some ⟨w2.heap.size, 0, none⟩)] (fun p => !phiOk ids p) W (hr.mv hW) e2 (pb_isFunc2 W w2.heap.size ids (by have := hW.size; omega) ((bat hW w2.heap.size (by omega) 0).trans k2) hc0 (by omega))
      have hcI := fun W (hW : Below wr.heap.size wr W) => c_ConInst v2 x.insts _ #[.pointer (some ⟨w2.heap.size, 0, none⟩), .pointer (some ⟨w.heap.size + 1, 0, none⟩)] (fun p => !instOk ids funcs p) W (hr2.mv hW) e3 (pb_isFunc3 W w2.heap.size (w.heap.size + 1) ids funcs (by have := hW.size; omega) (by have := hW.size; omega) ((bat hW w2.heap.size (by omega) 0).trans k2) ((bat hW (w.heap.size + 1) (by omega) 0).trans (k1 0)) hc0 (by omega) hf0 hf1)
      simp only [any_not] at hcP hcI
      have hT := c_isTerm (.slice A1 n c1) r (some ⟨b, off, none⟩) l.length c2 x.term ids
      obtain ⟨A3, c3, rfl, -, -, -⟩ := hr.sm
      obtain ⟨A4, c4, rfl, -, -, -⟩ := hr2.sm
      generalize x.phis.all (phiOk ids) = q1 at *
      generalize x.insts.all (instOk ids funcs) = q2 at *
      generalize termOk ids l.length x.term = q3 at *
      have hbl2 := fun o => (Below.refl wr.heap.size wr).al (Nat.le_refl _) o
      clear hr hr2
      have z0 : w.heap.size < wr.heap.size := by omega
      have z1 : w.heap.size + 1 < wr.heap.size := by omega
      have z2 : w2.heap.size < wr.heap.size := by omega
      cases q1 with
      | false =>
        have hR2 := hR.out
        rw [(hfail (by rw [hbk]; rfl)).out] at hR2
        simp at hR2
        subst hR2
        go_wp2_with fail
        refine (hcP _ (hbl2 _)).mono ?_; rintro e w4 ⟨rfl, hb4⟩
        go_wp2
        go_ret
        exact ⟨rfl, (hbr.out.al hbr.out.size _).then hb4⟩
      | true =>
        go_wp2_with fail
        refine (hcP _ (hbl2 _)).mono ?_; rintro e w4 ⟨rfl, hb4⟩
        have k3 := bat hb4 wr.heap.size (by simp)
        replace k0 := fun o => (bat hb4 w.heap.size (by simp; omega) o).trans ((World.cell?_alloc_past _ _ _ z0).trans (k0 o))
        simp at k3
        have hbw4 := Hd.mk ((hbl2 _).then hb4)
        have hz4 := hb4.size
        simp at hz4
        replace k2 := (bat hb4 w2.heap.size (by simp; omega) 0).trans ((World.cell?_alloc_past _ _ _ z2).trans k2)
        clear hb4 hcP
        cases q2 with
        | false =>
          have hR2 := hR.out
          rw [(hfail (by rw [hbk]; rfl)).out] at hR2
          simp at hR2
          subst hR2
          go_wp2_with fail
          refine (hcI _ hbw4.out).mono ?_; rintro e w5 ⟨rfl, hb5⟩
          go_wp2
          go_ret
          exact ⟨rfl, (hbr.out.then hbw4.out).then hb5⟩
        | true =>
          go_wp2_with fail
          refine (hcI _ hbw4.out).mono ?_; rintro e w5 ⟨rfl, hb5⟩
          replace k0 := fun o => (bat hb5 w.heap.size (by omega) o).trans (k0 o)
          replace k2 := (bat hb5 w2.heap.size (by omega) 0).trans k2
          replace k3 := fun o => (bat hb5 wr.heap.size (by omega) o).trans (k3 o)
          have hbw5 := Hd.mk (hbw4.out.then hb5)
          clear hb5 hcI
          go_wp2_with fail
          refine (hT _ hl2 hc0 (by omega)).mono ?_; rintro e w6 ⟨rfl, hb6⟩
          have hbw6 := Hd.mk (hbw5.out.then hb6)
          cases q3 with
          | false =>
            have hR2 := hR.out
            rw [(hfail (by rw [hbk]; rfl)).out] at hR2
            simp at hR2
            subst hR2
            go_wp2
            go_ret
            exact ⟨rfl, hbr.out.then hbw6.out⟩
          | true =>
            go_wp2
            go_roundw
            case rel => exact ⟨k + 1, by omega, by go_num, ⟨hbw.out.then hbw6.out⟩, ⟨by rw [hsn.out, hall.out, hbk]; rfl⟩⟩
            case measure => simp [intOf]; omega
    · have e : k = l.length := by omega
      subst e
      have hR2 := hR.out
      rw [List.take_length] at hall
      rw [hall.out] at hR2
      simp at hR2
      subst hR2
      go_wp2
      go_ret
      exact ⟨rfl, hbr.out⟩
end Go.Proofs.YtkcgejbnhpccdaaGreat
