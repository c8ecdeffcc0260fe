/- Contracts of the laws' functions that mark rows of structs. No conditions. -/
import Derived.Test.YtkcgejbnhpccdaaGreatJ43
import Derived.Test.YtkcgejbnhpccdaaGreatJ24
import Derived.Test.YtkcgejbnhpccdaaGreatJ35
import Derived.Test.YtkcgejbnhpccdaaGreatJ07
import Derived.Test.YtkcgejbnhpccdaaGreatJ18
set_option linter.unusedSimpArgs false
set_option linter.unusedVariables false
namespace Go.Proofs.YtkcgejbnhpccdaaGreat
open Go.RowKit
theorem Chg.set {lo hi : Nat} {w W : World} {b o : Nat} {e : TypeId} {arr : Array Value} {i i' : Int} (hc : Chg lo hi w W) (h : w.heap[b]? = some (.cells arr e (0, 0))) (hb : lo ≤ b ∧ b < hi) (ho : arr[o]? = some (.int .i64 i)) : Chg lo hi w (W.setCell ⟨b, o, none⟩ (.int .i64 i')) := by
  obtain ⟨arr', h1, h2⟩ := hc.cell b arr e h
  obtain ⟨i2, h3⟩ : ∃ i, arr'[o]? = some (.int .i64 i) := by
    rcases h2 o _ ho with h3 | ⟨-, h3⟩
    · exact ⟨_, h3⟩
    · exact h3
  exact hc.trans (Chg.setCell h1 hb h3)
def mPhi (p : XPhi) : Nat := 1 + p.ins.length
def mInst (p : XInst) : Nat := 6 + p.args.length
def mBlock (b : XBlock) : Nat := (b.phis.map mPhi).sum + (b.insts.map mInst).sum + 4
def mFunc (f : XFunc) : Nat := f.params.length + (f.blocks.map mBlock).sum
def mL {α : Type} (f : α → Nat) (l : List α) : Nat := (l.map f).sum
theorem mL_snoc {α : Type} (f : α → Nat) (l : List α) (k : Nat) (h : k < l.length) : mL f (l.take (k + 1)) = mL f (l.take k) + f l[k] := wL_snoc f l k h
theorem mL_le {α : Type} (f : α → Nat) (l : List α) (k : Nat) : mL f (l.take k) ≤ mL f l := wL_le f l k
theorem mL_all {α : Type} (f : α → Nat) (l : List α) : mL f (l.take l.length) = mL f l := by rw [List.take_length]
set_option maxHeartbeats 4000000 in
theorem m_PhiS (lo hi : Nat) (v : Value) (xs : List XPhi) (k : Int) (w : World) (hv : SlPhi lo hi w v xs) (h0 : 0 ≤ k) (h1 : k + mL mPhi xs ≤ 1099511627776) :
    Calls Tryz.prog 124 #[v, .int .i64 k] w (RetC lo hi (k + mL mPhi xs) w) := by
  obtain ⟨A, c, rfl, -, hl, hv0⟩ := hv.sh
  clear hv
  have h1' := Hd.mk h1
  clear h1
  go_enter Tryz.func124, Tryz.ntmps124
  go_wp2
  go_loopw [1, 5] (fun s1 s5 wr => ∃ j : Nat, j ≤ xs.length ∧ s5 = .int .i64 j ∧ s1 = .int .i64 (k + mL mPhi (xs.take j)) ∧ Hd (Chg lo hi w wr)) (fun _ s5 _ => xs.length - (intOf s5).toNat)
  case atStart => exact ⟨0, Nat.zero_le _, rfl, by simp [mL], ⟨Chg.refl _ _ _⟩⟩
  case round =>
    obtain ⟨j, hj, rfl, rfl, hr⟩ := hrel
    by_cases hlt : j < xs.length
    · have hS := mL_snoc mPhi xs j hlt
      have hS2 := mL_le mPhi xs (j + 1)
      have h1 := h1'.out
      obtain ⟨q, hq⟩ : ∃ q : Int, q = k + (mL mPhi (xs.take j) : Nat) := ⟨_, rfl⟩
      rw [← hq]
      have hq0 : 0 ≤ q := by omega
      have hq1 : q + mPhi xs[j] ≤ 1099511627776 := by omega
      have hR := Hd.mk (show k + (mL mPhi (xs.take (j + 1)) : Nat) = q + mPhi xs[j] by omega)
      clear h1 hS hS2 hq
      generalize hx : xs[j] = x at *
      unfold mPhi at hq1
      obtain ⟨b, arr, e, cs, hA, hb1, hb2, hh, ⟨i0, v1, rfl, r1⟩, -, hat⟩ := (hv0.out.mv hr.out).at_ j hlt
      cases hA
      rw [hx] at r1
      obtain ⟨A1, c1, rfl, -, hl1, hr1⟩ := r1.sh
      clear r1
      obtain ⟨he, hf⟩ := row_facts hh
      have a0 := hat 0 _ rfl
      have a1 := hat 1 _ rfl
      simp at a0 a1
      have g0 := (he (j * 2)).trans a0
      have g1 := (he (j * 2 + 1)).trans a1
      have z0 := hf (j * 2)
      clear he hf hat
      have hh' := Hd.mk hh
      have b0 := Hd.mk a0
      clear hh hx a0 a1
      have y0 : IntKind.i64.wrap (q) = q := IntWalk.i64_in _ (by omega)
      have y1 : IntKind.i64.wrap (q + 1) = q + 1 := IntWalk.i64_in _ (by omega)
      go_wp2_with fail
      refine (m_S lo hi _ x.ins _ _ (hr1.out.mv (Chg.set (Chg.refl lo hi _) hh'.out ⟨hb1, hb2⟩ b0.out)) (by omega) (by omega)).mono ?_
      rintro e w1 ⟨rfl, hc1⟩
      go_wp2
      go_roundw
      case rel => exact ⟨j + 1, by omega, by go_num, by rw [hR.out]; unfold mPhi; congr 1; omega, ⟨hr.out.trans ((Chg.set (Chg.refl lo hi _) hh'.out ⟨hb1, hb2⟩ b0.out).trans hc1)⟩⟩
      case measure => simp [intOf]; omega
    · have e : j = xs.length := by omega
      subst e
      go_wp2
      go_ret
      exact ⟨by rw [mL_all]; rfl, hr.out⟩
set_option maxHeartbeats 4000000 in
theorem m_InstS (lo hi : Nat) (v : Value) (xs : List XInst) (k : Int) (w : World) (hv : SlInst lo hi w v xs) (h0 : 0 ≤ k) (h1 : k + mL mInst xs ≤ 1099511627776) :
    Calls Tryz.prog 125 #[v, .int .i64 k] w (RetC lo hi (k + mL mInst xs) w) := by
  obtain ⟨A, c, rfl, -, hl, hv0⟩ := hv.sh
  clear hv
  have h1' := Hd.mk h1
  clear h1
  go_enter Tryz.func125, Tryz.ntmps125
  go_wp2
  go_loopw [1, 5] (fun s1 s5 wr => ∃ j : Nat, j ≤ xs.length ∧ s5 = .int .i64 j ∧ s1 = .int .i64 (k + mL mInst (xs.take j)) ∧ Hd (Chg lo hi w wr)) (fun _ s5 _ => xs.length - (intOf s5).toNat)
  case atStart => exact ⟨0, Nat.zero_le _, rfl, by simp [mL], ⟨Chg.refl _ _ _⟩⟩
  case round =>
    obtain ⟨j, hj, rfl, rfl, hr⟩ := hrel
    by_cases hlt : j < xs.length
    · have hS := mL_snoc mInst xs j hlt
      have hS2 := mL_le mInst xs (j + 1)
      have h1 := h1'.out
      obtain ⟨q, hq⟩ : ∃ q : Int, q = k + (mL mInst (xs.take j) : Nat) := ⟨_, rfl⟩
      rw [← hq]
      have hq0 : 0 ≤ q := by omega
      have hq1 : q + mInst xs[j] ≤ 1099511627776 := by omega
      have hR := Hd.mk (show k + (mL mInst (xs.take (j + 1)) : Nat) = q + mInst xs[j] by omega)
      clear h1 hS hS2 hq
      generalize hx : xs[j] = x at *
      unfold mInst at hq1
      obtain ⟨b, arr, e, cs, hA, hb1, hb2, hh, ⟨i0, i1, i2, i3, i4, i5, v1, rfl, r1⟩, -, hat⟩ := (hv0.out.mv hr.out).at_ j hlt
      cases hA
      rw [hx] at r1
      obtain ⟨A1, c1, rfl, -, hl1, hr1⟩ := r1.sh
      clear r1
      obtain ⟨he, hf⟩ := row_facts hh
      have a0 := hat 0 _ rfl
      have a1 := hat 1 _ rfl
      have a2 := hat 2 _ rfl
      have a3 := hat 3 _ rfl
      have a4 := hat 4 _ rfl
      have a5 := hat 5 _ rfl
      have a6 := hat 6 _ rfl
      simp at a0 a1 a2 a3 a4 a5 a6
      have g0 := (he (j * 7)).trans a0
      have g1 := (he (j * 7 + 1)).trans a1
      have g2 := (he (j * 7 + 2)).trans a2
      have g3 := (he (j * 7 + 3)).trans a3
      have g4 := (he (j * 7 + 4)).trans a4
      have g5 := (he (j * 7 + 5)).trans a5
      have g6 := (he (j * 7 + 6)).trans a6
      have z0 := hf (j * 7)
      have z1 := hf (j * 7 + 1)
      have z2 := hf (j * 7 + 2)
      have z3 := hf (j * 7 + 3)
      have z4 := hf (j * 7 + 4)
      have z5 := hf (j * 7 + 5)
      clear he hf hat
      have hh' := Hd.mk hh
      have b0 := Hd.mk a0
      have b1 := Hd.mk a1
      have b2 := Hd.mk a2
      have b3 := Hd.mk a3
      have b4 := Hd.mk a4
      have b5 := Hd.mk a5
      clear hh hx a0 a1 a2 a3 a4 a5 a6
      have y0 : IntKind.i64.wrap (q) = q := IntWalk.i64_in _ (by omega)
      have y1 : IntKind.i64.wrap (q + 1) = q + 1 := IntWalk.i64_in _ (by omega)
      have y2 : IntKind.i64.wrap (q + 1 + 1) = q + 1 + 1 := IntWalk.i64_in _ (by omega)
      have y3 : IntKind.i64.wrap (q + 1 + 1 + 1) = q + 1 + 1 + 1 := IntWalk.i64_in _ (by omega)
      have y4 : IntKind.i64.wrap (q + 1 + 1 + 1 + 1) = q + 1 + 1 + 1 + 1 := IntWalk.i64_in _ (by omega)
      have y5 : IntKind.i64.wrap (q + 1 + 1 + 1 + 1 + 1) = q + 1 + 1 + 1 + 1 + 1 := IntWalk.i64_in _ (by omega)
      have y6 : IntKind.i64.wrap (q + 1 + 1 + 1 + 1 + 1 + 1) = q + 1 + 1 + 1 + 1 + 1 + 1 := IntWalk.i64_in _ (by omega)
      go_wp2_with fail
      refine (m_S lo hi _ x.args _ _ (hr1.out.mv (Chg.set (Chg.set (Chg.set (Chg.set (Chg.set (Chg.set (Chg.refl lo hi _) hh'.out ⟨hb1, hb2⟩ b0.out) hh'.out ⟨hb1, hb2⟩ b1.out) hh'.out ⟨hb1, hb2⟩ b2.out) hh'.out ⟨hb1, hb2⟩ b3.out) hh'.out ⟨hb1, hb2⟩ b4.out) hh'.out ⟨hb1, hb2⟩ b5.out)) (by omega) (by omega)).mono ?_
      rintro e w1 ⟨rfl, hc1⟩
      go_wp2
      go_roundw
      case rel => exact ⟨j + 1, by omega, by go_num, by rw [hR.out]; unfold mInst; congr 1; omega, ⟨hr.out.trans ((Chg.set (Chg.set (Chg.set (Chg.set (Chg.set (Chg.set (Chg.refl lo hi _) hh'.out ⟨hb1, hb2⟩ b0.out) hh'.out ⟨hb1, hb2⟩ b1.out) hh'.out ⟨hb1, hb2⟩ b2.out) hh'.out ⟨hb1, hb2⟩ b3.out) hh'.out ⟨hb1, hb2⟩ b4.out) hh'.out ⟨hb1, hb2⟩ b5.out).trans hc1)⟩⟩
      case measure => simp [intOf]; omega
    · have e : j = xs.length := by omega
      subst e
      go_wp2
      go_ret
      exact ⟨by rw [mL_all]; rfl, hr.out⟩
theorem Sl.hd {α : Type} {lo hi sz : Nat} {K : World → α → List Value → Prop} {w : World} {A : Option Addr} {n c : Nat} {xs : List α} (h : Sl lo hi sz K w (.slice A n c) xs) : n = xs.length := by
  obtain ⟨A', c', hv, _⟩ := h; cases hv; rfl
set_option maxHeartbeats 4000000 in
theorem m_BlockS (lo hi : Nat) (v : Value) (xs : List XBlock) (k : Int) (w : World) (hv : SlBlock lo hi w v xs) (h0 : 0 ≤ k) (h1 : k + mL mBlock xs ≤ 1099511627776) :
    Calls Tryz.prog 88 #[v, .int .i64 k] w (RetC lo hi (k + mL mBlock xs) w) := by
  obtain ⟨A, c, rfl, -, hl, hv0⟩ := hv.sh
  clear hv
  have h1' := Hd.mk h1
  clear h1
  go_enter Tryz.func88, Tryz.ntmps88
  go_wp2
  go_loopw [1, 5] (fun s1 s5 wr => ∃ j : Nat, j ≤ xs.length ∧ s5 = .int .i64 j ∧ s1 = .int .i64 (k + mL mBlock (xs.take j)) ∧ Hd (Chg lo hi w wr)) (fun _ s5 _ => xs.length - (intOf s5).toNat)
  case atStart => exact ⟨0, Nat.zero_le _, rfl, by simp [mL], ⟨Chg.refl _ _ _⟩⟩
  case round =>
    obtain ⟨j, hj, rfl, rfl, hr⟩ := hrel
    by_cases hlt : j < xs.length
    · have hS := mL_snoc mBlock xs j hlt
      have hS2 := mL_le mBlock xs (j + 1)
      have h1 := h1'.out
      obtain ⟨q, hq⟩ : ∃ q : Int, q = k + (mL mBlock (xs.take j) : Nat) := ⟨_, rfl⟩
      rw [← hq]
      have hq0 : 0 ≤ q := by omega
      have hq1 : q + mBlock xs[j] ≤ 1099511627776 := by omega
      have hR := Hd.mk (show k + (mL mBlock (xs.take (j + 1)) : Nat) = q + mBlock xs[j] by omega)
      clear h1 hS hS2 hq
      have hget := fun W (hW : Chg lo hi w W) => (hv0.out.mv hW).at_ j hlt
      generalize hx : xs[j] = x at *
      have hB := Hd.mk (show mBlock x = mL mPhi x.phis + mL mInst x.insts + 4 from rfl)
      have hq1' : q + (mL mPhi x.phis + mL mInst x.insts + 4 : Nat) ≤ 1099511627776 := by rw [← hB.out]; exact hq1
      clear hx hq1
      obtain ⟨b, arr, e, cs, hA, hb1, hb2, hh, ⟨v1, v2, i2, i3, i4, i5, rfl, r1, r2⟩, -, hat⟩ := hget wr hr.out
      cases hA
      obtain ⟨A1, c1, rfl, -, hl1, hr1⟩ := r1.sh
      obtain ⟨he, -⟩ := row_facts hh
      have a0 := hat 0 _ rfl
      simp at a0
      have g0 := (he (j * 6)).trans a0
      clear he hat hh a0 r1 r2
      go_wp2_with fail
      refine (m_PhiS lo hi _ x.phis _ _ hr1.out (by omega) (by omega)).mono ?_
      rintro e w1 ⟨rfl, hc1⟩
      obtain ⟨b', arr, e, cs, hA, -, -, hh, ⟨v1, v2, i2, i3, i4, i5, rfl, r1, r2⟩, -, hat⟩ := hget w1 (hr.out.trans hc1)
      cases hA
      obtain ⟨A2, c2, rfl, -, hl2, hr2⟩ := r2.sh
      obtain ⟨he, -⟩ := row_facts hh
      have a1 := hat 1 _ rfl
      have g1 := (he (j * 6 + 1)).trans a1
      clear he hat hh a1 r1 r2
      go_wp2_with fail
      refine (m_InstS lo hi _ x.insts _ _ hr2.out (by omega) (by omega)).mono ?_
      rintro e w2 ⟨rfl, hc2⟩
      obtain ⟨b', arr, e, cs, hA, -, -, hh, ⟨v1, v2, i2, i3, i4, i5, rfl, -, -⟩, -, hat⟩ := hget w2 ((hr.out.trans hc1).trans hc2)
      cases hA
      obtain ⟨he, hf⟩ := row_facts hh
      have a2 := hat 2 _ rfl
      have a3 := hat 3 _ rfl
      have a4 := hat 4 _ rfl
      have a5 := hat 5 _ rfl
      have k2 := (he (j * 6 + 2)).trans a2
      have k3 := (he (j * 6 + 3)).trans a3
      have k4 := (he (j * 6 + 4)).trans a4
      have k5 := (he (j * 6 + 5)).trans a5
      have z2 := hf (j * 6 + 2)
      have z3 := hf (j * 6 + 3)
      have z4 := hf (j * 6 + 4)
      have z5 := hf (j * 6 + 5)
      have hh' := Hd.mk hh
      have b2 := Hd.mk a2
      have b3 := Hd.mk a3
      have b4 := Hd.mk a4
      have b5 := Hd.mk a5
      clear he hf hat hh a2 a3 a4 a5
      obtain ⟨p, hp⟩ : ∃ p : Int, p = q + (mL mPhi x.phis : Nat) + (mL mInst x.insts : Nat) := ⟨_, rfl⟩
      rw [← hp]
      have hp0 : 0 ≤ p := by omega
      have hp1 : p + 4 ≤ 1099511627776 := by omega
      have hR2 := Hd.mk (show k + (mL mBlock (xs.take (j + 1)) : Nat) = p + 1 + 1 + 1 + 1 by rw [hR.out, hB.out, hp]; omega)
      clear hq1' hp hR
      have y0 : IntKind.i64.wrap p = p := IntWalk.i64_in _ (by omega)
      have y1 : IntKind.i64.wrap (p + 1) = p + 1 := IntWalk.i64_in _ (by omega)
      have y2 : IntKind.i64.wrap (p + 1 + 1) = p + 1 + 1 := IntWalk.i64_in _ (by omega)
      have y3 : IntKind.i64.wrap (p + 1 + 1 + 1) = p + 1 + 1 + 1 := IntWalk.i64_in _ (by omega)
      have y4 : IntKind.i64.wrap (p + 1 + 1 + 1 + 1) = p + 1 + 1 + 1 + 1 := IntWalk.i64_in _ (by omega)
      go_wp2
      go_roundw
      case rel => exact ⟨j + 1, by omega, by go_num, by rw [hR2.out], ⟨((hr.out.trans hc1).trans hc2).trans (Chg.set (Chg.set (Chg.set (Chg.set (Chg.refl lo hi _) hh'.out ⟨hb1, hb2⟩ b2.out) hh'.out ⟨hb1, hb2⟩ b3.out) hh'.out ⟨hb1, hb2⟩ b4.out) hh'.out ⟨hb1, hb2⟩ b5.out)⟩⟩
      case measure => simp [intOf]; omega
    · have e : j = xs.length := by omega
      subst e
      go_wp2
      go_ret
      exact ⟨by rw [mL_all]; rfl, hr.out⟩
theorem Chg.cellAt {lo hi : Nat} {w w' : World} (h : Chg lo hi w w') (b : Nat) (h1 : b < w.heap.size) (h2 : b < lo ∨ hi ≤ b) (o : Nat) : w'.cell? ⟨b, o, none⟩ = w.cell? ⟨b, o, none⟩ := by
  simp only [World.cell?, h.out b h1 h2]
theorem Chg.frozenAt {lo hi : Nat} {w w' : World} (h : Chg lo hi w w') (b : Nat) (h1 : b < w.heap.size) (h2 : b < lo ∨ hi ≤ b) (o : Nat) : w'.frozen? ⟨b, o, none⟩ = w.frozen? ⟨b, o, none⟩ := by
  simp only [World.frozen?, h.out b h1 h2]
end Go.Proofs.YtkcgejbnhpccdaaGreat
set_option linter.unusedSimpArgs false
set_option linter.unusedVariables false
namespace Go.Proofs.YtkcgejbnhpccdaaGreat
open Go.RowKit
theorem cs3 {cs : List Value} {a b c : Value} (h : cs.length = 3) (h0 : cs[0]? = some a) (h1 : cs[1]? = some b) (h2 : cs[2]? = some c) : cs = [a, b, c] := by
  match cs, h with
  | [x1, x2, x3], _ => simp at h0 h1 h2; rw [h0, h1, h2]
instance {lo hi : Nat} : KC (SFunc lo hi) := ⟨fun ⟨v, a, v', h, r, s⟩ hch hl hc => by
  subst h
  obtain ⟨i1, h1⟩ := int1 (hc 1 _ rfl) ⟨_, rfl⟩
  exact ⟨v, i1, v', cs3 hl (fix1 (hc 0 _ rfl) r.ne) h1 (fix1 (hc 2 _ rfl) s.ne), r.mv hch, s.mv hch⟩⟩
abbrev SlFunc (lo hi : Nat) := Sl lo hi 3 (SFunc lo hi)
def mFuncE (f : XFunc) : Nat := f.params.length + mL mBlock f.blocks + 1
def SMod (lo hi : Nat) (w : World) (x : XMod) (cs : List Value) : Prop := ∃ v, cs = [v] ∧ SlFunc lo hi w v x.funcs
theorem so_mod {lo : Nat} {w : World} {p : XMod} {cs : List Value} (h : OMod lo w p cs) (hw : wL wFunc p.funcs ≤ lm) : SMod lo w.heap.size w p cs := by
  obtain ⟨v, rfl, hr⟩ := h
  exact ⟨v, rfl, Own.sl hr (by unfold wL at hw; omega) fun x hx _ hk => so_func hk (Nat.le_trans (wL_mem _ _ _ hx) hw)⟩
set_option maxHeartbeats 4000000 in
theorem m_FuncS (lo hi : Nat) (v : Value) (xs : List XFunc) (k : Int) (w : World) (hv : SlFunc lo hi w v xs) (h0 : 0 ≤ k) (h1 : k + mL mFuncE xs ≤ 1099511627776) :
    Calls Tryz.prog 66 #[v, .int .i64 k] w (RetC lo hi (k + mL mFuncE xs) w) := by
  obtain ⟨A, c, rfl, -, hl, hv0⟩ := hv.sh
  clear hv
  have h1' := Hd.mk h1
  clear h1
  go_enter Tryz.func66, Tryz.ntmps66
  go_wp2
  go_loopw [1, 5] (fun s1 s5 wr => ∃ j : Nat, j ≤ xs.length ∧ s5 = .int .i64 j ∧ s1 = .int .i64 (k + mL mFuncE (xs.take j)) ∧ Hd (Chg lo hi w wr)) (fun _ s5 _ => xs.length - (intOf s5).toNat)
  case atStart => exact ⟨0, Nat.zero_le _, rfl, by simp [mL], ⟨Chg.refl _ _ _⟩⟩
  case round =>
    obtain ⟨j, hj, rfl, rfl, hr⟩ := hrel
    by_cases hlt : j < xs.length
    · have hS := mL_snoc mFuncE xs j hlt
      have hS2 := mL_le mFuncE xs (j + 1)
      have h1 := h1'.out
      obtain ⟨q, hq⟩ : ∃ q : Int, q = k + (mL mFuncE (xs.take j) : Nat) := ⟨_, rfl⟩
      rw [← hq]
      have hq0 : 0 ≤ q := by omega
      have hq1 : q + mFuncE xs[j] ≤ 1099511627776 := by omega
      have hR := Hd.mk (show k + (mL mFuncE (xs.take (j + 1)) : Nat) = q + mFuncE xs[j] by omega)
      clear h1 hS hS2 hq
      have hget := fun W (hW : Chg lo hi w W) => (hv0.out.mv hW).at_ j hlt
      generalize hx : xs[j] = x at *
      have hB := Hd.mk (show mFuncE x = x.params.length + mL mBlock x.blocks + 1 from rfl)
      have hq1' : q + (x.params.length + mL mBlock x.blocks + 1 : Nat) ≤ 1099511627776 := by rw [← hB.out]; exact hq1
      clear hx hq1
      obtain ⟨b, arr, e, cs, hA, hb1, hb2, hh, ⟨v1, i1, v2, rfl, r1, r2⟩, -, hat⟩ := hget wr hr.out
      cases hA
      obtain ⟨A1, c1, rfl, -, hl1, hr1⟩ := r1.sh
      obtain ⟨he, -⟩ := row_facts hh
      have a0 := hat 0 _ rfl
      simp at a0
      have g0 := (he (j * 3)).trans a0
      clear he hat hh a0 r1 r2
      go_wp2_with fail
      refine (m_S lo hi _ x.params _ _ hr1.out (by omega) (by omega)).mono ?_
      rintro e w1 ⟨rfl, hc1⟩
      obtain ⟨b', arr, e, cs, hA, -, -, hh, ⟨v1, i1, v2, rfl, r1, r2⟩, -, hat⟩ := hget w1 (hr.out.trans hc1)
      cases hA
      obtain ⟨A2, c2, rfl, -, hl2, hr2⟩ := r2.sh
      obtain ⟨he, hf⟩ := row_facts hh
      have a1 := hat 1 _ rfl
      have a2 := hat 2 _ rfl
      have k1 := (he (j * 3 + 1)).trans a1
      have k2 := (he (j * 3 + 2)).trans a2
      have z1 := hf (j * 3 + 1)
      have b1 := Hd.mk a1
      have hh' := Hd.mk hh
      have hcs : Hd (Chg lo hi w1 (w1.setCell ⟨b, j * 3 + 1, none⟩ (.int .i64 (q + x.params.length)))) := ⟨Chg.set (Chg.refl lo hi _) hh'.out ⟨hb1, hb2⟩ b1.out⟩
      have y0 : IntKind.i64.wrap (q + (x.params.length : Int)) = q + (x.params.length : Int) := IntWalk.i64_in _ (by omega)
      have y1 : IntKind.i64.wrap (q + (x.params.length : Int) + 1) = q + (x.params.length : Int) + 1 := IntWalk.i64_in _ (by omega)
      clear he hf hat hh a1 a2 r1 r2
      go_wp2_with fail
      refine (m_BlockS lo hi _ x.blocks _ _ (hr2.out.mv hcs.out) (by omega) (by omega)).mono ?_
      rintro e w2 ⟨rfl, hc2⟩
      have hR2 := Hd.mk (show k + (mL mFuncE (xs.take (j + 1)) : Nat) = q + (x.params.length : Int) + 1 + (mL mBlock x.blocks : Nat) by rw [hR.out, hB.out]; omega)
      have hfin := Hd.mk (((hr.out.trans hc1).trans hcs.out).trans hc2)
      clear hget hq1' k1 k2 g0 y0 y1
      go_wp2
      go_roundw
      case rel => exact ⟨j + 1, by omega, by go_num, by rw [hR2.out], hfin⟩
      case measure => simp [intOf]; omega
    · have e : j = xs.length := by omega
      subst e
      go_wp2
      go_ret
      exact ⟨by rw [mL_all]; rfl, hr.out⟩
def mMod (x : XMod) : Nat := mL mFuncE x.funcs
set_option maxHeartbeats 4000000 in
theorem m_Mod (lo hi : Nat) (x : XMod) (cs : List Value) (k : Int) (w : World) (hz : hi ≤ w.heap.size) (hlo : lo ≤ w.heap.size) (hx : SMod lo hi w x cs) (h0 : 0 ≤ k) (h1 : k + mMod x ≤ 1099511627776) :
    Calls Tryz.prog 34 #[.agg cs.toArray, .int .i64 k] w (RetC lo hi (k + mMod x) w) := by
  obtain ⟨v1, rfl, r1⟩ := hx
  unfold mMod at *
  have hc0 := fun o => (Chg.refl lo hi w).alloc hlo o
  have tm1 := fun W (hW : Chg lo hi w W) => m_FuncS lo hi v1 x.funcs k W (r1.mv hW) h0 h1
  obtain ⟨A1, c1, rfl, -, hl1, -⟩ := r1.sh
  generalize mL mFuncE x.funcs = q at *
  clear r1
  go_enter Tryz.func34, Tryz.ntmps34
  go_wp2_with fail
  refine (tm1 _ (hc0 _)).mono ?_; rintro e w1 ⟨rfl, hc1⟩
  go_wp2
  go_ret
  exact ⟨rfl, (hc0 _).trans hc1⟩
end Go.Proofs.YtkcgejbnhpccdaaGreat
set_option linter.unusedSimpArgs false
set_option linter.unusedVariables false
namespace Go.Proofs.YtkcgejbnhpccdaaGreat
open Go.RowKit
theorem wMod_le {p : XMod} (h : wMod p ≤ lm) : p.funcs.length ≤ lm := by unfold wMod wL at h; omega
theorem o_mod {lo : Nat} {w : World} {p : XMod} {cs : List Value} (h : OMod lo w p cs) (hw : wMod p ≤ lm) : KMod lm w p cs := by
  obtain ⟨v, rfl, hr⟩ := h
  exact ⟨v, rfl, hr.rdm (fun x hx _ hk => o_func hk (Nat.le_trans (wL_mem _ _ _ hx) hw)) (wMod_le hw)⟩
theorem nar_mod {w : World} {p : XMod} {cs : List Value} (h : KMod lw w p cs) (hw : wMod p ≤ lm) : KMod lm w p cs := by
  obtain ⟨v, rfl, hr⟩ := h
  exact ⟨v, rfl, hr.nar (wMod_le hw) fun x hx _ hk => nar_func hk (Nat.le_trans (wL_mem _ _ _ hx) hw)⟩
theorem res_K {base : Nat} {w : World} {x : XRes} {v : Value} (h : w.ownsRow base 2 1 v x.out.length (x.out.map (Value.int .i64))) (hl : x.out.length ≤ lm) : KRes w x [.int .i64 x.code, .int .i64 x.value, v, .string x.mem, .int .i64 x.steps] := ⟨v, rfl, (OwI.of h).rd hl⟩
theorem SMod.mv {lo hi l' h' : Nat} {w w' : World} {x : XMod} {cs : List Value} (h : SMod lo hi w x cs) (hc : Chg l' h' w w') : SMod lo hi w' x cs := by
  obtain ⟨v, rfl, r⟩ := h; exact ⟨v, rfl, r.mv hc⟩
theorem resR_out (m : XMod) (k : Int) (args : List Int) (mem : ByteArray) (fuel : Int) : (resR m k args mem fuel).out.length ≤ lm := by
  unfold resR resI
  split
  · rename_i hm
    split
    · rename_i h
      unfold invOk at h
      simp only [Bool.and_eq_true, beq_iff_eq] at h
      obtain ⟨⟨⟨h1, h2⟩, h3⟩, h4⟩ := h
      have := (callR_ok (modOk_parts hm).1 fuel.toNat 6 k args (rs0 mem) (rs0_ok mem h3 _) (args_rng h2).2).1.out
      exact Nat.le_trans this (by decide)
    · exact Nat.zero_le _
  · exact Nat.zero_le _
theorem mL_phi (l : List XPhi) : mL mPhi l = wL wPhi l := by
  unfold mL wL
  induction l with
  | nil => rfl
  | cons p r ih => simp only [List.map_cons, List.sum_cons, List.length_cons, mPhi, wPhi] at *; omega
theorem mL_inst (l : List XInst) : mL mInst l ≤ 6 * wL wInst l := by
  unfold mL wL
  induction l with
  | nil => simp
  | cons p r ih => simp only [List.map_cons, List.sum_cons, List.length_cons, mInst, wInst] at *; omega
theorem mL_block (l : List XBlock) : mL mBlock l ≤ 6 * wL wBlock l := by
  have h : ∀ b : XBlock, mBlock b ≤ 6 * wBlock b + 4 := fun b => by
    have h1 := mL_phi b.phis
    have h2 := mL_inst b.insts
    unfold mL at h1 h2
    unfold mBlock wBlock
    omega
  unfold mL wL
  induction l with
  | nil => simp
  | cons p r ih =>
    have := h p
    simp only [List.map_cons, List.sum_cons, List.length_cons] at *; omega
theorem mFunc_le (f : XFunc) : mFunc f ≤ 6 * wFunc f := by
  have := mL_block f.blocks
  unfold mL at this
  unfold mFunc wFunc
  omega
theorem mMod_le (x : XMod) : mMod x ≤ 7 * wMod x := by
  unfold mMod wMod wL mL
  generalize x.funcs = l
  induction l with
  | nil => simp
  | cons a r ih =>
    have h := mFunc_le a
    have e : mFuncE a = mFunc a + 1 := rfl
    simp only [List.map_cons, List.sum_cons, List.length_cons]
    omega
end Go.Proofs.YtkcgejbnhpccdaaGreat
set_option linter.unusedSimpArgs false
set_option linter.unusedVariables false
namespace Go.Proofs.YtkcgejbnhpccdaaGreat
open Go.RowKit
section
variable {H : Type} {enc : TypeId × Value → H}
theorem ln1 {cs : List Value} (h : cs.length = 1) : ∃ c0, cs = [c0] := by
  match cs, h with
  | [x], _ => exact ⟨x, rfl⟩
theorem cells_sFunc : Tryz.prog.cellsOf 58 = 1 := by kernel_rfl
theorem op_sFunc {W : World} {n : Nat} {cs : List Value} {y : DataW H × List MemPlace} (h : DataW.trod enc Tryz.prog W 0 (fun _ => true) true n 58 cs = some y) : ∃ v xs, cs = [v] ∧ Rd lw 3 (KFunc lw) W v xs := op_slice Tryz.underlying58 cells_Func (by omega) op_Func h
theorem cells_Module : Tryz.prog.cellsOf 60 = 1 := by kernel_rfl
theorem op_Module {W : World} : Op enc W 60 1 (KMod lw) := fun n cs y h => by
  obtain ⟨xs, m, _, _, hl, hs, hf⟩ := DataW.trod_struct Tryz.underlying60 h
  rw [cells_Module] at hl
  have hs : xs.length = 1 := hs
  obtain ⟨c0, rfl⟩ := ln1 hl
  have u0 : DataW.trod enc Tryz.prog W 0 (fun _ => true) true m 58 (([c0].drop 0).take (Tryz.prog.cellsOf 58)) = xs[0]? := hf 0 _ rfl
  rw [cells_sFunc, List.getElem?_eq_getElem (by omega)] at u0
  obtain ⟨v0, x0, e0, r0⟩ := op_sFunc u0
  obtain rfl : c0 = v0 := by simpa using e0
  exact ⟨⟨x0⟩, ⟨_, rfl, r0⟩, rfl⟩
end
end Go.Proofs.YtkcgejbnhpccdaaGreat
