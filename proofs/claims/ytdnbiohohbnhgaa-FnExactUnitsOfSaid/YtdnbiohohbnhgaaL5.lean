/- Contracts of the laws' functions that mark rows of structs. No conditions. -/
import Derived.Test.YtdnbiohohbnhgaaL4
set_option linter.unusedSimpArgs false
set_option linter.unusedVariables false
namespace Go.Proofs.Ytdnbiohohbnhgaa
open Go.RowKit
theorem Chg.set {lo hi : Nat} {w W : World} {b o : Nat} {e : TypeId} {arr : Array Value} {i i' : Int} (hc : Chg lo hi w W) (h : w.heap[b]? = some (.cells arr e (0, 0))) (hb : lo ≤ b ∧ b < hi) (ho : arr[o]? = some (.int .i64 i)) : Chg lo hi w (W.setCell ⟨b, o, none⟩ (.int .i64 i')) := by
  obtain ⟨arr', h1, h2⟩ := hc.cell b arr e h
  obtain ⟨i2, h3⟩ : ∃ i, arr'[o]? = some (.int .i64 i) := by
    rcases h2 o _ ho with h3 | ⟨-, h3⟩
    · exact ⟨_, h3⟩
    · exact h3
  exact hc.trans (Chg.setCell h1 hb h3)
def mPhi (p : XPhi) : Nat := 1 + p.ins.length
def mInst (p : XInst) : Nat := 6 + p.args.length
def mBlock (b : XBlock) : Nat := (b.phis.map mPhi).sum + (b.insts.map mInst).sum + 4
def mFunc (f : XFunc) : Nat := f.params.length + (f.blocks.map mBlock).sum
def mL {α : Type} (f : α → Nat) (l : List α) : Nat := (l.map f).sum
theorem mL_snoc {α : Type} (f : α → Nat) (l : List α) (k : Nat) (h : k < l.length) : mL f (l.take (k + 1)) = mL f (l.take k) + f l[k] := wL_snoc f l k h
theorem mL_le {α : Type} (f : α → Nat) (l : List α) (k : Nat) : mL f (l.take k) ≤ mL f l := wL_le f l k
theorem mL_all {α : Type} (f : α → Nat) (l : List α) : mL f (l.take l.length) = mL f l := by rw [List.take_length]
set_option maxHeartbeats 4000000 in
theorem m_PhiS (lo hi : Nat) (v : Value) (xs : List XPhi) (k : Int) (w : World) (hv : SlPhi lo hi w v xs) (h0 : 0 ≤ k) (h1 : k + mL mPhi xs ≤ 1099511627776) :
    Calls Try.prog 57 #[v, .int .i64 k] w (RetC lo hi (k + mL mPhi xs) w) := by
  obtain ⟨A, c, rfl, -, hl, hv0⟩ := hv.sh
  clear hv
  have h1' := Hd.mk h1
  clear h1
  go_enter Try.func57, Try.ntmps57
  go_wp2
  go_loopw [1, 5] (fun s1 s5 wr => ∃ j : Nat, j ≤ xs.length ∧ s5 = .int .i64 j ∧ s1 = .int .i64 (k + mL mPhi (xs.take j)) ∧ Hd (Chg lo hi w wr)) (fun _ s5 _ => xs.length - (intOf s5).toNat)
  case atStart => exact ⟨0, Nat.zero_le _, rfl, by simp [mL], ⟨Chg.refl _ _ _⟩⟩
  case round =>
    obtain ⟨j, hj, rfl, rfl, hr⟩ := hrel
    by_cases hlt : j < xs.length
    · have hS := mL_snoc mPhi xs j hlt
      have hS2 := mL_le mPhi xs (j + 1)
      have h1 := h1'.out
      obtain ⟨q, hq⟩ : ∃ q : Int, q = k + (mL mPhi (xs.take j) : Nat) := ⟨_, rfl⟩
      rw [← hq]
      have hq0 : 0 ≤ q := by omega
      have hq1 : q + mPhi xs[j] ≤ 1099511627776 := by omega
      have hR := Hd.mk (show k + (mL mPhi (xs.take (j + 1)) : Nat) = q + mPhi xs[j] by omega)
      clear h1 hS hS2 hq
      generalize hx : xs[j] = x at *
      unfold mPhi at hq1
      obtain ⟨b, arr, e, cs, hA, hb1, hb2, hh, ⟨i0, v1, rfl, r1⟩, -, hat⟩ := (hv0.out.mv hr.out).at_ j hlt
      cases hA
      rw [hx] at r1
      obtain ⟨A1, c1, rfl, -, hl1, hr1⟩ := r1.sh
      clear r1
      obtain ⟨he, hf⟩ := row_facts hh
      have a0 := hat 0 _ rfl
      have a1 := hat 1 _ rfl
      simp at a0 a1
      have g0 := (he (j * 2)).trans a0
      have g1 := (he (j * 2 + 1)).trans a1
      have z0 := hf (j * 2)
      clear he hf hat
      have hh' := Hd.mk hh
      have b0 := Hd.mk a0
      clear hh hx a0 a1
      have y0 : IntKind.i64.wrap (q) = q := IntWalk.i64_in _ (by omega)
      have y1 : IntKind.i64.wrap (q + 1) = q + 1 := IntWalk.i64_in _ (by omega)
      go_wp2_with fail
      refine (m_S lo hi _ x.ins _ _ (hr1.out.mv (Chg.set (Chg.refl lo hi _) hh'.out ⟨hb1, hb2⟩ b0.out)) (by omega) (by omega)).mono ?_
      rintro e w1 ⟨rfl, hc1⟩
      go_wp2
      go_roundw
      case rel => exact ⟨j + 1, by omega, by go_num, by rw [hR.out]; unfold mPhi; congr 1; omega, ⟨hr.out.trans ((Chg.set (Chg.refl lo hi _) hh'.out ⟨hb1, hb2⟩ b0.out).trans hc1)⟩⟩
      case measure => simp [intOf]; omega
    · have e : j = xs.length := by omega
      subst e
      go_wp2
      go_ret
      exact ⟨by rw [mL_all]; rfl, hr.out⟩
set_option maxHeartbeats 4000000 in
theorem m_InstS (lo hi : Nat) (v : Value) (xs : List XInst) (k : Int) (w : World) (hv : SlInst lo hi w v xs) (h0 : 0 ≤ k) (h1 : k + mL mInst xs ≤ 1099511627776) :
    Calls Try.prog 58 #[v, .int .i64 k] w (RetC lo hi (k + mL mInst xs) w) := by
  obtain ⟨A, c, rfl, -, hl, hv0⟩ := hv.sh
  clear hv
  have h1' := Hd.mk h1
  clear h1
  go_enter Try.func58, Try.ntmps58
  go_wp2
  go_loopw [1, 5] (fun s1 s5 wr => ∃ j : Nat, j ≤ xs.length ∧ s5 = .int .i64 j ∧ s1 = .int .i64 (k + mL mInst (xs.take j)) ∧ Hd (Chg lo hi w wr)) (fun _ s5 _ => xs.length - (intOf s5).toNat)
  case atStart => exact ⟨0, Nat.zero_le _, rfl, by simp [mL], ⟨Chg.refl _ _ _⟩⟩
  case round =>
    obtain ⟨j, hj, rfl, rfl, hr⟩ := hrel
    by_cases hlt : j < xs.length
    · have hS := mL_snoc mInst xs j hlt
      have hS2 := mL_le mInst xs (j + 1)
      have h1 := h1'.out
      obtain ⟨q, hq⟩ : ∃ q : Int, q = k + (mL mInst (xs.take j) : Nat) := ⟨_, rfl⟩
      rw [← hq]
      have hq0 : 0 ≤ q := by omega
      have hq1 : q + mInst xs[j] ≤ 1099511627776 := by omega
      have hR := Hd.mk (show k + (mL mInst (xs.take (j + 1)) : Nat) = q + mInst xs[j] by omega)
      clear h1 hS hS2 hq
      generalize hx : xs[j] = x at *
      unfold mInst at hq1
      obtain ⟨b, arr, e, cs, hA, hb1, hb2, hh, ⟨i0, i1, i2, i3, i4, i5, v1, rfl, r1⟩, -, hat⟩ := (hv0.out.mv hr.out).at_ j hlt
      cases hA
      rw [hx] at r1
      obtain ⟨A1, c1, rfl, -, hl1, hr1⟩ := r1.sh
      clear r1
      obtain ⟨he, hf⟩ := row_facts hh
      have a0 := hat 0 _ rfl
      have a1 := hat 1 _ rfl
      have a2 := hat 2 _ rfl
      have a3 := hat 3 _ rfl
      have a4 := hat 4 _ rfl
      have a5 := hat 5 _ rfl
      have a6 := hat 6 _ rfl
      simp at a0 a1 a2 a3 a4 a5 a6
      have g0 := (he (j * 7)).trans a0
      have g1 := (he (j * 7 + 1)).trans a1
      have g2 := (he (j * 7 + 2)).trans a2
      have g3 := (he (j * 7 + 3)).trans a3
      have g4 := (he (j * 7 + 4)).trans a4
      have g5 := (he (j * 7 + 5)).trans a5
      have g6 := (he (j * 7 + 6)).trans a6
      have z0 := hf (j * 7)
      have z1 := hf (j * 7 + 1)
      have z2 := hf (j * 7 + 2)
      have z3 := hf (j * 7 + 3)
      have z4 := hf (j * 7 + 4)
      have z5 := hf (j * 7 + 5)
      clear he hf hat
      have hh' := Hd.mk hh
      have b0 := Hd.mk a0
      have b1 := Hd.mk a1
      have b2 := Hd.mk a2
      have b3 := Hd.mk a3
      have b4 := Hd.mk a4
      have b5 := Hd.mk a5
      clear hh hx a0 a1 a2 a3 a4 a5 a6
      have y0 : IntKind.i64.wrap (q) = q := IntWalk.i64_in _ (by omega)
      have y1 : IntKind.i64.wrap (q + 1) = q + 1 := IntWalk.i64_in _ (by omega)
      have y2 : IntKind.i64.wrap (q + 1 + 1) = q + 1 + 1 := IntWalk.i64_in _ (by omega)
      have y3 : IntKind.i64.wrap (q + 1 + 1 + 1) = q + 1 + 1 + 1 := IntWalk.i64_in _ (by omega)
      have y4 : IntKind.i64.wrap (q + 1 + 1 + 1 + 1) = q + 1 + 1 + 1 + 1 := IntWalk.i64_in _ (by omega)
      have y5 : IntKind.i64.wrap (q + 1 + 1 + 1 + 1 + 1) = q + 1 + 1 + 1 + 1 + 1 := IntWalk.i64_in _ (by omega)
      have y6 : IntKind.i64.wrap (q + 1 + 1 + 1 + 1 + 1 + 1) = q + 1 + 1 + 1 + 1 + 1 + 1 := IntWalk.i64_in _ (by omega)
      go_wp2_with fail
      refine (m_S lo hi _ x.args _ _ (hr1.out.mv (Chg.set (Chg.set (Chg.set (Chg.set (Chg.set (Chg.set (Chg.refl lo hi _) hh'.out ⟨hb1, hb2⟩ b0.out) hh'.out ⟨hb1, hb2⟩ b1.out) hh'.out ⟨hb1, hb2⟩ b2.out) hh'.out ⟨hb1, hb2⟩ b3.out) hh'.out ⟨hb1, hb2⟩ b4.out) hh'.out ⟨hb1, hb2⟩ b5.out)) (by omega) (by omega)).mono ?_
      rintro e w1 ⟨rfl, hc1⟩
      go_wp2
      go_roundw
      case rel => exact ⟨j + 1, by omega, by go_num, by rw [hR.out]; unfold mInst; congr 1; omega, ⟨hr.out.trans ((Chg.set (Chg.set (Chg.set (Chg.set (Chg.set (Chg.set (Chg.refl lo hi _) hh'.out ⟨hb1, hb2⟩ b0.out) hh'.out ⟨hb1, hb2⟩ b1.out) hh'.out ⟨hb1, hb2⟩ b2.out) hh'.out ⟨hb1, hb2⟩ b3.out) hh'.out ⟨hb1, hb2⟩ b4.out) hh'.out ⟨hb1, hb2⟩ b5.out).trans hc1)⟩⟩
      case measure => simp [intOf]; omega
    · have e : j = xs.length := by omega
      subst e
      go_wp2
      go_ret
      exact ⟨by rw [mL_all]; rfl, hr.out⟩
theorem Sl.hd {α : Type} {lo hi sz : Nat} {K : World → α → List Value → Prop} {w : World} {A : Option Addr} {n c : Nat} {xs : List α} (h : Sl lo hi sz K w (.slice A n c) xs) : n = xs.length := by
  obtain ⟨A', c', hv, _⟩ := h; cases hv; rfl
set_option maxHeartbeats 4000000 in
theorem m_BlockS (lo hi : Nat) (v : Value) (xs : List XBlock) (k : Int) (w : World) (hv : SlBlock lo hi w v xs) (h0 : 0 ≤ k) (h1 : k + mL mBlock xs ≤ 1099511627776) :
    Calls Try.prog 32 #[v, .int .i64 k] w (RetC lo hi (k + mL mBlock xs) w) := by
  obtain ⟨A, c, rfl, -, hl, hv0⟩ := hv.sh
  clear hv
  have h1' := Hd.mk h1
  clear h1
  go_enter Try.func32, Try.ntmps32
  go_wp2
  go_loopw [1, 5] (fun s1 s5 wr => ∃ j : Nat, j ≤ xs.length ∧ s5 = .int .i64 j ∧ s1 = .int .i64 (k + mL mBlock (xs.take j)) ∧ Hd (Chg lo hi w wr)) (fun _ s5 _ => xs.length - (intOf s5).toNat)
  case atStart => exact ⟨0, Nat.zero_le _, rfl, by simp [mL], ⟨Chg.refl _ _ _⟩⟩
  case round =>
    obtain ⟨j, hj, rfl, rfl, hr⟩ := hrel
    by_cases hlt : j < xs.length
    · have hS := mL_snoc mBlock xs j hlt
      have hS2 := mL_le mBlock xs (j + 1)
      have h1 := h1'.out
      obtain ⟨q, hq⟩ : ∃ q : Int, q = k + (mL mBlock (xs.take j) : Nat) := ⟨_, rfl⟩
      rw [← hq]
      have hq0 : 0 ≤ q := by omega
      have hq1 : q + mBlock xs[j] ≤ 1099511627776 := by omega
      have hR := Hd.mk (show k + (mL mBlock (xs.take (j + 1)) : Nat) = q + mBlock xs[j] by omega)
      clear h1 hS hS2 hq
      have hget := fun W (hW : Chg lo hi w W) => (hv0.out.mv hW).at_ j hlt
      generalize hx : xs[j] = x at *
      have hB := Hd.mk (show mBlock x = mL mPhi x.phis + mL mInst x.insts + 4 from rfl)
      have hq1' : q + (mL mPhi x.phis + mL mInst x.insts + 4 : Nat) ≤ 1099511627776 := by rw [← hB.out]; exact hq1
      clear hx hq1
      obtain ⟨b, arr, e, cs, hA, hb1, hb2, hh, ⟨v1, v2, i2, i3, i4, i5, rfl, r1, r2⟩, -, hat⟩ := hget wr hr.out
      cases hA
      obtain ⟨A1, c1, rfl, -, hl1, hr1⟩ := r1.sh
      obtain ⟨he, -⟩ := row_facts hh
      have a0 := hat 0 _ rfl
      simp at a0
      have g0 := (he (j * 6)).trans a0
      clear he hat hh a0 r1 r2
      go_wp2_with fail
      refine (m_PhiS lo hi _ x.phis _ _ hr1.out (by omega) (by omega)).mono ?_
      rintro e w1 ⟨rfl, hc1⟩
      obtain ⟨b', arr, e, cs, hA, -, -, hh, ⟨v1, v2, i2, i3, i4, i5, rfl, r1, r2⟩, -, hat⟩ := hget w1 (hr.out.trans hc1)
      cases hA
      obtain ⟨A2, c2, rfl, -, hl2, hr2⟩ := r2.sh
      obtain ⟨he, -⟩ := row_facts hh
      have a1 := hat 1 _ rfl
      have g1 := (he (j * 6 + 1)).trans a1
      clear he hat hh a1 r1 r2
      go_wp2_with fail
      refine (m_InstS lo hi _ x.insts _ _ hr2.out (by omega) (by omega)).mono ?_
      rintro e w2 ⟨rfl, hc2⟩
      obtain ⟨b', arr, e, cs, hA, -, -, hh, ⟨v1, v2, i2, i3, i4, i5, rfl, -, -⟩, -, hat⟩ := hget w2 ((hr.out.trans hc1).trans hc2)
      cases hA
      obtain ⟨he, hf⟩ := row_facts hh
      have a2 := hat 2 _ rfl
      have a3 := hat 3 _ rfl
      have a4 := hat 4 _ rfl
      have a5 := hat 5 _ rfl
      have k2 := (he (j * 6 + 2)).trans a2
      have k3 := (he (j * 6 + 3)).trans a3
      have k4 := (he (j * 6 + 4)).trans a4
      have k5 := (he (j * 6 + 5)).trans a5
      have z2 := hf (j * 6 + 2)
      have z3 := hf (j * 6 + 3)
      have z4 := hf (j * 6 + 4)
      have z5 := hf (j * 6 + 5)
      have hh' := Hd.mk hh
      have b2 := Hd.mk a2
      have b3 := Hd.mk a3
      have b4 := Hd.mk a4
      have b5 := Hd.mk a5
      clear he hf hat hh a2 a3 a4 a5
      obtain ⟨p, hp⟩ : ∃ p : Int, p = q + (mL mPhi x.phis : Nat) + (mL mInst x.insts : Nat) := ⟨_, rfl⟩
      rw [← hp]
      have hp0 : 0 ≤ p := by omega
      have hp1 : p + 4 ≤ 1099511627776 := by omega
      have hR2 := Hd.mk (show k + (mL mBlock (xs.take (j + 1)) : Nat) = p + 1 + 1 + 1 + 1 by rw [hR.out, hB.out, hp]; omega)
      clear hq1' hp hR
      have y0 : IntKind.i64.wrap p = p := IntWalk.i64_in _ (by omega)
      have y1 : IntKind.i64.wrap (p + 1) = p + 1 := IntWalk.i64_in _ (by omega)
      have y2 : IntKind.i64.wrap (p + 1 + 1) = p + 1 + 1 := IntWalk.i64_in _ (by omega)
      have y3 : IntKind.i64.wrap (p + 1 + 1 + 1) = p + 1 + 1 + 1 := IntWalk.i64_in _ (by omega)
      have y4 : IntKind.i64.wrap (p + 1 + 1 + 1 + 1) = p + 1 + 1 + 1 + 1 := IntWalk.i64_in _ (by omega)
      go_wp2
      go_roundw
      case rel => exact ⟨j + 1, by omega, by go_num, by rw [hR2.out], ⟨((hr.out.trans hc1).trans hc2).trans (Chg.set (Chg.set (Chg.set (Chg.set (Chg.refl lo hi _) hh'.out ⟨hb1, hb2⟩ b2.out) hh'.out ⟨hb1, hb2⟩ b3.out) hh'.out ⟨hb1, hb2⟩ b4.out) hh'.out ⟨hb1, hb2⟩ b5.out)⟩⟩
      case measure => simp [intOf]; omega
    · have e : j = xs.length := by omega
      subst e
      go_wp2
      go_ret
      exact ⟨by rw [mL_all]; rfl, hr.out⟩
theorem Chg.cellAt {lo hi : Nat} {w w' : World} (h : Chg lo hi w w') (b : Nat) (h1 : b < w.heap.size) (h2 : b < lo ∨ hi ≤ b) (o : Nat) : w'.cell? ⟨b, o, none⟩ = w.cell? ⟨b, o, none⟩ := by
  simp only [World.cell?, h.out b h1 h2]
theorem Chg.frozenAt {lo hi : Nat} {w w' : World} (h : Chg lo hi w w') (b : Nat) (h1 : b < w.heap.size) (h2 : b < lo ∨ hi ≤ b) (o : Nat) : w'.frozen? ⟨b, o, none⟩ = w.frozen? ⟨b, o, none⟩ := by
  simp only [World.frozen?, h.out b h1 h2]
set_option maxHeartbeats 4000000 in
theorem m_Func (lo hi : Nat) (x : XFunc) (cs : List Value) (k : Int) (w : World) (hz : hi ≤ w.heap.size) (hlo : lo ≤ w.heap.size) (hx : SFunc lo hi w x cs) (h0 : 0 ≤ k) (h1 : k + mFunc x ≤ 1099511627776) :
    Calls Try.prog 11 #[.agg cs.toArray, .int .i64 k] w (RetC lo hi (k + mFunc x) w) := by
  obtain ⟨v1, i, v2, rfl, r1, r2⟩ := hx
  have hB := Hd.mk (show mFunc x = x.params.length + mL mBlock x.blocks from rfl)
  have hq : k + (x.params.length + mL mBlock x.blocks : Nat) ≤ 1099511627776 := h1
  clear h1
  have hc0 := fun o => (Chg.refl lo hi w).alloc hlo o
  have tm1 := fun W (hW : Chg lo hi w W) => m_S lo hi v1 x.params k W (r1.mv hW) h0 (by omega)
  have tm2 := fun W (hW : Chg lo hi w W) => m_BlockS lo hi v2 x.blocks (k + x.params.length) W (r2.mv hW) (by omega) (by omega)
  obtain ⟨A1, c1, rfl, -, hl1, -⟩ := r1.sh
  obtain ⟨A2, c2, rfl, -, hl2, -⟩ := r2.sh
  clear r1 r2
  go_enter Try.func11, Try.ntmps11
  go_wp2_with fail
  refine (tm1 _ (hc0 _)).mono ?_; rintro e w1 ⟨rfl, hc1⟩
  have k0 := hc1.cellAt w.heap.size (by first | (simp; done) | (simp; omega)) (.inr hz)
  have hz1 := hc1.size
  simp at hz1
  go_wp2_with fail
  refine (tm2 _ ((hc0 _).trans hc1)).mono ?_; rintro e w2 ⟨rfl, hc2⟩
  go_wp2
  go_ret
  exact ⟨by rw [hB.out]; simp [Int.add_assoc], ((hc0 _).trans hc1).trans hc2⟩
end Go.Proofs.Ytdnbiohohbnhgaa
