/- The contract of instOf. No conditions. -/
import Derived.Test.YtdnbiohohbnhgaaC8
import Derived.StillTailTactics
import Derived.Deep.QuietTactic
import Derived.BigQuiet
set_option linter.unusedSimpArgs false
set_option linter.unusedVariables false
namespace Go.Proofs.Ytdnbiohohbnhgaa
open Go.RowKit
def RetInst (f : XFunc) (id : Int) (w : World) (e : Ending) (w' : World) : Prop := ∃ cs, e = .returned (.tuple #[.agg cs.toArray, .bool (instAt f id).2]) ∧ KInst lm w' (instAt f id).1 cs ∧ Below w.heap.size w w'
theorem rd_nil {α : Type} (sz : Nat) (K : World → α → List Value → Prop) (w : World) : Rd lm sz K w (.slice none 0 0) [] := ⟨none, 0, rfl, Nat.le_refl _, by simp, fun _ => rfl, fun h => absurd h (by simp)⟩
theorem kinst0 (w : World) : KInst lm w inst0 [.int .i64 0, .int .i64 0, .int .i64 0, .int .i64 0, .int .i64 0, .int .i64 0, .slice none 0 0] := ⟨_, rfl, rd_nil _ _ _⟩
set_option maxHeartbeats 4000000 in
set_option maxRecDepth 100000 in
theorem c_instOf (f : XFunc) (cs : List Value) (id : Int) (w : World) (hf : KFunc lm w f cs) (hc : countOf f ≤ 1099511627776) :
    Calls Try.prog 54 #[.agg cs.toArray, .int .i64 id] w (RetInst f id w) := by
  have hpl := fun W hW => c_PlaceOf f cs id W (KM.mv hf hW) hc
  obtain ⟨v1, v2, rfl, hp, hb⟩ := hf
  obtain ⟨A1, c1, rfl, -, hl1, -⟩ := hp.sm
  obtain ⟨A2, c2, rfl, -, hl2, hb0⟩ := hb.sm
  have hbl := fun o o' => ((Below.refl w.heap.size w).al (Nat.le_refl _) o).al (by simp) o'
  clear hp hb
  have hcase : (∃ b at_, placeOf f id = (b, at_) ∧ b < 0 ∧ -9223372036854775807 ≤ b ∧ at_ ≤ 9223372036854775807) ∨ ∃ k, ∃ h : k < f.blocks.length, placeOf f id = ((k : Int), id - countIn f.params.length (f.blocks.take k)) ∧ countIn f.params.length (f.blocks.take k) ≤ id ∧ id < countIn f.params.length (f.blocks.take k) + sizeB f.blocks[k] := by
    rcases placeOf_cases f id with h | h | h
    · exact .inl ⟨_, _, h.1, by omega, by omega, by omega⟩
    · exact .inl ⟨_, _, h.1, by omega, by omega, by omega⟩
    · exact .inr h
  rcases hcase with ⟨b, at_, h, hb1, hb2, hb3⟩ | ⟨k, hk, h1, h2, h3⟩
  · have hI : instAt f id = (inst0, false) := by simp [instAt, h, hb1]
    rw [h] at hpl
    generalize hq : instAt f id = I at *
    unfold RetInst
    rw [hq, hI]
    clear h hq
    go_enter Try.func54, Try.ntmps54
    go_wp2_with fail
    refine (hpl _ (hbl _ _)).mono ?_; rintro e w1 ⟨rfl, hb1⟩
    have k1 := bat hb1 (w.heap.size + 1) (by simp)
    have f1 := fat hb1 (w.heap.size + 1) (by simp)
    have hz1 := hb1.size
    simp at k1 f1 hz1
    go_wp2
    refine bodyPost_ret (v := .tuple #[.agg #[.int .i64 0, .int .i64 0, .int .i64 0, .int .i64 0, .int .i64 0, .int .i64 0, .slice none 0 0], .bool false]) (by simp [results, Try.results54, go_sem, k1]) rfl ⟨_, rfl, kinst0 _, ?_⟩
    repeat (refine Below.setCell ?_ (by simp) _)
    exact (hbl _ _).then hb1
  · rw [h1] at hpl
    obtain ⟨at_, hat_⟩ : ∃ at_, at_ = id - countIn f.params.length (f.blocks.take k) := ⟨_, rfl⟩
    rw [← hat_] at hpl h1
    have ha0 : 0 ≤ at_ := by omega
    have ha1 : at_ < sizeB f.blocks[k] := by omega
    have hgd : f.blocks.getD k block0 = f.blocks[k] := by simp [hk]
    have hI : instAt f id = if at_ < (f.blocks[k].phis.length : Int) then (inst0, false) else (f.blocks[k].insts.getD (at_ - f.blocks[k].phis.length).toNat inst0, true) := by
      simp only [instAt, h1]
      rw [if_neg (by omega), Int.toNat_natCast, hgd]
    have hin := fun W (hW : Below w.heap.size w W) => hb0.out.in0 hW k hk
    have hsz : sizeB f.blocks[k] = f.blocks[k].phis.length + f.blocks[k].insts.length := rfl
    clear h2 h3 hat_ h1 hgd hc
    unfold RetInst
    rw [hI]
    clear hI
    generalize f.blocks[k] = x at *
    generalize f.blocks.length = m at *
    generalize f.params.length = n at *
    rw [hsz] at ha1
    clear hsz
    have hkm : (k : Int) < (m : Int) := by omega
    have hk0 : (0 : Int) ≤ (k : Int) := by omega
    by_cases hph : at_ < (x.phis.length : Int)
    · rw [if_pos hph]
      go_enter Try.func54, Try.ntmps54
      go_wp2_with fail
      refine (hpl _ (hbl _ _)).mono ?_; rintro e w1 ⟨rfl, hb1⟩
      have k0 := bat hb1 w.heap.size (by simp; omega)
      have k1 := bat hb1 (w.heap.size + 1) (by simp)
      have f1 := fat hb1 (w.heap.size + 1) (by simp)
      have hz1 := hb1.size
      simp at k0 k1 f1 hz1
      obtain ⟨b, off, cs, hA, hbl0, ⟨v1, v2, rfl, hr, hr2⟩, hat⟩ := hin w1 ((hbl _ _).then hb1)
      cases hA
      have g0 := hat 0 _ rfl
      simp at g0
      obtain ⟨A3, c3, rfl, -, hl3, -⟩ := hr.sm
      clear hat
      go_wp2
      refine bodyPost_ret (v := .tuple #[.agg #[.int .i64 0, .int .i64 0, .int .i64 0, .int .i64 0, .int .i64 0, .int .i64 0, .slice none 0 0], .bool false]) (by simp [results, Try.results54, go_sem, k1]) rfl ⟨_, rfl, kinst0 _, ?_⟩
      repeat (refine Below.setCell ?_ (by simp) _)
      exact (hbl _ _).then hb1
    · rw [if_neg hph]
      obtain ⟨j, hj⟩ : ∃ j : Nat, at_ = x.phis.length + j := ⟨(at_ - x.phis.length).toNat, by omega⟩
      have hjl : j < x.insts.length := by omega
      rw [show (at_ - x.phis.length).toNat = j by omega, show x.insts.getD j inst0 = x.insts[j] by simp [hjl]]
      subst hj
      go_enter Try.func54, Try.ntmps54
      go_wp2_with fail
      refine (hpl _ (hbl _ _)).mono ?_; rintro e w1 ⟨rfl, hb1⟩
      have k0 := bat hb1 w.heap.size (by simp; omega)
      have k1 := bat hb1 (w.heap.size + 1) (by simp)
      have f1 := fat hb1 (w.heap.size + 1) (by simp)
      have hz1 := hb1.size
      simp at k0 k1 f1 hz1
      obtain ⟨b, off, cs, hA, hbl0, ⟨v1, v2, rfl, hr, hr2⟩, hat⟩ := hin w1 ((hbl _ _).then hb1)
      cases hA
      have g0 := hat 0 _ rfl
      have g1 := hat 1 _ rfl
      simp at g0 g1
      obtain ⟨A3, c3, rfl, -, hl3, -⟩ := hr.sm
      obtain ⟨A4, c4, rfl, -, hl4, hr20⟩ := hr2.sm
      obtain ⟨b5, off5, cs5, hA5, hbl5, ⟨v5, rfl, hr5⟩, hat5⟩ := hr20.out.in0 ((hbl _ _).then hb1) j hjl
      cases hA5
      obtain ⟨A5, c5, rfl, -, -, hr50⟩ := hr5.sm
      have i0 := hat5 0 _ rfl
      have i1 := hat5 1 _ rfl
      have i2 := hat5 2 _ rfl
      have i3 := hat5 3 _ rfl
      have i4 := hat5 4 _ rfl
      have i5 := hat5 5 _ rfl
      have i6 := hat5 6 _ rfl
      simp at i0 i1 i2 i3 i4 i5 i6
      have hpj : ((x.phis.length : Int) + (j : Int) < (x.phis.length : Int)) = False := eq_false (by omega)
      have hsub : (x.phis.length : Int) + (j : Int) - (x.phis.length : Int) = (j : Int) := by omega
      have hj0 : (j : Int) < (x.insts.length : Int) := by omega
      have hjw : IntKind.i64.wrap (j : Int) = (j : Int) := IntWalk.i64_in _ (by omega)
      clear hat hat5 hr2 hr
      go_wp2
      go_still_tail 17, (by kernel_rfl)
      change wpList _ _ _ _ _ w1.drew
      go_wp2
      refine bodyPost_ret (v := .tuple #[.agg #[.int .i64 x.insts[j].op, .int .i64 x.insts[j].w, .int .i64 x.insts[j].a, .int .i64 x.insts[j].b, .int .i64 x.insts[j].c, .int .i64 x.insts[j].imm, .slice A5 x.insts[j].args.length c5], .bool true]) (by simp [results, Try.results54, go_sem, k1]) rfl ⟨_, rfl, ⟨_, rfl, hr50.out.mv ?h1⟩, ?h2⟩
      all_goals
        apply Below.drew
        repeat (refine Below.setCell ?_ (by simp) _)
        exact (hbl _ _).then hb1
end Go.Proofs.Ytdnbiohohbnhgaa
