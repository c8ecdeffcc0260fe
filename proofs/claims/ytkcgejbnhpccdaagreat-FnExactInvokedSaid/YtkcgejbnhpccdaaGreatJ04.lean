/- The plain functions of places and units. No conditions. The contract of PlaceOf. No conditions. The contract of instOf. No conditions. Contracts of Index, is and isFormed. No conditions. The contract of unitsOf. No conditions. Contracts of the reference's leaf functions. No conditions. Contracts of the program's masking and signs, each with the plain function that it computes. No conditions but the operands' ranges. Contracts of the program's shifts, divisions and reckoning of two operands. Conditions: the operands are of their width. Contracts of the reference's masking, shifts and reckoning: the same plain functions. Conditions: the operands are of their width. Contracts of Binary and Casted of the program and of the reference: one plain function each. No conditions. Contract of the law's comparison of results. Condition: both can be read. -/
import Derived.Test.YtkcgejbnhpccdaaGreatJ01
import Derived.Test.YtkcgejbnhpccdaaGreatJ03
import Derived.StillTailTactics
import Derived.Deep.QuietTactic
import Derived.BigQuiet
import Derived.Test.YtkcgejbnhpccdaaGreatJ02
import Derived.Deep.RegionLaw
import Derived.Deep.RegionWith
import Derived.Laws.IdiomStrings
import Derived.Lib.ConvBytes
set_option linter.unusedSimpArgs false
set_option linter.unusedVariables false
namespace Go.Proofs.YtkcgejbnhpccdaaGreat
open Go.RowKit
/-! ### places -/
def placeIn : List XBlock → Int → Int → Int → Int × Int
  | [], _, _, _ => (-2, 0)
  | x :: r, b, n, id => if id < n + sizeB x then (b, id - n) else placeIn r (b + 1) (n + sizeB x) id
def placeOf (f : XFunc) (id : Int) : Int × Int :=
  if isIdB (countOf f) id then (if id < f.params.length then (-1, id) else placeIn f.blocks 0 f.params.length id) else (-2, 0)
theorem placeOf_eq (f : XFunc) (id : Int) : placeOf f id = if isIdB (countOf f) id then (if id < f.params.length then (-1, id) else placeIn f.blocks 0 f.params.length id) else (-2, 0) := rfl
theorem placeIn_drop (l : List XBlock) (k : Nat) (h : k < l.length) (n id : Int) : placeIn (l.drop k) k n id = if id < n + sizeB l[k] then ((k : Int), id - n) else placeIn (l.drop (k + 1)) ((k + 1 : Nat) : Int) (n + sizeB l[k]) id := by
  rw [List.drop_eq_getElem_cons h]; simp [placeIn]
theorem placeIn_spec (l : List XBlock) : ∀ (b0 n id : Int), 0 ≤ b0 → n ≤ id → (placeIn l b0 n id = (-2, 0) ∧ countIn n l ≤ id) ∨
    ∃ k, ∃ h : k < l.length, placeIn l b0 n id = (b0 + k, id - countIn n (l.take k)) ∧ countIn n (l.take k) ≤ id ∧ id < countIn n (l.take k) + sizeB l[k] := by
  induction l with
  | nil => intro b0 n id _ h; left; exact ⟨rfl, by simpa [countIn] using h⟩
  | cons x r ih =>
    intro b0 n id hb hn
    unfold placeIn
    by_cases h : id < n + sizeB x
    · right; refine ⟨0, by simp, ?_, ?_, ?_⟩
      · rw [if_pos h]; simp [countIn]
      · simpa [countIn] using hn
      · simpa [countIn] using h
    · rw [if_neg h]
      rcases ih (b0 + 1) (n + sizeB x) id (by omega) (by omega) with ⟨h1, h2⟩ | ⟨k, hk, h1, h2, h3⟩
      · left; exact ⟨h1, by simpa [countIn, Int.add_assoc] using h2⟩
      · right
        refine ⟨k + 1, by simpa using hk, ?_, ?_, ?_⟩
        · rw [h1]; simp [countIn]; omega
        · simpa [countIn, Int.add_assoc] using h2
        · simpa [countIn, Int.add_assoc] using h3
/-- What the place of an id is. -/
theorem placeOf_cases (f : XFunc) (id : Int) : (placeOf f id = (-2, 0) ∧ isIdB (countOf f) id = false) ∨ (placeOf f id = (-1, id) ∧ 0 ≤ id ∧ id < f.params.length) ∨
    ∃ k, ∃ h : k < f.blocks.length, placeOf f id = ((k : Int), id - countIn f.params.length (f.blocks.take k)) ∧ countIn f.params.length (f.blocks.take k) ≤ id ∧ id < countIn f.params.length (f.blocks.take k) + sizeB f.blocks[k] := by
  unfold placeOf
  cases h : isIdB (countOf f) id with
  | false => left; simp
  | true =>
    right
    have h' : 0 ≤ id ∧ id ≤ countOf f - 1 := by simpa [isIdB, inR] using h
    by_cases h2 : id < f.params.length
    · left; simp [h2]; omega
    · right
      rcases placeIn_spec f.blocks 0 f.params.length id (by omega) (by omega) with ⟨h1, h3⟩ | ⟨k, hk, h1, h3, h4⟩
      · unfold countOf at h'; omega
      · exact ⟨k, hk, by simp [h2, h1], h3, h4⟩
def inst0 : XInst := ⟨0, 0, 0, 0, 0, 0, []⟩
def block0 : XBlock := ⟨[], [], ⟨0, 0, 0, 0⟩⟩
def instAt (f : XFunc) (id : Int) : XInst × Bool :=
  if (placeOf f id).1 < 0 then (inst0, false)
  else if (placeOf f id).2 < ((f.blocks.getD (placeOf f id).1.toNat block0).phis.length : Int) then (inst0, false)
  else ((f.blocks.getD (placeOf f id).1.toNat block0).insts.getD ((placeOf f id).2 - (f.blocks.getD (placeOf f id).1.toNat block0).phis.length).toNat inst0, true)
def isUnit (f : XFunc) (id : Int) : Bool := (instAt f id).2 && ((instAt f id).1.op == 24 || (instAt f id).1.op == 25)
/-- 0, 1, .. below n. -/
def upTo (n : Nat) : List Int := (List.range n).map fun (i : Nat) => (i : Int)
theorem upTo_succ (n : Nat) : upTo (n + 1) = upTo n ++ [(n : Int)] := by simp [upTo, List.range_succ]
def unitsOf (f : XFunc) : List Int := (upTo (countOf f).toNat).filter (isUnit f)
end Go.Proofs.YtkcgejbnhpccdaaGreat
set_option linter.unusedSimpArgs false
set_option linter.unusedVariables false
namespace Go.Proofs.YtkcgejbnhpccdaaGreat
open Go.RowKit
theorem c_isId (f : XFunc) (cs : List Value) (id : Int) (w : World) (hf : KFunc lm w f cs) (hc : countOf f ≤ 9223372036854775807) : Calls Tryz.prog 215 #[.agg cs.toArray, .int .i64 id] w (Ret (.bool (isIdB (countOf f) id)) w) := by
  have hcount := fun W hW => c_CountOf f cs W (KM.mv hf hW)
  have hc0 := countOf_nn f
  obtain ⟨v1, v2, rfl, hp, hb⟩ := hf
  have hbl := fun o => (Below.refl w.heap.size w).al (Nat.le_refl _) o
  have hin := fun n => c_within id 0 n
  clear hp hb
  generalize countOf f = ids at *
  go_enter Tryz.func215, Tryz.ntmps215
  go_wp2_with fail
  refine (hcount _ (by first | exact hbl _ | exact Below.refl _ _)).mono ?_; rintro e w1 ⟨rfl, hb1⟩
  go_wp2_with (go_at_call 62; refine (hin _ _).mono ?_; rintro e w' ⟨rfl, rfl⟩)
  go_ret
  exact ⟨rfl, by first | exact hb1 | exact (hbl _).then hb1⟩
set_option maxHeartbeats 2000000 in
theorem c_PlaceOf (f : XFunc) (cs : List Value) (id : Int) (w : World) (hf : KFunc lm w f cs) (hc : countOf f ≤ 1099511627776) :
    Calls Tryz.prog 184 #[.agg cs.toArray, .int .i64 id] w (Ret (.tuple #[.int .i64 (placeOf f id).1, .int .i64 (placeOf f id).2]) w) := by
  have hid := fun W hW => c_isId f cs id W (KM.mv hf hW) (by omega)
  have hc0 := countOf_nn f
  obtain ⟨v1, v2, rfl, hp, hb⟩ := hf
  have hbd := Hd.mk hb.blocks
  obtain ⟨A1, c1, rfl, -, hl1, -⟩ := hp.sm
  obtain ⟨A2, c2, rfl, -, hl2, hb0⟩ := hb.sm
  have hbl := fun o => (Below.refl w.heap.size w).al (Nat.le_refl _) o
  clear hp hb
  have hR := Hd.mk (placeOf_eq f id)
  have hcd : countOf f = countIn f.params.length f.blocks := rfl
  generalize hq : isIdB (countOf f) id = q at *
  generalize placeOf f id = R at *
  generalize f.params.length = n at *
  generalize f.blocks = l at *
  generalize f.ret = r at *
  cases q with
  | false =>
    have hR2 := hR.out
    simp at hR2
    subst hR2
    clear hq hcd
    go_enter Tryz.func184, Tryz.ntmps184
    go_wp2_with (go_at_call 215; refine (hid _ (hbl _)).mono ?_; rintro e w1 ⟨rfl, hb1⟩)
    go_ret2
    exact ⟨rfl, (hbl _).then hb1⟩
  | true =>
    have hid2 : 0 ≤ id ∧ id ≤ countOf f - 1 := by simpa [isIdB, inR] using hq
    obtain ⟨hi0, hi1⟩ := hid2
    have hcd' := Hd.mk hcd
    clear hq hcd
    generalize countOf f = ids at *
    by_cases hlt : id < n
    · have hR2 := hR.out
      simp [hlt] at hR2
      subst hR2
      go_enter Tryz.func184, Tryz.ntmps184
      go_wp2_with fail
      refine (hid _ (hbl _)).mono ?_; rintro e w1 ⟨rfl, hb1⟩
      have k0 := bat hb1 w.heap.size (by simp)
      simp at k0
      go_wp2
      go_ret2
      exact ⟨rfl, (hbl _).then hb1⟩
    · have hR2 := Hd.mk hR.out
      clear hR
      replace hR2 := hR2.out
      simp [hlt] at hR2
      have hR := Hd.mk hR2
      clear hR2
      go_enter Tryz.func184, Tryz.ntmps184
      go_wp2_with fail
      refine (hid _ (hbl _)).mono ?_; rintro e w1 ⟨rfl, hb1⟩
      have k0 := bat hb1 w.heap.size (by simp)
      simp at k0
      have hbw := Hd.mk ((hbl _).then hb1)
      clear hb1 hid
      go_wp2
      go_loopw [6, 24] (fun s6 s24 wr => ∃ k : Nat, k ≤ l.length ∧ s24 = .int .i64 k ∧ s6 = .int .i64 (countIn n (l.take k)) ∧ Hd (Below w.heap.size w wr) ∧ Hd (R = placeIn (l.drop k) k (countIn n (l.take k)) id) ∧ Hd (countIn n (l.take k) ≤ id)) (fun _ s24 _ => l.length - (intOf s24).toNat)
      case atStart => exact ⟨0, Nat.zero_le _, rfl, by simp [countIn], hbw, ⟨by rw [hR.out]; simp [countIn]⟩, ⟨by simp [countIn]; omega⟩⟩
      case round =>
        obtain ⟨k, hk, rfl, rfl, hbr, hR, hle⟩ := hrel
        have hc1 := countIn_bd n l k hbd.out hk
        have hc2 := countIn_le n (l.take k)
        by_cases hlt : k < l.length
        · obtain ⟨b, off, cs, hA, hbl, ⟨v1, v2, rfl, hr, hr2⟩, hat⟩ := hb0.out.in_ hbr.out k hlt
          cases hA
          have g0 := hat 0 _ rfl
          have g1 := hat 1 _ rfl
          have g2 := hat 2 _ rfl
          have g3 := hat 3 _ rfl
          have g4 := hat 4 _ rfl
          have g5 := hat 5 _ rfl
          clear hat
          simp at g0 g1 g2 g3 g4 g5
          obtain ⟨A1, c1, rfl, -, hl3, -⟩ := hr.sm
          obtain ⟨A2, c2, rfl, -, hl4, -⟩ := hr2.sm
          have hsn := Hd.mk (countIn_snoc n l k hlt)
          have hdr := Hd.mk (placeIn_drop l k hlt (countIn n (l.take k)) id)
          have hsz := Hd.mk (show sizeB l[k] = l[k].phis.length + l[k].insts.length from rfl)
          have hle' := hle.out
          generalize countIn n (l.take k) = s at *
          have hb1 := hbr.out.size
          by_cases hin : id < s + (l[k].phis.length + l[k].insts.length)
          · have hR2 := hR.out
            rw [hdr.out, if_pos (by rw [hsz.out]; exact hin)] at hR2
            subst hR2
            go_wp2
            go_ret2
            exact ⟨rfl, hbr.out.al hb1 _⟩
          · go_wp2
            go_roundw
            case rel =>
              refine ⟨k + 1, by omega, by go_num, by rw [hsn.out, hsz.out], ⟨hbr.out.al hb1 _⟩, ⟨?_⟩, ⟨?_⟩⟩
              · rw [hR.out, hdr.out, if_neg (by rw [hsz.out]; exact hin), hsn.out]
              · rw [hsn.out, hsz.out]; omega
            case measure => simp [intOf]; omega
        · exfalso
          have e : k = l.length := by omega
          subst e
          rw [List.take_length] at hle
          have := hle.out
          rw [← hcd'.out] at this
          omega
end Go.Proofs.YtkcgejbnhpccdaaGreat
set_option linter.unusedSimpArgs false
set_option linter.unusedVariables false
namespace Go.Proofs.YtkcgejbnhpccdaaGreat
open Go.RowKit
def RetInst (f : XFunc) (id : Int) (w : World) (e : Ending) (w' : World) : Prop := ∃ cs, e = .returned (.tuple #[.agg cs.toArray, .bool (instAt f id).2]) ∧ KInst lm w' (instAt f id).1 cs ∧ Below w.heap.size w w'
theorem rd_nil {α : Type} (sz : Nat) (K : World → α → List Value → Prop) (w : World) : Rd lm sz K w (.slice none 0 0) [] := ⟨none, 0, rfl, Nat.le_refl _, by simp, fun _ => rfl, fun h => absurd h (by simp)⟩
theorem kinst0 (w : World) : KInst lm w inst0 [.int .i64 0, .int .i64 0, .int .i64 0, .int .i64 0, .int .i64 0, .int .i64 0, .slice none 0 0] := ⟨_, rfl, rd_nil _ _ _⟩
set_option maxHeartbeats 4000000 in
set_option maxRecDepth 100000 in
theorem c_instOf (f : XFunc) (cs : List Value) (id : Int) (w : World) (hf : KFunc lm w f cs) (hc : countOf f ≤ 1099511627776) :
    Calls Tryz.prog 185 #[.agg cs.toArray, .int .i64 id] w (RetInst f id w) := by
  have hpl := fun W hW => c_PlaceOf f cs id W (KM.mv hf hW) hc
  obtain ⟨v1, v2, rfl, hp, hb⟩ := hf
  obtain ⟨A1, c1, rfl, -, hl1, -⟩ := hp.sm
  obtain ⟨A2, c2, rfl, -, hl2, hb0⟩ := hb.sm
  have hbl := fun o o' => ((Below.refl w.heap.size w).al (Nat.le_refl _) o).al (by simp) o'
  clear hp hb
  have hcase : (∃ b at_, placeOf f id = (b, at_) ∧ b < 0 ∧ -9223372036854775807 ≤ b ∧ at_ ≤ 9223372036854775807) ∨ ∃ k, ∃ h : k < f.blocks.length, placeOf f id = ((k : Int), id - countIn f.params.length (f.blocks.take k)) ∧ countIn f.params.length (f.blocks.take k) ≤ id ∧ id < countIn f.params.length (f.blocks.take k) + sizeB f.blocks[k] := by
    rcases placeOf_cases f id with h | h | h
    · exact .inl ⟨_, _, h.1, by omega, by omega, by omega⟩
    · exact .inl ⟨_, _, h.1, by omega, by omega, by omega⟩
    · exact .inr h
  rcases hcase with ⟨b, at_, h, hb1, hb2, hb3⟩ | ⟨k, hk, h1, h2, h3⟩
  · have hI : instAt f id = (inst0, false) := by simp [instAt, h, hb1]
    rw [h] at hpl
    generalize hq : instAt f id = I at *
    unfold RetInst
    rw [hq, hI]
    clear h hq
    go_enter Tryz.func185, Tryz.ntmps185
    go_wp2_with fail
    refine (hpl _ (hbl _ _)).mono ?_; rintro e w1 ⟨rfl, hb1⟩
    have k1 := bat hb1 (w.heap.size + 1) (by simp)
    have f1 := fat hb1 (w.heap.size + 1) (by simp)
    have hz1 := hb1.size
    simp at k1 f1 hz1
    go_wp2
    refine bodyPost_ret (v := .tuple #[.agg #[.int .i64 0, .int .i64 0, .int .i64 0, .int .i64 0, .int .i64 0, .int .i64 0, .slice none 0 0], .bool false]) (by simp [results, Tryz.results185, go_sem, k1]) rfl ⟨_, rfl, kinst0 _, ?_⟩
    repeat (refine Below.setCell ?_ (by simp) _)
    exact (hbl _ _).then hb1
  · rw [h1] at hpl
    obtain ⟨at_, hat_⟩ : ∃ at_, at_ = id - countIn f.params.length (f.blocks.take k) := ⟨_, rfl⟩
    rw [← hat_] at hpl h1
    have ha0 : 0 ≤ at_ := by omega
    have ha1 : at_ < sizeB f.blocks[k] := by omega
    have hgd : f.blocks.getD k block0 = f.blocks[k] := by simp [hk]
    have hI : instAt f id = if at_ < (f.blocks[k].phis.length : Int) then (inst0, false) else (f.blocks[k].insts.getD (at_ - f.blocks[k].phis.length).toNat inst0, true) := by
      simp only [instAt, h1]
      rw [if_neg (by omega), Int.toNat_natCast, hgd]
    have hin := fun W (hW : Below w.heap.size w W) => hb0.out.in0 hW k hk
    have hsz : sizeB f.blocks[k] = f.blocks[k].phis.length + f.blocks[k].insts.length := rfl
    clear h2 h3 hat_ h1 hgd hc
    unfold RetInst
    rw [hI]
    clear hI
    generalize f.blocks[k] = x at *
    generalize f.blocks.length = m at *
    generalize f.params.length = n at *
    rw [hsz] at ha1
    clear hsz
    have hkm : (k : Int) < (m : Int) := by omega
    have hk0 : (0 : Int) ≤ (k : Int) := by omega
    by_cases hph : at_ < (x.phis.length : Int)
    · rw [if_pos hph]
      go_enter Tryz.func185, Tryz.ntmps185
      go_wp2_with fail
      refine (hpl _ (hbl _ _)).mono ?_; rintro e w1 ⟨rfl, hb1⟩
      have k0 := bat hb1 w.heap.size (by simp; omega)
      have k1 := bat hb1 (w.heap.size + 1) (by simp)
      have f1 := fat hb1 (w.heap.size + 1) (by simp)
      have hz1 := hb1.size
      simp at k0 k1 f1 hz1
      obtain ⟨b, off, cs, hA, hbl0, ⟨v1, v2, rfl, hr, hr2⟩, hat⟩ := hin w1 ((hbl _ _).then hb1)
      cases hA
      have g0 := hat 0 _ rfl
      simp at g0
      obtain ⟨A3, c3, rfl, -, hl3, -⟩ := hr.sm
      clear hat
      go_wp2
      refine bodyPost_ret (v := .tuple #[.agg #[.int .i64 0, .int .i64 0, .int .i64 0, .int .i64 0, .int .i64 0, .int .i64 0, .slice none 0 0], .bool false]) (by simp [results, Tryz.results185, go_sem, k1]) rfl ⟨_, rfl, kinst0 _, ?_⟩
      repeat (refine Below.setCell ?_ (by simp) _)
      exact (hbl _ _).then hb1
    · rw [if_neg hph]
      obtain ⟨j, hj⟩ : ∃ j : Nat, at_ = x.phis.length + j := ⟨(at_ - x.phis.length).toNat, by omega⟩
      have hjl : j < x.insts.length := by omega
      rw [show (at_ - x.phis.length).toNat = j by omega, show x.insts.getD j inst0 = x.insts[j] by simp [hjl]]
      subst hj
      go_enter Tryz.func185, Tryz.ntmps185
      go_wp2_with fail
      refine (hpl _ (hbl _ _)).mono ?_; rintro e w1 ⟨rfl, hb1⟩
      have k0 := bat hb1 w.heap.size (by simp; omega)
      have k1 := bat hb1 (w.heap.size + 1) (by simp)
      have f1 := fat hb1 (w.heap.size + 1) (by simp)
      have hz1 := hb1.size
      simp at k0 k1 f1 hz1
      obtain ⟨b, off, cs, hA, hbl0, ⟨v1, v2, rfl, hr, hr2⟩, hat⟩ := hin w1 ((hbl _ _).then hb1)
      cases hA
      have g0 := hat 0 _ rfl
      have g1 := hat 1 _ rfl
      simp at g0 g1
      obtain ⟨A3, c3, rfl, -, hl3, -⟩ := hr.sm
      obtain ⟨A4, c4, rfl, -, hl4, hr20⟩ := hr2.sm
      obtain ⟨b5, off5, cs5, hA5, hbl5, ⟨v5, rfl, hr5⟩, hat5⟩ := hr20.out.in0 ((hbl _ _).then hb1) j hjl
      cases hA5
      obtain ⟨A5, c5, rfl, -, -, hr50⟩ := hr5.sm
      have i0 := hat5 0 _ rfl
      have i1 := hat5 1 _ rfl
      have i2 := hat5 2 _ rfl
      have i3 := hat5 3 _ rfl
      have i4 := hat5 4 _ rfl
      have i5 := hat5 5 _ rfl
      have i6 := hat5 6 _ rfl
      simp at i0 i1 i2 i3 i4 i5 i6
      have hpj : ((x.phis.length : Int) + (j : Int) < (x.phis.length : Int)) = False := eq_false (by omega)
      have hsub : (x.phis.length : Int) + (j : Int) - (x.phis.length : Int) = (j : Int) := by omega
      have hj0 : (j : Int) < (x.insts.length : Int) := by omega
      have hjw : IntKind.i64.wrap (j : Int) = (j : Int) := IntWalk.i64_in _ (by omega)
      clear hat hat5 hr2 hr
      go_wp2
      go_still_tail 17, (by kernel_rfl)
      change wpList _ _ _ _ _ w1.drew
      go_wp2
      refine bodyPost_ret (v := .tuple #[.agg #[.int .i64 x.insts[j].op, .int .i64 x.insts[j].w, .int .i64 x.insts[j].a, .int .i64 x.insts[j].b, .int .i64 x.insts[j].c, .int .i64 x.insts[j].imm, .slice A5 x.insts[j].args.length c5], .bool true]) (by simp [results, Tryz.results185, go_sem, k1]) rfl ⟨_, rfl, ⟨_, rfl, hr50.out.mv ?h1⟩, ?h2⟩
      all_goals
        apply Below.drew
        repeat (refine Below.setCell ?_ (by simp) _)
        exact (hbl _ _).then hb1
end Go.Proofs.YtkcgejbnhpccdaaGreat
set_option linter.unusedSimpArgs false
set_option linter.unusedVariables false
namespace Go.Proofs.YtkcgejbnhpccdaaGreat
open Go.RowKit
set_option maxHeartbeats 400000 in
theorem c_IndexI (v : Value) (xs : List Int) (x : Int) (w : World) (hv : RI lm w v xs) : Calls Tryz.prog 143 #[v, .int .i64 x] w (Ret (.int .i64 (idx (fun y => x == y) xs)) w) := by
  obtain ⟨A, c, rfl, h1, h2, hv0⟩ := hv.sm
  clear hv
  go_enter Tryz.func143, Tryz.ntmps143
  go_wp2
  go_loopw [5, 8] (fun _ s8 wr => ∃ k : Nat, k ≤ xs.length ∧ s8 = .int .i64 k ∧ Hd (Below w.heap.size w wr) ∧ Hd (∀ j (h : j < xs.length), j < k → (x == xs[j]) = false)) (fun _ s8 _ => xs.length - (intOf s8).toNat)
  case atStart => exact ⟨0, Nat.zero_le _, rfl, ⟨Below.refl _ w⟩, ⟨fun j _ h => absurd h (Nat.not_lt_zero _)⟩⟩
  case round =>
    obtain ⟨k, hk, rfl, hb, hn⟩ := hrel
    by_cases hlt : k < xs.length
    · obtain ⟨b, off, cs, hA, hbl, hkk, hat⟩ := hv0.out.in0 hb.out k hlt
      cases hA
      cases hkk
      have g0 := hat 0 _ rfl
      simp at g0
      clear hat
      cases hq : (x == xs[k]) with
      | true =>
        have hq' := Hd.mk hq
        have hq2 : (xs[k] == x) = true := by rw [Bool.beq_comm] at hq; simpa using hq
        go_wp2
        go_ret
        exact ⟨by rw [idx_hit (fun y => x == y) xs k hlt hq'.out hn.out]; rfl, hb.out⟩
      | false =>
        have hq' := Hd.mk hq
        go_wp2
        go_roundw
        case rel =>
          refine ⟨k + 1, by omega, by go_num, hb, ⟨fun j hj hjk => ?_⟩⟩
          by_cases e : j = k
          · subst e; exact hq'.out
          · exact hn.out j hj (by omega)
        case measure => simp [intOf]; omega
    · have e : k = xs.length := by omega
      subst e
      go_wp2
      go_ret
      exact ⟨by rw [idx_miss (fun y => x == y) xs (fun j hj => hn.out j hj hj)]; rfl, hb.out⟩
def hasI (xs : List Int) (x : Int) : Bool := xs.any (fun y => x == y)
theorem c_ContainsI (v : Value) (xs : List Int) (x : Int) (w : World) (hv : RI lm w v xs) : Calls Tryz.prog 187 #[v, .int .i64 x] w (Ret (.bool (hasI xs x)) w) := by
  rw [hasI, ← idx_any]
  have hi := c_IndexI v xs x w hv
  clear hv
  go_enter Tryz.func187, Tryz.ntmps187
  go_wp2_with (go_at_call 143; refine hi.mono ?_; rintro e w' ⟨rfl, hb'⟩)
  go_ret
  exact ⟨rfl, hb'⟩
theorem c_isFunc (f : XFunc) (cs : List Value) (funcs : Int) (w : World) (hf : KFunc lm w f cs) (hf0 : 0 ≤ funcs) (hf1 : funcs ≤ 1048576) :
    Calls Tryz.prog 128 #[.agg cs.toArray, .int .i64 funcs] w (Ret (.bool (funcOk f funcs)) w) := by
  cases h : funcPre f with
  | true => exact c_isFunc_ok f cs funcs w hf h hf0 hf1
  | false => rw [funcOk_pre, h]; exact c_isFunc_pre f cs funcs w hf h
end Go.Proofs.YtkcgejbnhpccdaaGreat
set_option linter.unusedSimpArgs false
set_option linter.unusedVariables false
namespace Go.Proofs.YtkcgejbnhpccdaaGreat
open Go.RowKit
theorem units_snoc (f : XFunc) (k : Nat) : (upTo (k + 1)).filter (isUnit f) = (upTo k).filter (isUnit f) ++ (if isUnit f k then [(k : Int)] else []) := by
  rw [upTo_succ, List.filter_append]
  congr 1
  cases h : isUnit f k <;> simp [h]
theorem upTo_len (n : Nat) : (upTo n).length = n := by simp [upTo]
theorem filt_le {α : Type} (p : α → Bool) (l : List α) : (l.filter p).length ≤ l.length := List.length_filter_le p l
end Go.Proofs.YtkcgejbnhpccdaaGreat
set_option linter.unusedSimpArgs false
set_option linter.unusedVariables false
namespace Go.Proofs.YtkcgejbnhpccdaaGreat
open Go.RowKit
theorem s_l1In (n lo hi : Int) (w : World) : Calls Tryz.prog 47 #[.int .i64 n, .int .i64 lo, .int .i64 hi] w (Same (.bool (inR n lo hi)) w) := by
  unfold inR
  by_cases h : lo ≤ n
  all_goals
    go_enter Tryz.func47, Tryz.ntmps47
    go_wp2
    go_ret
    exact ⟨by first | (simp [h]; done) | (have h' : ¬ lo ≤ n := (by omega); simp [h']), rfl⟩
theorem s_WidthOk (n : Int) (w : World) : Calls Tryz.prog 105 #[.int .i64 n] w (Same (.bool (widthOk n)) w) := by
  go_enter Tryz.func105, Tryz.ntmps105
  go_wp2
  all_goals
    go_ret
    exact ⟨by simp [widthOk, *], rfl⟩
theorem s_l1Top (n : Int) (w : World) (h : widthOk n = true) : Calls Tryz.prog 106 #[.int .i64 n] w (Same (.int .i64 (2 ^ n.toNat)) w) := by
  simp only [widthOk, Bool.or_eq_true, beq_iff_eq] at h
  rcases h with ((rfl | rfl) | rfl) | rfl
  all_goals
    go_enter Tryz.func106, Tryz.ntmps106
    go_wp2
    go_ret
    exact ⟨rfl, rfl⟩
theorem pow_bd (n : Int) (h : widthOk n = true) : (2 : Int) ≤ 2 ^ n.toNat ∧ (2 : Int) ^ n.toNat ≤ 4294967296 := by
  simp only [widthOk, Bool.or_eq_true, beq_iff_eq] at h
  rcases h with ((rfl | rfl) | rfl) | rfl <;> decide
theorem s_l1Value (n v : Int) (w : World) : Calls Tryz.prog 76 #[.int .i64 n, .int .i64 v] w (Same (.bool (isVal n v)) w) := by
  unfold isVal
  cases h : widthOk n with
  | false =>
    have hw := s_WidthOk n
    rw [h] at hw
    clear h
    go_enter Tryz.func76, Tryz.ntmps76
    go_wp2_with (go_at_call 105; refine (hw _).mono ?_; rintro e w' ⟨rfl, rfl⟩)
    go_ret
    exact ⟨by simp, rfl⟩
  | true =>
    have hw := s_WidthOk n
    rw [h] at hw
    have hbd := pow_bd n h
    have ht := fun w => s_l1Top n w h
    clear h
    generalize (2 : Int) ^ n.toNat = t at *
    obtain ⟨hb1, hb2⟩ := hbd
    go_enter Tryz.func76, Tryz.ntmps76
    go_wp2_with (first | (go_at_call 105; refine (hw _).mono ?_; rintro e w' ⟨rfl, rfl⟩) | (go_at_call 106; refine (ht _).mono ?_; rintro e w' ⟨rfl, rfl⟩) | (go_at_call 47; refine (s_l1In _ _ _ _).mono ?_; rintro e w' ⟨rfl, rfl⟩))
    go_ret
    exact ⟨by simp, rfl⟩
set_option maxHeartbeats 400000 in
theorem s_l1Copy (v : Value) (xs : List Int) (w : World) (hv : RI lm w v xs) : Calls Tryz.prog 119 #[v] w (RetI xs w) := by
  obtain ⟨A, c, rfl, h1, h2, hv0⟩ := hv.sm
  clear hv
  go_enter Tryz.func119, Tryz.ntmps119
  go_wp2_with (at_builtin; refine app_I rfl _ _ rfl w.heap.size _ [] xs rfl ?h1 A xs.length c rfl ?h2 (by simp) ?h3 ?h4)
  case h1 => exact own_empty _ _ _ _ _ rfl (Nat.le_refl _)
  case h2 => exact hv0.out.mv ((Below.refl _ _).al (Nat.le_refl _) _)
  case h3 => simp
  case h4 =>
    intro v' w' ho hg
    go_wp2
    go_ret
    refine ⟨_, rfl, ho, ((Below.refl _ w).al (Nat.le_refl _) (.cells #[] 2)).grown hg (by simp) (fun k hk => ?_)⟩
    simp only [Value.ownBlock, Option.some.injEq] at hk; omega
set_option maxHeartbeats 1000000 in
theorem s_l2Operands (i : XInst) (v : Value) (w : World) (hv : RI lm w v i.args) : Calls Tryz.prog 153 #[instV i v] w (RetI (opsOf i) w) := by
  obtain ⟨op, wd, a, b, c, imm, args⟩ := i
  simp only [instV] at hv ⊢
  have hv0 := Hd.mk hv
  have hbl := fun o => (Below.refl w.heap.size w).al (Nat.le_refl _) o
  clear hv
  by_cases h1 : bin op = true
  · have r1 : inR op 1 17 = true := h1
    rw [show opsOf ⟨op, wd, a, b, c, imm, args⟩ = [a, b] by simp [opsOf, h1]]
    clear h1
    go_enter Tryz.func153, Tryz.ntmps153
    go_wp2_with (go_at_call 47; refine (s_l1In _ _ _ _).mono ?_; rintro e w' ⟨rfl, rfl⟩)
    go_ret
    exact retI_made (hbl _) [a, b] 2 _ rfl (by simp) (by omega)
  rw [Bool.not_eq_true] at h1
  have r1 : inR op 1 17 = false := h1
  by_cases h2 : op = 24
  · subst h2
    rw [show opsOf ⟨24, wd, a, b, c, imm, args⟩ = [a, b] by simp [opsOf]]
    go_enter Tryz.func153, Tryz.ntmps153
    go_wp2_with (go_at_call 47; refine (s_l1In _ _ _ _).mono ?_; rintro e w' ⟨rfl, rfl⟩)
    go_ret
    exact retI_made (hbl _) [a, b] 2 _ rfl (by simp) (by omega)
  by_cases h3 : cst op = true
  · have r3 : inR op 18 20 = true := h3
    rw [show opsOf ⟨op, wd, a, b, c, imm, args⟩ = [a] by simp [opsOf, h1, h2, h3]]
    have b2 := beqF h2
    clear h1 h2 h3
    go_enter Tryz.func153, Tryz.ntmps153
    go_wp2_with (go_at_call 47; refine (s_l1In _ _ _ _).mono ?_; rintro e w' ⟨rfl, rfl⟩)
    go_ret
    exact retI_made (hbl _) [a] 1 _ rfl (by simp) (by omega)
  rw [Bool.not_eq_true] at h3
  have r3 : inR op 18 20 = false := h3
  by_cases h4 : op = 23 ∨ op = 25 ∨ op = 27
  · rcases h4 with rfl | rfl | rfl
    all_goals
      rw [show ∀ o, o = 23 ∨ o = 25 ∨ o = 27 → opsOf ⟨o, wd, a, b, c, imm, args⟩ = [a] from fun o ho => by rcases ho with rfl | rfl | rfl <;> simp [opsOf, bin, inR]]
      · clear h1 h2 h3
        go_enter Tryz.func153, Tryz.ntmps153
        go_wp2_with (go_at_call 47; refine (s_l1In _ _ _ _).mono ?_; rintro e w' ⟨rfl, rfl⟩)
        go_ret
        exact retI_made (hbl _) [a] 1 _ rfl (by simp) (by omega)
      · simp
  obtain ⟨h5, h6, h7⟩ : op ≠ 23 ∧ op ≠ 25 ∧ op ≠ 27 := by omega
  clear h4
  have b2 := beqF h2
  have b5 := beqF h5
  have b6 := beqF h6
  have b7 := beqF h7
  by_cases h8 : op = 22
  · subst h8
    rw [show opsOf ⟨22, wd, a, b, c, imm, args⟩ = [a, b, c] by simp [opsOf, bin, cst, inR]]
    clear h1 h2 h3 h5 h6 h7 b2 b5 b6 b7
    go_enter Tryz.func153, Tryz.ntmps153
    go_wp2_with (go_at_call 47; refine (s_l1In _ _ _ _).mono ?_; rintro e w' ⟨rfl, rfl⟩)
    go_ret
    exact retI_made (hbl _) [a, b, c] 3 _ rfl (by simp) (by omega)
  have b8 := beqF h8
  by_cases h9 : op = 26
  · subst h9
    rw [show opsOf ⟨26, wd, a, b, c, imm, args⟩ = args by simp [opsOf, bin, cst, inR]]
    clear h1 h2 h3 h5 h6 h7 b2 b5 b6 b7 b8 h8
    go_enter Tryz.func153, Tryz.ntmps153
    go_wp2_with (first | (go_at_call 47; refine (s_l1In _ _ _ _).mono ?_; rintro e w' ⟨rfl, rfl⟩) | (go_at_call 119; refine (s_l1Copy _ _ _ (hv0.out.mv (hbl _))).mono ?_; rintro e w' hr; obtain ⟨v', rfl, ho, hb'⟩ := hr.later (hbl _)))
    go_ret
    exact ⟨_, rfl, ho, hb'⟩
  · have b9 := beqF h9
    rw [show opsOf ⟨op, wd, a, b, c, imm, args⟩ = [] by simp [opsOf, h1, h2, h3, h5, h6, h7, h8, h9]]
    clear h1 h2 h3 h5 h6 h7 h8 h9
    go_enter Tryz.func153, Tryz.ntmps153
    go_wp2_with (go_at_call 47; refine (s_l1In _ _ _ _).mono ?_; rintro e w' ⟨rfl, rfl⟩)
    go_ret
    exact retI_made (hbl _) [] 0 _ rfl (by simp) (by omega)
end Go.Proofs.YtkcgejbnhpccdaaGreat
set_option linter.unusedSimpArgs false
set_option linter.unusedVariables false
namespace Go.Proofs.YtkcgejbnhpccdaaGreat
open Go.RowKit
/-- What a number is under a width's mask. -/
def mskd (w n : Int) : Int := if widthOk w then n % 2 ^ w.toNat else 0
theorem and_mask (n : Int) (i : Nat) (hi : i ≤ 32) : bits .and .i64 n (2 ^ i - 1) = n % 2 ^ i := by
  have hpos : 0 < 2 ^ i := Nat.two_pow_pos i
  have h32 : 2 ^ i ≤ 2 ^ 32 := Nat.pow_le_pow_right (by decide) hi
  have hc : ((2 : Int) ^ i - 1) = ((2 ^ i - 1 : Nat) : Int) := by rw [Int.natCast_sub hpos]; simp
  have hm : (2 ^ i - 1) % 2 ^ 64 = 2 ^ i - 1 := Nat.mod_eq_of_lt (by omega)
  have h64 : (2 : Nat) ^ i ∣ 2 ^ 64 := Nat.pow_dvd_pow 2 (by omega)
  have hz : (n % 2 ^ 64).toNat % 2 ^ i = (n % 2 ^ i).toNat := by
    have e1 : ((n % 2 ^ 64).toNat : Int) = n % 2 ^ 64 := Int.toNat_of_nonneg (Int.emod_nonneg _ (by decide))
    have hp : (0 : Int) < 2 ^ i := Int.pow_pos (by decide)
    have e2 : ((n % 2 ^ i).toNat : Int) = n % 2 ^ i := Int.toNat_of_nonneg (Int.emod_nonneg _ (by omega))
    have hd : (2 : Int) ^ i ∣ 2 ^ 64 := by
      obtain ⟨c, hc⟩ := h64
      exact ⟨(c : Int), by exact_mod_cast hc⟩
    apply Int.ofNat_inj.1
    rw [Int.natCast_emod, e1, e2]
    rw [show ((2 ^ i : Nat) : Int) = 2 ^ i by simp]
    exact Int.emod_emod_of_dvd n hd
  rw [hc]
  simp only [bits]
  rw [BitVec.ofInt_natCast, BitVec.toNat_and, BitVec.toNat_ofNat]
  change IntKind.i64.wrap (((BitVec.ofInt 64 n).toNat &&& ((2 ^ i - 1) % 2 ^ 64) : Nat) : Int) = _
  rw [hm, Nat.and_two_pow_sub_one_eq_mod, BitVec.toNat_ofInt]
  change IntKind.i64.wrap (((n % 2 ^ 64).toNat % 2 ^ i : Nat) : Int) = _
  rw [hz]
  have hp : (0 : Int) < 2 ^ i := Int.pow_pos (by decide)
  have hn := Int.emod_nonneg n (show (2 : Int) ^ i ≠ 0 by omega)
  have hl := Int.emod_lt_of_pos n hp
  have h32' : (2 : Int) ^ i ≤ 4294967296 := by
    have h9 := Int.ofNat_le.2 h32
    rw [show ((2 ^ i : Nat) : Int) = 2 ^ i by simp] at h9
    exact h9
  rw [Int.toNat_of_nonneg hn]
  exact IntWalk.i64_in _ (by omega)
theorem wd4 {w : Int} (h : widthOk w = true) : w = 1 ∨ w = 8 ∨ w = 16 ∨ w = 32 := by
  simp only [widthOk, Bool.or_eq_true, beq_iff_eq] at h
  rcases h with ((rfl | rfl) | rfl) | rfl <;> simp
theorem c_Masked (w n : Int) (W : World) : Calls Tryz.prog 20 #[.int .i64 w, .int .i64 n] W (Same (.int .i64 (mskd w n)) W) := by
  cases h : widthOk w
  · have hw := c_WidthOk w
    rw [h] at hw
    have hm : mskd w n = 0 := by unfold mskd; rw [h]; rfl
    rw [hm]
    clear h hm
    go_enter Tryz.func20, Tryz.ntmps20
    go_wp2_with fail
    refine (hw _).mono ?_; rintro e w1 ⟨rfl, rfl⟩
    go_wp2
    go_ret
    exact ⟨rfl, rfl⟩
  · have hw := c_WidthOk w
    rw [h] at hw
    have hk := fun W => c_mask w W h
    have hm : mskd w n = n % 2 ^ w.toNat := by unfold mskd; rw [h]; rfl
    rw [hm]
    have h' := Hd.mk h
    clear hm h
    go_enter Tryz.func20, Tryz.ntmps20
    go_wp2_with fail
    refine (hw _).mono ?_; rintro e w1 ⟨rfl, rfl⟩
    go_wp2_with fail
    refine (hk _).mono ?_; rintro e w1 ⟨rfl, rfl⟩
    go_wp2
    go_ret
    refine ⟨?_, rfl⟩
    have hl : w.toNat ≤ 32 := by rcases wd4 h'.out with rfl | rfl | rfl | rfl <;> decide
    rw [← and_mask n w.toNat hl]
    rfl
def b01 (b : Bool) : Int := if b then 1 else 0
theorem c_truth (b : Bool) (W : World) : Calls Tryz.prog 213 #[.bool b] W (Same (.int .i64 (b01 b)) W) := by
  cases b
  all_goals
    go_enter Tryz.func213, Tryz.ntmps213
    go_wp2
    go_ret
    exact ⟨rfl, rfl⟩
theorem s_l1Bit (b : Bool) (W : World) : Calls Tryz.prog 218 #[.bool b] W (Same (.int .i64 (b01 b)) W) := by
  cases b
  all_goals
    go_enter Tryz.func218, Tryz.ntmps218
    go_wp2
    go_ret
    exact ⟨rfl, rfl⟩
/-- A value with its sign. -/
def sgn (w v : Int) : Int := if 2 ^ w.toNat ≤ 2 * v then v - 2 ^ w.toNat else v
theorem c_signOf (w v : Int) (W : World) (h : isVal w v = true) : Calls Tryz.prog 183 #[.int .i64 w, .int .i64 v] W (Same (.int .i64 (sgn w v)) W) := by
  unfold isVal at h
  simp only [Bool.and_eq_true] at h
  obtain ⟨hw, hv⟩ := h
  have hk := fun W => c_mask w W hw
  unfold inR at hv
  simp only [Bool.and_eq_true, decide_eq_true_eq] at hv
  obtain ⟨v1, v2⟩ := hv
  rcases wd4 hw with rfl | rfl | rfl | rfl
  · have v2' : v ≤ 1 := v2
    by_cases hs : 1 ≤ v
    · have hb : bits BinOp.and IntKind.i64 v 1 = 1 := by
        have := and_mask v 1 (by decide)
        simp only [Int.pow_succ, Int.pow_zero] at this
        rw [show (1 : Int) * 2 - 1 = 1 from rfl] at this
        rw [this]; omega
      have ht : (bits BinOp.and IntKind.i64 v 1 == 1) = true := by rw [hb]; rfl
      have hr : sgn 1 v = v - 2 := by unfold sgn; rw [if_pos (by show (2 : Int) ≤ _; omega)]; rfl
      rw [hr]
      clear hr hb v2
      go_enter Tryz.func183, Tryz.ntmps183
      go_wp2_with fail
      refine (hk _).mono ?_; rintro e w1 ⟨rfl, rfl⟩
      go_wp2
      go_ret
      exact ⟨by first | rfl | (congr 2; omega) | (simp; omega), rfl⟩
    · have hb : bits BinOp.and IntKind.i64 v 1 = 0 := by
        have := and_mask v 1 (by decide)
        simp only [Int.pow_succ, Int.pow_zero] at this
        rw [show (1 : Int) * 2 - 1 = 1 from rfl] at this
        rw [this]; omega
      have ht : (bits BinOp.and IntKind.i64 v 1 == 1) = false := by rw [hb]; rfl
      have hr : sgn 1 v = v := by unfold sgn; rw [if_neg (by show ¬ (2 : Int) ≤ _; omega)]
      rw [hr]
      clear hr hb v2
      go_enter Tryz.func183, Tryz.ntmps183
      go_wp2
      go_ret
      exact ⟨rfl, rfl⟩
  · have v2' : v ≤ 255 := v2
    by_cases hs : 128 ≤ v
    · have hb : bits BinOp.and IntKind.i64 (v / 128) 1 = 1 := by
        have := and_mask (v / 128) 1 (by decide)
        simp only [Int.pow_succ, Int.pow_zero] at this
        rw [show (1 : Int) * 2 - 1 = 1 from rfl] at this
        rw [this]; omega
      have ht : (bits BinOp.and IntKind.i64 (v / 128) 1 == 1) = true := by rw [hb]; rfl
      have hr : sgn 8 v = v - 256 := by unfold sgn; rw [if_pos (by show (256 : Int) ≤ _; omega)]; rfl
      rw [hr]
      clear hr hb v2
      go_enter Tryz.func183, Tryz.ntmps183
      go_wp2_with fail
      refine (hk _).mono ?_; rintro e w1 ⟨rfl, rfl⟩
      go_wp2
      go_ret
      exact ⟨by first | rfl | (congr 2; omega) | (simp; omega), rfl⟩
    · have hb : bits BinOp.and IntKind.i64 (v / 128) 1 = 0 := by
        have := and_mask (v / 128) 1 (by decide)
        simp only [Int.pow_succ, Int.pow_zero] at this
        rw [show (1 : Int) * 2 - 1 = 1 from rfl] at this
        rw [this]; omega
      have ht : (bits BinOp.and IntKind.i64 (v / 128) 1 == 1) = false := by rw [hb]; rfl
      have hr : sgn 8 v = v := by unfold sgn; rw [if_neg (by show ¬ (256 : Int) ≤ _; omega)]
      rw [hr]
      clear hr hb v2
      go_enter Tryz.func183, Tryz.ntmps183
      go_wp2
      go_ret
      exact ⟨rfl, rfl⟩
  · have v2' : v ≤ 65535 := v2
    by_cases hs : 32768 ≤ v
    · have hb : bits BinOp.and IntKind.i64 (v / 32768) 1 = 1 := by
        have := and_mask (v / 32768) 1 (by decide)
        simp only [Int.pow_succ, Int.pow_zero] at this
        rw [show (1 : Int) * 2 - 1 = 1 from rfl] at this
        rw [this]; omega
      have ht : (bits BinOp.and IntKind.i64 (v / 32768) 1 == 1) = true := by rw [hb]; rfl
      have hr : sgn 16 v = v - 65536 := by unfold sgn; rw [if_pos (by show (65536 : Int) ≤ _; omega)]; rfl
      rw [hr]
      clear hr hb v2
      go_enter Tryz.func183, Tryz.ntmps183
      go_wp2_with fail
      refine (hk _).mono ?_; rintro e w1 ⟨rfl, rfl⟩
      go_wp2
      go_ret
      exact ⟨by first | rfl | (congr 2; omega) | (simp; omega), rfl⟩
    · have hb : bits BinOp.and IntKind.i64 (v / 32768) 1 = 0 := by
        have := and_mask (v / 32768) 1 (by decide)
        simp only [Int.pow_succ, Int.pow_zero] at this
        rw [show (1 : Int) * 2 - 1 = 1 from rfl] at this
        rw [this]; omega
      have ht : (bits BinOp.and IntKind.i64 (v / 32768) 1 == 1) = false := by rw [hb]; rfl
      have hr : sgn 16 v = v := by unfold sgn; rw [if_neg (by show ¬ (65536 : Int) ≤ _; omega)]
      rw [hr]
      clear hr hb v2
      go_enter Tryz.func183, Tryz.ntmps183
      go_wp2
      go_ret
      exact ⟨rfl, rfl⟩
  · have v2' : v ≤ 4294967295 := v2
    by_cases hs : 2147483648 ≤ v
    · have hb : bits BinOp.and IntKind.i64 (v / 2147483648) 1 = 1 := by
        have := and_mask (v / 2147483648) 1 (by decide)
        simp only [Int.pow_succ, Int.pow_zero] at this
        rw [show (1 : Int) * 2 - 1 = 1 from rfl] at this
        rw [this]; omega
      have ht : (bits BinOp.and IntKind.i64 (v / 2147483648) 1 == 1) = true := by rw [hb]; rfl
      have hr : sgn 32 v = v - 4294967296 := by unfold sgn; rw [if_pos (by show (4294967296 : Int) ≤ _; omega)]; rfl
      rw [hr]
      clear hr hb v2
      go_enter Tryz.func183, Tryz.ntmps183
      go_wp2_with fail
      refine (hk _).mono ?_; rintro e w1 ⟨rfl, rfl⟩
      go_wp2
      go_ret
      exact ⟨by first | rfl | (congr 2; omega) | (simp; omega), rfl⟩
    · have hb : bits BinOp.and IntKind.i64 (v / 2147483648) 1 = 0 := by
        have := and_mask (v / 2147483648) 1 (by decide)
        simp only [Int.pow_succ, Int.pow_zero] at this
        rw [show (1 : Int) * 2 - 1 = 1 from rfl] at this
        rw [this]; omega
      have ht : (bits BinOp.and IntKind.i64 (v / 2147483648) 1 == 1) = false := by rw [hb]; rfl
      have hr : sgn 32 v = v := by unfold sgn; rw [if_neg (by show ¬ (4294967296 : Int) ≤ _; omega)]
      rw [hr]
      clear hr hb v2
      go_enter Tryz.func183, Tryz.ntmps183
      go_wp2
      go_ret
      exact ⟨rfl, rfl⟩
end Go.Proofs.YtkcgejbnhpccdaaGreat
set_option linter.unusedSimpArgs false
set_option linter.unusedVariables false
namespace Go.Proofs.YtkcgejbnhpccdaaGreat
open Go.RowKit
theorem val_rng {w v : Int} (h : isVal w v = true) : 0 ≤ v ∧ v ≤ 4294967295 ∧ widthOk w = true ∧ v < 2 ^ w.toNat := by
  unfold isVal inR at h
  simp only [Bool.and_eq_true, decide_eq_true_eq] at h
  obtain ⟨hw, v1, v2⟩ := h
  refine ⟨v1, ?_, hw, by omega⟩
  rcases wd4 hw with rfl | rfl | rfl | rfl
  · have : v ≤ 1 := v2
    omega
  · have : v ≤ 255 := v2
    omega
  · have : v ≤ 65535 := v2
    omega
  · exact v2
theorem sgn_rng {w v : Int} (h : isVal w v = true) : -4294967295 ≤ sgn w v ∧ sgn w v ≤ 4294967295 := by
  obtain ⟨h1, h2, h3, h4⟩ := val_rng h
  have : (2 : Int) ^ w.toNat ≤ 4294967296 := (pow_bd w h3).2
  unfold sgn; split <;> omega
def shR (op w a b : Int) : Int := if op = 13 then sgn w a / 2 ^ (min b 63).toNat else if w ≤ b then 0 else if op = 11 then wrap64 (a * 2 ^ b.toNat) else a / 2 ^ b.toNat
set_option maxHeartbeats 1000000 in
theorem c_shifted (op w a b : Int) (W : World) (ha : isVal w a = true) (hb : isVal w b = true) : Calls Tryz.prog 214 #[.int .i64 op, .int .i64 w, .int .i64 a, .int .i64 b] W (Same (.int .i64 (shR op w a b)) W) := by
  unfold shR
  obtain ⟨a1, a2, -, -⟩ := val_rng ha
  obtain ⟨b1, b2, hw, -⟩ := val_rng hb
  have hs := fun W => c_signOf w a W ha
  have hsr := sgn_rng ha
  have hw32 : 1 ≤ w ∧ w ≤ 32 := by rcases wd4 hw with rfl | rfl | rfl | rfl <;> decide
  clear ha hb hw
  by_cases h13 : op = 13
  · subst h13
    rw [if_pos rfl]
    generalize sgn w a = x at *
    by_cases hm : b ≤ 63
    · have e : min b 63 = b := Int.min_eq_left hm
      rw [e]
      go_enter Tryz.func214, Tryz.ntmps214
      go_wp2_with fail
      refine (hs _).mono ?_; rintro e w1 ⟨rfl, rfl⟩
      go_wp2
      go_ret
      exact ⟨rfl, rfl⟩
    · have e : min b 63 = 63 := Int.min_eq_right (by omega)
      rw [e]
      go_enter Tryz.func214, Tryz.ntmps214
      go_wp2_with fail
      refine (hs _).mono ?_; rintro e w1 ⟨rfl, rfl⟩
      go_wp2
      go_ret
      exact ⟨rfl, rfl⟩
  · rw [if_neg h13]
    have t13 := beqF h13
    by_cases hlt : w ≤ b
    · rw [if_pos hlt]
      go_enter Tryz.func214, Tryz.ntmps214
      go_wp2
      go_ret
      exact ⟨rfl, rfl⟩
    · rw [if_neg hlt]
      have hb32 : b ≤ 64 := by omega
      by_cases h11 : op = 11
      · subst h11
        rw [if_pos rfl]
        go_enter Tryz.func214, Tryz.ntmps214
        go_wp2
        go_ret
        exact ⟨rfl, rfl⟩
      · rw [if_neg h11]
        have t11 := beqF h11
        go_enter Tryz.func214, Tryz.ntmps214
        go_wp2
        go_ret
        exact ⟨rfl, rfl⟩
theorem c_isDivision (n : Int) (w : World) : Calls Tryz.prog 181 #[.int .i64 n] w (Same (.bool (inR n 4 7)) w) := by
  go_enter Tryz.func181, Tryz.ntmps181
  go_wp2_with (go_at_call 62; refine (c_within _ _ _ _).mono ?_; rintro e w' ⟨rfl, rfl⟩)
  go_ret
  exact ⟨rfl, rfl⟩
def reck (op w a b : Int) : Int :=
  if op = 1 then (a + b) else
  if op = 2 then (a - b) else
  if op = 3 then (wrap64 (a * b)) else
  if op = 4 then (a / b) else
  if op = 5 then (wrap64 ((sgn w a).tdiv (sgn w b))) else
  if op = 6 then (a % b) else
  if op = 7 then ((sgn w a).tmod (sgn w b)) else
  if op = 8 then (bits .and .i64 a b) else
  if op = 9 then (bits .or .i64 a b) else
  if op = 10 then (bits .xor .i64 a b) else
  if op = 14 then (b01 (a == b)) else
  if op = 15 then (b01 (a != b)) else
  if op = 16 then (b01 (decide (a < b))) else
  if op = 17 then (b01 (decide (sgn w a < sgn w b))) else
  shR op w a b
set_option maxHeartbeats 4000000 in
theorem c_reckoned (op w a b : Int) (W : World) (ho : bin op = true) (ha : isVal w a = true) (hb : isVal w b = true) (hd : inR op 4 7 = true → b ≠ 0) : Calls Tryz.prog 182 #[.int .i64 op, .int .i64 w, .int .i64 a, .int .i64 b] W (Same (.int .i64 (reck op w a b)) W) := by
  obtain ⟨a1, a2, -, -⟩ := val_rng ha
  obtain ⟨b1, b2, -, hb4⟩ := val_rng hb
  have hs := fun W => c_signOf w a W ha
  have hs' := fun W => c_signOf w b W hb
  have hr := sgn_rng ha
  have hr' := sgn_rng hb
  have hy0 : b ≠ 0 → sgn w b ≠ 0 := fun h => by unfold sgn; split <;> omega
  have hsh := fun W => c_shifted op w a b W ha hb
  unfold bin inR at ho
  simp only [Bool.and_eq_true, decide_eq_true_eq] at ho
  obtain ⟨o1, o2⟩ := ho
  clear ha hb hb4

  have hop : op = 1 ∨ op = 2 ∨ op = 3 ∨ op = 4 ∨ op = 5 ∨ op = 6 ∨ op = 7 ∨ op = 8 ∨ op = 9 ∨ op = 10 ∨ op = 11 ∨ op = 12 ∨ op = 13 ∨ op = 14 ∨ op = 15 ∨ op = 16 ∨ op = 17 := by omega
  clear o1 o2
  rcases hop with rfl | rfl | rfl | rfl | rfl | rfl | rfl | rfl | rfl | rfl | rfl | rfl | rfl | rfl | rfl | rfl | rfl
  · have hR : reck 1 w a b = a + b := rfl
    rw [hR]
    clear hR
    clear hd hy0
    clear hsh
    generalize sgn w a = x at *
    generalize sgn w b = y at *
    go_enter Tryz.func182, Tryz.ntmps182
    go_wp2_with fail
    refine (hs _).mono ?_; rintro e w1 ⟨rfl, rfl⟩
    go_wp2_with fail
    refine (hs' _).mono ?_; rintro e w1 ⟨rfl, rfl⟩
    go_wp2
    go_ret
    exact ⟨rfl, rfl⟩
  · have hR : reck 2 w a b = a - b := rfl
    rw [hR]
    clear hR
    clear hd hy0
    clear hsh
    generalize sgn w a = x at *
    generalize sgn w b = y at *
    go_enter Tryz.func182, Tryz.ntmps182
    go_wp2_with fail
    refine (hs _).mono ?_; rintro e w1 ⟨rfl, rfl⟩
    go_wp2_with fail
    refine (hs' _).mono ?_; rintro e w1 ⟨rfl, rfl⟩
    go_wp2
    go_ret
    exact ⟨rfl, rfl⟩
  · have hR : reck 3 w a b = wrap64 (a * b) := rfl
    rw [hR]
    clear hR
    clear hd hy0
    clear hsh
    generalize sgn w a = x at *
    generalize sgn w b = y at *
    go_enter Tryz.func182, Tryz.ntmps182
    go_wp2_with fail
    refine (hs _).mono ?_; rintro e w1 ⟨rfl, rfl⟩
    go_wp2_with fail
    refine (hs' _).mono ?_; rintro e w1 ⟨rfl, rfl⟩
    go_wp2
    go_ret
    exact ⟨rfl, rfl⟩
  · have hR : reck 4 w a b = a / b := rfl
    rw [hR]
    clear hR
    have hb0 : b ≠ 0 := hd (by decide)
    have hb1 : 1 ≤ b := by omega
    have hy := hy0 hb0
    clear hd hy0
    clear hsh
    generalize sgn w a = x at *
    generalize sgn w b = y at *
    go_enter Tryz.func182, Tryz.ntmps182
    go_wp2_with fail
    refine (hs _).mono ?_; rintro e w1 ⟨rfl, rfl⟩
    go_wp2_with fail
    refine (hs' _).mono ?_; rintro e w1 ⟨rfl, rfl⟩
    go_wp2
    go_ret
    exact ⟨rfl, rfl⟩
  · have hR : reck 5 w a b = wrap64 ((sgn w a).tdiv (sgn w b)) := rfl
    rw [hR]
    clear hR
    have hb0 : b ≠ 0 := hd (by decide)
    have hb1 : 1 ≤ b := by omega
    have hy := hy0 hb0
    clear hd hy0
    clear hsh
    generalize sgn w a = x at *
    generalize sgn w b = y at *
    go_enter Tryz.func182, Tryz.ntmps182
    go_wp2_with fail
    refine (hs _).mono ?_; rintro e w1 ⟨rfl, rfl⟩
    go_wp2_with fail
    refine (hs' _).mono ?_; rintro e w1 ⟨rfl, rfl⟩
    go_wp2
    go_ret
    exact ⟨rfl, rfl⟩
  · have hR : reck 6 w a b = a % b := rfl
    rw [hR]
    clear hR
    have hb0 : b ≠ 0 := hd (by decide)
    have hb1 : 1 ≤ b := by omega
    have hy := hy0 hb0
    clear hd hy0
    clear hsh
    generalize sgn w a = x at *
    generalize sgn w b = y at *
    go_enter Tryz.func182, Tryz.ntmps182
    go_wp2_with fail
    refine (hs _).mono ?_; rintro e w1 ⟨rfl, rfl⟩
    go_wp2_with fail
    refine (hs' _).mono ?_; rintro e w1 ⟨rfl, rfl⟩
    go_wp2
    go_ret
    exact ⟨rfl, rfl⟩
  · have hR : reck 7 w a b = (sgn w a).tmod (sgn w b) := rfl
    rw [hR]
    clear hR
    have hb0 : b ≠ 0 := hd (by decide)
    have hb1 : 1 ≤ b := by omega
    have hy := hy0 hb0
    clear hd hy0
    clear hsh
    generalize sgn w a = x at *
    generalize sgn w b = y at *
    go_enter Tryz.func182, Tryz.ntmps182
    go_wp2_with fail
    refine (hs _).mono ?_; rintro e w1 ⟨rfl, rfl⟩
    go_wp2_with fail
    refine (hs' _).mono ?_; rintro e w1 ⟨rfl, rfl⟩
    go_wp2
    go_ret
    exact ⟨rfl, rfl⟩
  · have hR : reck 8 w a b = bits .and .i64 a b := rfl
    rw [hR]
    clear hR
    clear hd hy0
    clear hsh
    generalize sgn w a = x at *
    generalize sgn w b = y at *
    go_enter Tryz.func182, Tryz.ntmps182
    go_wp2_with fail
    refine (hs _).mono ?_; rintro e w1 ⟨rfl, rfl⟩
    go_wp2_with fail
    refine (hs' _).mono ?_; rintro e w1 ⟨rfl, rfl⟩
    go_wp2
    go_ret
    exact ⟨rfl, rfl⟩
  · have hR : reck 9 w a b = bits .or .i64 a b := rfl
    rw [hR]
    clear hR
    clear hd hy0
    clear hsh
    generalize sgn w a = x at *
    generalize sgn w b = y at *
    go_enter Tryz.func182, Tryz.ntmps182
    go_wp2_with fail
    refine (hs _).mono ?_; rintro e w1 ⟨rfl, rfl⟩
    go_wp2_with fail
    refine (hs' _).mono ?_; rintro e w1 ⟨rfl, rfl⟩
    go_wp2
    go_ret
    exact ⟨rfl, rfl⟩
  · have hR : reck 10 w a b = bits .xor .i64 a b := rfl
    rw [hR]
    clear hR
    clear hd hy0
    clear hsh
    generalize sgn w a = x at *
    generalize sgn w b = y at *
    go_enter Tryz.func182, Tryz.ntmps182
    go_wp2_with fail
    refine (hs _).mono ?_; rintro e w1 ⟨rfl, rfl⟩
    go_wp2_with fail
    refine (hs' _).mono ?_; rintro e w1 ⟨rfl, rfl⟩
    go_wp2
    go_ret
    exact ⟨rfl, rfl⟩
  · have hR : reck 11 w a b = shR 11 w a b := rfl
    rw [hR]
    clear hR
    clear hd hy0
    generalize shR 11 w a b = z at *
    generalize sgn w a = x at *
    generalize sgn w b = y at *
    go_enter Tryz.func182, Tryz.ntmps182
    go_wp2_with fail
    refine (hs _).mono ?_; rintro e w1 ⟨rfl, rfl⟩
    go_wp2_with fail
    refine (hs' _).mono ?_; rintro e w1 ⟨rfl, rfl⟩
    go_wp2_with (go_at_call 214; refine (hsh _).mono ?_; rintro e w1 ⟨rfl, rfl⟩)
    go_ret
    exact ⟨rfl, rfl⟩
  · have hR : reck 12 w a b = shR 12 w a b := rfl
    rw [hR]
    clear hR
    clear hd hy0
    generalize shR 12 w a b = z at *
    generalize sgn w a = x at *
    generalize sgn w b = y at *
    go_enter Tryz.func182, Tryz.ntmps182
    go_wp2_with fail
    refine (hs _).mono ?_; rintro e w1 ⟨rfl, rfl⟩
    go_wp2_with fail
    refine (hs' _).mono ?_; rintro e w1 ⟨rfl, rfl⟩
    go_wp2_with (go_at_call 214; refine (hsh _).mono ?_; rintro e w1 ⟨rfl, rfl⟩)
    go_ret
    exact ⟨rfl, rfl⟩
  · have hR : reck 13 w a b = shR 13 w a b := rfl
    rw [hR]
    clear hR
    clear hd hy0
    generalize shR 13 w a b = z at *
    generalize sgn w a = x at *
    generalize sgn w b = y at *
    go_enter Tryz.func182, Tryz.ntmps182
    go_wp2_with fail
    refine (hs _).mono ?_; rintro e w1 ⟨rfl, rfl⟩
    go_wp2_with fail
    refine (hs' _).mono ?_; rintro e w1 ⟨rfl, rfl⟩
    go_wp2_with (go_at_call 214; refine (hsh _).mono ?_; rintro e w1 ⟨rfl, rfl⟩)
    go_ret
    exact ⟨rfl, rfl⟩
  · have hR : reck 14 w a b = b01 (a == b) := rfl
    rw [hR]
    clear hR
    clear hd hy0
    clear hsh
    generalize sgn w a = x at *
    generalize sgn w b = y at *
    go_enter Tryz.func182, Tryz.ntmps182
    go_wp2_with fail
    refine (hs _).mono ?_; rintro e w1 ⟨rfl, rfl⟩
    go_wp2_with fail
    refine (hs' _).mono ?_; rintro e w1 ⟨rfl, rfl⟩
    go_wp2_with (go_at_call 213; refine (c_truth _ _).mono ?_; rintro e w1 ⟨rfl, rfl⟩)
    go_ret
    exact ⟨rfl, rfl⟩
  · have hR : reck 15 w a b = b01 (a != b) := rfl
    rw [hR]
    clear hR
    clear hd hy0
    clear hsh
    generalize sgn w a = x at *
    generalize sgn w b = y at *
    go_enter Tryz.func182, Tryz.ntmps182
    go_wp2_with fail
    refine (hs _).mono ?_; rintro e w1 ⟨rfl, rfl⟩
    go_wp2_with fail
    refine (hs' _).mono ?_; rintro e w1 ⟨rfl, rfl⟩
    go_wp2_with (go_at_call 213; refine (c_truth _ _).mono ?_; rintro e w1 ⟨rfl, rfl⟩)
    go_ret
    exact ⟨rfl, rfl⟩
  · have hR : reck 16 w a b = b01 (decide (a < b)) := rfl
    rw [hR]
    clear hR
    clear hd hy0
    clear hsh
    generalize sgn w a = x at *
    generalize sgn w b = y at *
    go_enter Tryz.func182, Tryz.ntmps182
    go_wp2_with fail
    refine (hs _).mono ?_; rintro e w1 ⟨rfl, rfl⟩
    go_wp2_with fail
    refine (hs' _).mono ?_; rintro e w1 ⟨rfl, rfl⟩
    go_wp2_with (go_at_call 213; refine (c_truth _ _).mono ?_; rintro e w1 ⟨rfl, rfl⟩)
    go_ret
    exact ⟨rfl, rfl⟩
  · have hR : reck 17 w a b = b01 (decide (sgn w a < sgn w b)) := rfl
    rw [hR]
    clear hR
    clear hd hy0
    clear hsh
    generalize sgn w a = x at *
    generalize sgn w b = y at *
    go_enter Tryz.func182, Tryz.ntmps182
    go_wp2_with fail
    refine (hs _).mono ?_; rintro e w1 ⟨rfl, rfl⟩
    go_wp2_with fail
    refine (hs' _).mono ?_; rintro e w1 ⟨rfl, rfl⟩
    go_wp2_with (go_at_call 213; refine (c_truth _ _).mono ?_; rintro e w1 ⟨rfl, rfl⟩)
    go_ret
    exact ⟨rfl, rfl⟩
end Go.Proofs.YtkcgejbnhpccdaaGreat
set_option linter.unusedSimpArgs false
set_option linter.unusedVariables false
namespace Go.Proofs.YtkcgejbnhpccdaaGreat
open Go.RowKit
theorem s_Masked (w n : Int) (W : World) : Calls Tryz.prog 193 #[.int .i64 w, .int .i64 n] W (Same (.int .i64 (mskd w n)) W) := by
  cases h : widthOk w
  · have hw := s_WidthOk w
    rw [h] at hw
    have hm : mskd w n = 0 := by unfold mskd; rw [h]; rfl
    rw [hm]
    clear h hm
    go_enter Tryz.func193, Tryz.ntmps193
    go_wp2_with fail
    refine (hw _).mono ?_; rintro e w1 ⟨rfl, rfl⟩
    go_wp2
    go_ret
    exact ⟨rfl, rfl⟩
  · have hw := s_WidthOk w
    rw [h] at hw
    have hk := fun W => s_l1Top w W h
    have hpb := pow_bd w h
    have hm : mskd w n = n % 2 ^ w.toNat := by unfold mskd; rw [h]; rfl
    rw [hm]
    have hl : w.toNat ≤ 32 := by rcases wd4 h with rfl | rfl | rfl | rfl <;> decide
    have ha := Hd.mk (and_mask n w.toNat hl)
    clear hm h hl
    generalize (2 : Int) ^ w.toNat = t at *
    obtain ⟨t1, t2⟩ := hpb
    go_enter Tryz.func193, Tryz.ntmps193
    go_wp2_with fail
    refine (hw _).mono ?_; rintro e w1 ⟨rfl, rfl⟩
    go_wp2_with fail
    refine (hk _).mono ?_; rintro e w1 ⟨rfl, rfl⟩
    go_wp2
    go_ret
    exact ⟨by rw [← ha.out]; rfl, rfl⟩
theorem pow_even {w : Int} (h : widthOk w = true) : ∃ s : Int, (2 : Int) ^ w.toNat = 2 * s := by
  rcases wd4 h with rfl | rfl | rfl | rfl
  · exact ⟨1, rfl⟩
  · exact ⟨128, rfl⟩
  · exact ⟨32768, rfl⟩
  · exact ⟨2147483648, rfl⟩
theorem s_l1Sign (w v : Int) (W : World) (h : isVal w v = true) : Calls Tryz.prog 195 #[.int .i64 w, .int .i64 v] W (Same (.int .i64 (sgn w v)) W) := by
  obtain ⟨v1, v2, hw, v3⟩ := val_rng h
  have hk := fun W => s_l1Top w W hw
  have hpb := pow_bd w hw
  have hev := pow_even hw
  clear h
  unfold sgn
  generalize (2 : Int) ^ w.toNat = t at *
  obtain ⟨t1, t2⟩ := hpb
  by_cases hs : t ≤ 2 * v
  · have ht : t / 2 ≤ v := by omega
    rw [if_pos hs]
    go_enter Tryz.func195, Tryz.ntmps195
    go_wp2_with (go_at_call 106; refine (hk _).mono ?_; rintro e w1 ⟨rfl, rfl⟩)
    go_ret
    exact ⟨rfl, rfl⟩
  · have ht : ¬ t / 2 ≤ v := by obtain ⟨s, hs'⟩ := hev; omega
    rw [if_neg hs]
    go_enter Tryz.func195, Tryz.ntmps195
    go_wp2_with (go_at_call 106; refine (hk _).mono ?_; rintro e w1 ⟨rfl, rfl⟩)
    go_ret
    exact ⟨rfl, rfl⟩
def shT (op w a b : Int) : Int := if op = 13 ∧ w ≤ b then sgn w a / 2 ^ (w.toNat - 1) else if w ≤ b then 0 else if op = 11 then wrap64 (a * 2 ^ b.toNat) else if op = 12 then a / 2 ^ b.toNat else sgn w a / 2 ^ b.toNat
theorem s_l1Shift (op w a b : Int) (W : World) (ha : isVal w a = true) (hb : isVal w b = true) : Calls Tryz.prog 219 #[.int .i64 op, .int .i64 w, .int .i64 a, .int .i64 b] W (Same (.int .i64 (shT op w a b)) W) := by
  unfold shT
  obtain ⟨a1, a2, -, -⟩ := val_rng ha
  obtain ⟨b1, b2, hw, -⟩ := val_rng hb
  have hs := fun W => s_l1Sign w a W ha
  have hsr := sgn_rng ha
  have hw32 : 1 ≤ w ∧ w ≤ 32 := by rcases wd4 hw with rfl | rfl | rfl | rfl <;> decide
  clear ha hb hw
  generalize sgn w a = x at *
  by_cases hlt : w ≤ b
  · by_cases h13 : op = 13
    · subst h13
      rw [if_pos ⟨rfl, hlt⟩]
      have hu : IntKind.u64.wrap (w - 1) = w - 1 := IntWalk.u64_in _ (by omega)
      have hu2 : IntKind.i64.wrap (w - 1) = w - 1 := IntWalk.i64_in _ (by omega)
      go_enter Tryz.func219, Tryz.ntmps219
      go_wp2_with (go_at_call 195; refine (hs _).mono ?_; rintro e w1 ⟨rfl, rfl⟩)
      go_ret
      exact ⟨rfl, rfl⟩
    · rw [if_neg (fun h => h13 h.1), if_pos hlt]
      have t13 := beqF h13
      go_enter Tryz.func219, Tryz.ntmps219
      go_wp2
      go_ret
      exact ⟨rfl, rfl⟩
  · rw [if_neg (fun h => hlt h.2), if_neg hlt]
    have hu : IntKind.u64.wrap b = b := IntWalk.u64_in _ (by omega)
    by_cases h11 : op = 11
    · subst h11
      rw [if_pos rfl]
      go_enter Tryz.func219, Tryz.ntmps219
      go_wp2
      go_ret
      exact ⟨rfl, rfl⟩
    · rw [if_neg h11]
      have t11 := beqF h11
      by_cases h12 : op = 12
      · subst h12
        rw [if_pos rfl]
        go_enter Tryz.func219, Tryz.ntmps219
        go_wp2
        go_ret
        exact ⟨rfl, rfl⟩
      · rw [if_neg h12]
        have t12 := beqF h12
        by_cases h13 : op = 13
        · subst h13
          go_enter Tryz.func219, Tryz.ntmps219
          go_wp2_with (go_at_call 195; refine (hs _).mono ?_; rintro e w1 ⟨rfl, rfl⟩)
          go_ret
          exact ⟨rfl, rfl⟩
        · have t13 := beqF h13
          go_enter Tryz.func219, Tryz.ntmps219
          go_wp2_with (go_at_call 195; refine (hs _).mono ?_; rintro e w1 ⟨rfl, rfl⟩)
          go_ret
          exact ⟨rfl, rfl⟩
theorem s_l1Divides (n : Int) (w : World) : Calls Tryz.prog 192 #[.int .i64 n] w (Same (.bool (inR n 4 7)) w) := by
  go_enter Tryz.func192, Tryz.ntmps192
  go_wp2_with (go_at_call 47; refine (s_l1In _ _ _ _).mono ?_; rintro e w' ⟨rfl, rfl⟩)
  go_ret
  exact ⟨rfl, rfl⟩
def two (op w a b : Int) : Int :=
  if op = 1 then (a + b) else
  if op = 2 then (a - b) else
  if op = 3 then (wrap64 (sgn w a * sgn w b)) else
  if op = 4 then (a / b) else
  if op = 5 then (wrap64 ((sgn w a).tdiv (sgn w b))) else
  if op = 6 then (a % b) else
  if op = 7 then ((sgn w a).tmod (sgn w b)) else
  if op = 8 then (bits .and .i64 a b) else
  if op = 9 then (bits .or .i64 a b) else
  if op = 10 then (bits .xor .i64 a b) else
  if op = 14 then (b01 (a == b)) else
  if op = 15 then (b01 (a != b)) else
  if op = 16 then (b01 (decide (a < b))) else
  if op = 17 then (b01 (decide (sgn w a < sgn w b))) else
  shT op w a b
set_option maxHeartbeats 4000000 in
theorem s_l1Two (op w a b : Int) (W : World) (ho : bin op = true) (ha : isVal w a = true) (hb : isVal w b = true) (hd : inR op 4 7 = true → b ≠ 0) : Calls Tryz.prog 194 #[.int .i64 op, .int .i64 w, .int .i64 a, .int .i64 b] W (Same (.int .i64 (two op w a b)) W) := by
  obtain ⟨a1, a2, -, -⟩ := val_rng ha
  obtain ⟨b1, b2, -, hb4⟩ := val_rng hb
  have hs := fun W => s_l1Sign w a W ha
  have hs' := fun W => s_l1Sign w b W hb
  have hr := sgn_rng ha
  have hr' := sgn_rng hb
  have hy0 : b ≠ 0 → sgn w b ≠ 0 := fun h => by unfold sgn; split <;> omega
  have hsh := fun W => s_l1Shift op w a b W ha hb
  unfold bin inR at ho
  simp only [Bool.and_eq_true, decide_eq_true_eq] at ho
  obtain ⟨o1, o2⟩ := ho
  clear ha hb hb4

  have hop : op = 1 ∨ op = 2 ∨ op = 3 ∨ op = 4 ∨ op = 5 ∨ op = 6 ∨ op = 7 ∨ op = 8 ∨ op = 9 ∨ op = 10 ∨ op = 11 ∨ op = 12 ∨ op = 13 ∨ op = 14 ∨ op = 15 ∨ op = 16 ∨ op = 17 := by omega
  clear o1 o2
  rcases hop with rfl | rfl | rfl | rfl | rfl | rfl | rfl | rfl | rfl | rfl | rfl | rfl | rfl | rfl | rfl | rfl | rfl
  · have hR : two 1 w a b = a + b := rfl
    rw [hR]
    clear hR
    clear hd hy0
    clear hsh
    generalize sgn w a = x at *
    generalize sgn w b = y at *
    go_enter Tryz.func194, Tryz.ntmps194
    go_wp2
    go_ret
    exact ⟨rfl, rfl⟩
  · have hR : two 2 w a b = a - b := rfl
    rw [hR]
    clear hR
    clear hd hy0
    clear hsh
    generalize sgn w a = x at *
    generalize sgn w b = y at *
    go_enter Tryz.func194, Tryz.ntmps194
    go_wp2
    go_ret
    exact ⟨rfl, rfl⟩
  · have hR : two 3 w a b = wrap64 (sgn w a * sgn w b) := rfl
    rw [hR]
    clear hR
    clear hd hy0
    clear hsh
    generalize sgn w a = x at *
    generalize sgn w b = y at *
    go_enter Tryz.func194, Tryz.ntmps194
    go_wp2_with fail
    refine (hs _).mono ?_; rintro e w1 ⟨rfl, rfl⟩
    go_wp2_with fail
    refine (hs' _).mono ?_; rintro e w1 ⟨rfl, rfl⟩
    go_wp2
    go_ret
    exact ⟨rfl, rfl⟩
  · have hR : two 4 w a b = a / b := rfl
    rw [hR]
    clear hR
    have hb0 : b ≠ 0 := hd (by decide)
    have hb1 : 1 ≤ b := by omega
    have hy := hy0 hb0
    clear hd hy0
    clear hsh
    generalize sgn w a = x at *
    generalize sgn w b = y at *
    go_enter Tryz.func194, Tryz.ntmps194
    go_wp2
    go_ret
    exact ⟨rfl, rfl⟩
  · have hR : two 5 w a b = wrap64 ((sgn w a).tdiv (sgn w b)) := rfl
    rw [hR]
    clear hR
    have hb0 : b ≠ 0 := hd (by decide)
    have hb1 : 1 ≤ b := by omega
    have hy := hy0 hb0
    clear hd hy0
    clear hsh
    generalize sgn w a = x at *
    generalize sgn w b = y at *
    go_enter Tryz.func194, Tryz.ntmps194
    go_wp2_with fail
    refine (hs _).mono ?_; rintro e w1 ⟨rfl, rfl⟩
    go_wp2_with fail
    refine (hs' _).mono ?_; rintro e w1 ⟨rfl, rfl⟩
    go_wp2
    go_ret
    exact ⟨rfl, rfl⟩
  · have hR : two 6 w a b = a % b := rfl
    rw [hR]
    clear hR
    have hb0 : b ≠ 0 := hd (by decide)
    have hb1 : 1 ≤ b := by omega
    have hy := hy0 hb0
    clear hd hy0
    clear hsh
    generalize sgn w a = x at *
    generalize sgn w b = y at *
    go_enter Tryz.func194, Tryz.ntmps194
    go_wp2
    go_ret
    exact ⟨rfl, rfl⟩
  · have hR : two 7 w a b = (sgn w a).tmod (sgn w b) := rfl
    rw [hR]
    clear hR
    have hb0 : b ≠ 0 := hd (by decide)
    have hb1 : 1 ≤ b := by omega
    have hy := hy0 hb0
    clear hd hy0
    clear hsh
    generalize sgn w a = x at *
    generalize sgn w b = y at *
    go_enter Tryz.func194, Tryz.ntmps194
    go_wp2_with fail
    refine (hs _).mono ?_; rintro e w1 ⟨rfl, rfl⟩
    go_wp2_with fail
    refine (hs' _).mono ?_; rintro e w1 ⟨rfl, rfl⟩
    go_wp2
    go_ret
    exact ⟨rfl, rfl⟩
  · have hR : two 8 w a b = bits .and .i64 a b := rfl
    rw [hR]
    clear hR
    clear hd hy0
    clear hsh
    generalize sgn w a = x at *
    generalize sgn w b = y at *
    go_enter Tryz.func194, Tryz.ntmps194
    go_wp2
    go_ret
    exact ⟨rfl, rfl⟩
  · have hR : two 9 w a b = bits .or .i64 a b := rfl
    rw [hR]
    clear hR
    clear hd hy0
    clear hsh
    generalize sgn w a = x at *
    generalize sgn w b = y at *
    go_enter Tryz.func194, Tryz.ntmps194
    go_wp2
    go_ret
    exact ⟨rfl, rfl⟩
  · have hR : two 10 w a b = bits .xor .i64 a b := rfl
    rw [hR]
    clear hR
    clear hd hy0
    clear hsh
    generalize sgn w a = x at *
    generalize sgn w b = y at *
    go_enter Tryz.func194, Tryz.ntmps194
    go_wp2
    go_ret
    exact ⟨rfl, rfl⟩
  · have hR : two 11 w a b = shT 11 w a b := rfl
    rw [hR]
    clear hR
    clear hd hy0
    generalize shT 11 w a b = z at *
    generalize sgn w a = x at *
    generalize sgn w b = y at *
    go_enter Tryz.func194, Tryz.ntmps194
    go_wp2_with (go_at_call 219; refine (hsh _).mono ?_; rintro e w1 ⟨rfl, rfl⟩)
    go_ret
    exact ⟨rfl, rfl⟩
  · have hR : two 12 w a b = shT 12 w a b := rfl
    rw [hR]
    clear hR
    clear hd hy0
    generalize shT 12 w a b = z at *
    generalize sgn w a = x at *
    generalize sgn w b = y at *
    go_enter Tryz.func194, Tryz.ntmps194
    go_wp2_with (go_at_call 219; refine (hsh _).mono ?_; rintro e w1 ⟨rfl, rfl⟩)
    go_ret
    exact ⟨rfl, rfl⟩
  · have hR : two 13 w a b = shT 13 w a b := rfl
    rw [hR]
    clear hR
    clear hd hy0
    generalize shT 13 w a b = z at *
    generalize sgn w a = x at *
    generalize sgn w b = y at *
    go_enter Tryz.func194, Tryz.ntmps194
    go_wp2_with (go_at_call 219; refine (hsh _).mono ?_; rintro e w1 ⟨rfl, rfl⟩)
    go_ret
    exact ⟨rfl, rfl⟩
  · have hR : two 14 w a b = b01 (a == b) := rfl
    rw [hR]
    clear hR
    clear hd hy0
    clear hsh
    generalize sgn w a = x at *
    generalize sgn w b = y at *
    go_enter Tryz.func194, Tryz.ntmps194
    go_wp2_with (go_at_call 218; refine (s_l1Bit _ _).mono ?_; rintro e w1 ⟨rfl, rfl⟩)
    go_ret
    exact ⟨rfl, rfl⟩
  · have hR : two 15 w a b = b01 (a != b) := rfl
    rw [hR]
    clear hR
    clear hd hy0
    clear hsh
    generalize sgn w a = x at *
    generalize sgn w b = y at *
    go_enter Tryz.func194, Tryz.ntmps194
    go_wp2_with (go_at_call 218; refine (s_l1Bit _ _).mono ?_; rintro e w1 ⟨rfl, rfl⟩)
    go_ret
    exact ⟨rfl, rfl⟩
  · have hR : two 16 w a b = b01 (decide (a < b)) := rfl
    rw [hR]
    clear hR
    clear hd hy0
    clear hsh
    generalize sgn w a = x at *
    generalize sgn w b = y at *
    go_enter Tryz.func194, Tryz.ntmps194
    go_wp2_with (go_at_call 218; refine (s_l1Bit _ _).mono ?_; rintro e w1 ⟨rfl, rfl⟩)
    go_ret
    exact ⟨rfl, rfl⟩
  · have hR : two 17 w a b = b01 (decide (sgn w a < sgn w b)) := rfl
    rw [hR]
    clear hR
    clear hd hy0
    clear hsh
    generalize sgn w a = x at *
    generalize sgn w b = y at *
    go_enter Tryz.func194, Tryz.ntmps194
    go_wp2_with fail
    refine (hs _).mono ?_; rintro e w1 ⟨rfl, rfl⟩
    go_wp2_with fail
    refine (hs' _).mono ?_; rintro e w1 ⟨rfl, rfl⟩
    go_wp2_with (go_at_call 218; refine (s_l1Bit _ _).mono ?_; rintro e w1 ⟨rfl, rfl⟩)
    go_ret
    exact ⟨rfl, rfl⟩
end Go.Proofs.YtkcgejbnhpccdaaGreat
set_option linter.unusedSimpArgs false
set_option linter.unusedVariables false
namespace Go.Proofs.YtkcgejbnhpccdaaGreat
open Go.RowKit
theorem mskd_wrap (w n : Int) : mskd w (wrap64 n) = mskd w n := by
  unfold mskd
  cases h : widthOk w
  · rfl
  · rw [if_pos rfl, if_pos rfl]
    unfold wrap64
    rcases wd4 h with rfl | rfl | rfl | rfl
    · show _ % (2 : Int) = _ % (2 : Int); omega
    · show _ % (256 : Int) = _ % (256 : Int); omega
    · show _ % (65536 : Int) = _ % (65536 : Int); omega
    · show _ % (4294967296 : Int) = _ % (4294967296 : Int); omega
theorem sgn_mod (w v : Int) : sgn w v % 2 ^ w.toNat = v % 2 ^ w.toNat := by
  unfold sgn
  split
  · rw [Int.sub_emod_right]
  · rfl
theorem mskd_mul (w a b : Int) : mskd w (a * b) = mskd w (sgn w a * sgn w b) := by
  unfold mskd
  split
  · rw [Int.mul_emod, Int.mul_emod (sgn w a), sgn_mod, sgn_mod]
  · rfl
theorem div_small (x c d : Int) (h1 : -c ≤ x) (h2 : x < c) (h3 : c ≤ d) : x / d = if x < 0 then -1 else 0 := by
  split
  · have hd : 0 < d := by omega
    exact (((Int.ediv_emod_unique hd).2 ⟨(by omega : (x + d) + d * (-1) = x), by omega, by omega⟩).1)
  · exact Int.ediv_eq_zero_of_lt (by omega) (by omega)
theorem sh_same (op w a b : Int) (ho : 11 ≤ op ∧ op ≤ 13) (ha : isVal w a = true) (hb : isVal w b = true) : shR op w a b = shT op w a b := by
  obtain ⟨a1, a2, hw, a4⟩ := val_rng ha
  obtain ⟨b1, b2, -, b4⟩ := val_rng hb
  have hw32 : 1 ≤ w ∧ w ≤ 32 := by rcases wd4 hw with rfl | rfl | rfl | rfl <;> decide
  unfold shR shT
  by_cases h13 : op = 13
  · subst h13
    by_cases hlt : w ≤ b
    · rw [if_pos rfl, if_pos ⟨rfl, hlt⟩]
      have hp : (2 : Int) ^ w.toNat = 2 * 2 ^ (w.toNat - 1) := by
        obtain ⟨k, hk⟩ : ∃ k, w.toNat = k + 1 := ⟨w.toNat - 1, by omega⟩
        rw [hk, Int.pow_succ, Nat.add_sub_cancel, Int.mul_comm]
      have hq : (2 : Int) ^ (w.toNat - 1) ≤ 2 ^ (min b 63).toNat := by
        have h := Nat.pow_le_pow_right (show 0 < 2 by decide) (show w.toNat - 1 ≤ (min b 63).toNat by omega)
        have h' := Int.ofNat_le.2 h
        simpa using h'
      have h0 : (0 : Int) < 2 ^ (w.toNat - 1) := Int.pow_pos (by decide)
      have hs : -(2 ^ (w.toNat - 1)) ≤ sgn w a ∧ sgn w a < 2 ^ (w.toNat - 1) := by
        unfold sgn
        rw [hp] at a4 ⊢
        split <;> omega
      rw [div_small _ _ _ hs.1 hs.2 hq, div_small _ _ _ hs.1 hs.2 (Int.le_refl _)]
    · rw [if_pos rfl, if_neg (fun h => hlt h.2), if_neg hlt, if_neg (by decide), if_neg (by decide), Int.min_eq_left (by omega)]
  · have hn : ¬ (op = 13 ∧ w ≤ b) := fun h => h13 h.1
    rw [if_neg h13, if_neg hn]
    by_cases hlt : w ≤ b
    · rw [if_pos hlt, if_pos hlt]
    · rw [if_neg hlt, if_neg hlt]
      by_cases h11 : op = 11
      · rw [if_pos h11, if_pos h11]
      · rw [if_neg h11, if_neg h11, if_pos (by omega)]
theorem two_same (op w a b : Int) (ho : bin op = true) (ha : isVal w a = true) (hb : isVal w b = true) : mskd w (reck op w a b) = mskd w (two op w a b) := by
  unfold bin inR at ho
  simp only [Bool.and_eq_true, decide_eq_true_eq] at ho
  by_cases h3 : op = 3
  · subst h3
    show mskd w (wrap64 (a * b)) = mskd w (wrap64 (sgn w a * sgn w b))
    rw [mskd_wrap, mskd_wrap, mskd_mul]
  · congr 1
    unfold reck two
    rw [if_neg h3, if_neg h3]
    by_cases hs : 11 ≤ op ∧ op ≤ 13
    · rw [sh_same op w a b hs ha hb]
    · have : op = 1 ∨ op = 2 ∨ op = 4 ∨ op = 5 ∨ op = 6 ∨ op = 7 ∨ op = 8 ∨ op = 9 ∨ op = 10 ∨ op = 14 ∨ op = 15 ∨ op = 16 ∨ op = 17 := by omega
      rcases this with rfl | rfl | rfl | rfl | rfl | rfl | rfl | rfl | rfl | rfl | rfl | rfl | rfl <;> rfl
/-- What a binary operation gives, and the code. -/
def binV (op w a b : Int) : Int × Int :=
  if !(bin op && isVal w a && isVal w b) then (0, 2)
  else if inR op 4 7 && b == 0 then (0, 1)
  else (mskd w (two op w a b), 0)
def castV (op f t v : Int) : Int × Bool :=
  if !(isVal f v && widthOk t) then (0, false)
  else if op == 18 && decide (f < t) then (v, true)
  else if op == 19 && decide (f < t) then (mskd t (sgn f v), true)
  else if op == 20 && decide (t < f) then (mskd t v, true)
  else (0, false)
set_option maxHeartbeats 1000000 in
theorem c_Binary (op w a b : Int) (W : World) : Calls Tryz.prog 139 #[.int .i64 op, .int .i64 w, .int .i64 a, .int .i64 b] W (Same (.tuple #[.int .i64 (binV op w a b).1, .int .i64 (binV op w a b).2]) W) := by
  have h1 := fun W => c_isBinary op W
  have h2 := fun W => c_isValue w a W
  have h3 := fun W => c_isValue w b W
  have h4 := fun W => c_isDivision op W
  have h5 := fun ho ha hb hd W => c_reckoned op w a b W ho ha hb hd
  have h6 := fun W => c_Masked w (reck op w a b) W
  have hsame := fun ho ha hb => two_same op w a b ho ha hb
  cases ho : bin op
  · have hR : binV op w a b = (0, 2) := by unfold binV; rw [ho]; rfl
    rw [ho] at h1; rw [hR]
    clear h2 h3 h4 h5 h6 ho hR hsame
    go_enter Tryz.func139, Tryz.ntmps139
    go_wp2_with fail
    refine (h1 _).mono ?_; rintro e w1 ⟨rfl, rfl⟩
    go_wp2
    go_ret2
    exact ⟨rfl, rfl⟩
  cases ha : isVal w a
  · have hR : binV op w a b = (0, 2) := by unfold binV; rw [ho, ha]; rfl
    rw [ho] at h1; rw [ha] at h2; rw [hR]
    clear h3 h4 h5 h6 ho ha hR hsame
    go_enter Tryz.func139, Tryz.ntmps139
    go_wp2_with fail
    refine (h1 _).mono ?_; rintro e w1 ⟨rfl, rfl⟩
    go_wp2_with fail
    refine (h2 _).mono ?_; rintro e w1 ⟨rfl, rfl⟩
    go_wp2
    go_ret2
    exact ⟨rfl, rfl⟩
  cases hb : isVal w b
  · have hR : binV op w a b = (0, 2) := by unfold binV; rw [ho, ha, hb]; rfl
    rw [ho] at h1; rw [ha] at h2; rw [hb] at h3; rw [hR]
    clear h4 h5 h6 ho ha hb hR hsame
    go_enter Tryz.func139, Tryz.ntmps139
    go_wp2_with fail
    refine (h1 _).mono ?_; rintro e w1 ⟨rfl, rfl⟩
    go_wp2_with fail
    refine (h2 _).mono ?_; rintro e w1 ⟨rfl, rfl⟩
    go_wp2_with fail
    refine (h3 _).mono ?_; rintro e w1 ⟨rfl, rfl⟩
    go_wp2
    go_ret2
    exact ⟨rfl, rfl⟩
  rw [ho] at h1; rw [ha] at h2; rw [hb] at h3
  obtain ⟨-, b2, -, -⟩ := val_rng hb
  cases hd : inR op 4 7
  · have hR : binV op w a b = (mskd w (two op w a b), 0) := by unfold binV; rw [ho, ha, hb, hd]; rfl
    have h5' := fun W => h5 ho ha hb (fun h => by rw [hd] at h; cases h) W
    rw [hd] at h4; rw [hR]
    rw [← hsame ho ha hb]
    clear h5 ho ha hb hd hR hsame
    generalize reck op w a b = r at *
    go_enter Tryz.func139, Tryz.ntmps139
    go_wp2_with fail
    refine (h1 _).mono ?_; rintro e w1 ⟨rfl, rfl⟩
    go_wp2_with fail
    refine (h2 _).mono ?_; rintro e w1 ⟨rfl, rfl⟩
    go_wp2_with fail
    refine (h3 _).mono ?_; rintro e w1 ⟨rfl, rfl⟩
    go_wp2_with fail
    refine (h4 _).mono ?_; rintro e w1 ⟨rfl, rfl⟩
    go_wp2_with fail
    refine (h5' _).mono ?_; rintro e w1 ⟨rfl, rfl⟩
    go_wp2_with fail
    refine (h6 _).mono ?_; rintro e w1 ⟨rfl, rfl⟩
    go_wp2
    go_ret2
    exact ⟨rfl, rfl⟩
  · by_cases h0 : b = 0
    · subst h0
      have hR : binV op w a 0 = (0, 1) := by unfold binV; rw [ho, ha, hb, hd]; rfl
      rw [hd] at h4; rw [hR]
      clear h5 h6 ho ha hb hd hR hsame
      go_enter Tryz.func139, Tryz.ntmps139
      go_wp2_with fail
      refine (h1 _).mono ?_; rintro e w1 ⟨rfl, rfl⟩
      go_wp2_with fail
      refine (h2 _).mono ?_; rintro e w1 ⟨rfl, rfl⟩
      go_wp2_with fail
      refine (h3 _).mono ?_; rintro e w1 ⟨rfl, rfl⟩
      go_wp2_with fail
      refine (h4 _).mono ?_; rintro e w1 ⟨rfl, rfl⟩
      go_wp2
      go_ret2
      exact ⟨rfl, rfl⟩
    · have hR : binV op w a b = (mskd w (two op w a b), 0) := by unfold binV; rw [ho, ha, hb, hd, beqF h0]; rfl
      have h5' := fun W => h5 ho ha hb (fun _ => h0) W
      have t0 := beqF h0
      rw [hd] at h4; rw [hR]
      rw [← hsame ho ha hb]
      clear h5 ho ha hb hd hR h0 hsame
      generalize reck op w a b = r at *
      go_enter Tryz.func139, Tryz.ntmps139
      go_wp2_with fail
      refine (h1 _).mono ?_; rintro e w1 ⟨rfl, rfl⟩
      go_wp2_with fail
      refine (h2 _).mono ?_; rintro e w1 ⟨rfl, rfl⟩
      go_wp2_with fail
      refine (h3 _).mono ?_; rintro e w1 ⟨rfl, rfl⟩
      go_wp2_with fail
      refine (h4 _).mono ?_; rintro e w1 ⟨rfl, rfl⟩
      go_wp2_with fail
      refine (h5' _).mono ?_; rintro e w1 ⟨rfl, rfl⟩
      go_wp2_with fail
      refine (h6 _).mono ?_; rintro e w1 ⟨rfl, rfl⟩
      go_wp2
      go_ret2
      exact ⟨rfl, rfl⟩
set_option maxHeartbeats 1000000 in
theorem s_Binary (op w a b : Int) (W : World) : Calls Tryz.prog 154 #[.int .i64 op, .int .i64 w, .int .i64 a, .int .i64 b] W (Same (.tuple #[.int .i64 (binV op w a b).1, .int .i64 (binV op w a b).2]) W) := by
  have h1 := fun W => s_l1In op 1 17 W
  change ∀ W, Calls Tryz.prog 47 #[.int .i64 op, .int .i64 1, .int .i64 17] W (Same (.bool (bin op)) W) at h1
  have h2 := fun W => s_l1Value w a W
  have h3 := fun W => s_l1Value w b W
  have h4 := fun W => s_l1Divides op W
  have h5 := fun ho ha hb hd W => s_l1Two op w a b W ho ha hb hd
  have h6 := fun W => s_Masked w (two op w a b) W
  cases ho : bin op
  · have hR : binV op w a b = (0, 2) := by unfold binV; rw [ho]; rfl
    rw [ho] at h1; rw [hR]
    clear h2 h3 h4 h5 h6 ho hR 
    go_enter Tryz.func154, Tryz.ntmps154
    go_wp2_with fail
    refine (h1 _).mono ?_; rintro e w1 ⟨rfl, rfl⟩
    go_wp2
    go_ret2
    exact ⟨rfl, rfl⟩
  cases ha : isVal w a
  · have hR : binV op w a b = (0, 2) := by unfold binV; rw [ho, ha]; rfl
    rw [ho] at h1; rw [ha] at h2; rw [hR]
    clear h3 h4 h5 h6 ho ha hR 
    go_enter Tryz.func154, Tryz.ntmps154
    go_wp2_with fail
    refine (h1 _).mono ?_; rintro e w1 ⟨rfl, rfl⟩
    go_wp2_with fail
    refine (h2 _).mono ?_; rintro e w1 ⟨rfl, rfl⟩
    go_wp2
    go_ret2
    exact ⟨rfl, rfl⟩
  cases hb : isVal w b
  · have hR : binV op w a b = (0, 2) := by unfold binV; rw [ho, ha, hb]; rfl
    rw [ho] at h1; rw [ha] at h2; rw [hb] at h3; rw [hR]
    clear h4 h5 h6 ho ha hb hR 
    go_enter Tryz.func154, Tryz.ntmps154
    go_wp2_with fail
    refine (h1 _).mono ?_; rintro e w1 ⟨rfl, rfl⟩
    go_wp2_with fail
    refine (h2 _).mono ?_; rintro e w1 ⟨rfl, rfl⟩
    go_wp2_with fail
    refine (h3 _).mono ?_; rintro e w1 ⟨rfl, rfl⟩
    go_wp2
    go_ret2
    exact ⟨rfl, rfl⟩
  rw [ho] at h1; rw [ha] at h2; rw [hb] at h3
  obtain ⟨-, b2, -, -⟩ := val_rng hb
  cases hd : inR op 4 7
  · have hR : binV op w a b = (mskd w (two op w a b), 0) := by unfold binV; rw [ho, ha, hb, hd]; rfl
    have h5' := fun W => h5 ho ha hb (fun h => by rw [hd] at h; cases h) W
    rw [hd] at h4; rw [hR]
    skip
    clear h5 ho ha hb hd hR 
    generalize two op w a b = r at *
    go_enter Tryz.func154, Tryz.ntmps154
    go_wp2_with fail
    refine (h1 _).mono ?_; rintro e w1 ⟨rfl, rfl⟩
    go_wp2_with fail
    refine (h2 _).mono ?_; rintro e w1 ⟨rfl, rfl⟩
    go_wp2_with fail
    refine (h3 _).mono ?_; rintro e w1 ⟨rfl, rfl⟩
    go_wp2_with fail
    refine (h4 _).mono ?_; rintro e w1 ⟨rfl, rfl⟩
    go_wp2_with fail
    refine (h5' _).mono ?_; rintro e w1 ⟨rfl, rfl⟩
    go_wp2_with fail
    refine (h6 _).mono ?_; rintro e w1 ⟨rfl, rfl⟩
    go_wp2
    go_ret2
    exact ⟨rfl, rfl⟩
  · by_cases h0 : b = 0
    · subst h0
      have hR : binV op w a 0 = (0, 1) := by unfold binV; rw [ho, ha, hb, hd]; rfl
      rw [hd] at h4; rw [hR]
      clear h5 h6 ho ha hb hd hR 
      go_enter Tryz.func154, Tryz.ntmps154
      go_wp2_with fail
      refine (h1 _).mono ?_; rintro e w1 ⟨rfl, rfl⟩
      go_wp2_with fail
      refine (h2 _).mono ?_; rintro e w1 ⟨rfl, rfl⟩
      go_wp2_with fail
      refine (h3 _).mono ?_; rintro e w1 ⟨rfl, rfl⟩
      go_wp2_with fail
      refine (h4 _).mono ?_; rintro e w1 ⟨rfl, rfl⟩
      go_wp2
      go_ret2
      exact ⟨rfl, rfl⟩
    · have hR : binV op w a b = (mskd w (two op w a b), 0) := by unfold binV; rw [ho, ha, hb, hd, beqF h0]; rfl
      have h5' := fun W => h5 ho ha hb (fun _ => h0) W
      have t0 := beqF h0
      rw [hd] at h4; rw [hR]
      skip
      clear h5 ho ha hb hd hR h0 
      generalize two op w a b = r at *
      go_enter Tryz.func154, Tryz.ntmps154
      go_wp2_with fail
      refine (h1 _).mono ?_; rintro e w1 ⟨rfl, rfl⟩
      go_wp2_with fail
      refine (h2 _).mono ?_; rintro e w1 ⟨rfl, rfl⟩
      go_wp2_with fail
      refine (h3 _).mono ?_; rintro e w1 ⟨rfl, rfl⟩
      go_wp2_with fail
      refine (h4 _).mono ?_; rintro e w1 ⟨rfl, rfl⟩
      go_wp2_with fail
      refine (h5' _).mono ?_; rintro e w1 ⟨rfl, rfl⟩
      go_wp2_with fail
      refine (h6 _).mono ?_; rintro e w1 ⟨rfl, rfl⟩
      go_wp2
      go_ret2
      exact ⟨rfl, rfl⟩
set_option maxHeartbeats 1000000 in
theorem c_Casted (op f t v : Int) (W : World) : Calls Tryz.prog 141 #[.int .i64 op, .int .i64 f, .int .i64 t, .int .i64 v] W (Same (.tuple #[.int .i64 (castV op f t v).1, .bool (castV op f t v).2]) W) := by
  have h1 := fun W => c_isValue f v W
  have h2 := fun W => c_WidthOk t W
  have h3 := fun h W => c_signOf f v W h
  have h4 := fun W => c_Masked t (sgn f v) W
  have h5 := fun W => c_Masked t v W
  cases ha : isVal f v
  · have hR : castV op f t v = (0, false) := by unfold castV; rw [ha]; rfl
    rw [ha] at h1; rw [hR]
    clear h2 h3 h4 h5 ha hR
    go_enter Tryz.func141, Tryz.ntmps141
    go_wp2_with fail
    refine (h1 _).mono ?_; rintro e w1 ⟨rfl, rfl⟩
    go_wp2
    go_ret2
    exact ⟨rfl, rfl⟩
  cases hw : widthOk t
  · have hR : castV op f t v = (0, false) := by unfold castV; rw [ha, hw]; rfl
    rw [ha] at h1; rw [hw] at h2; rw [hR]
    clear h3 h4 h5 ha hw hR
    go_enter Tryz.func141, Tryz.ntmps141
    go_wp2_with fail
    refine (h1 _).mono ?_; rintro e w1 ⟨rfl, rfl⟩
    go_wp2_with fail
    refine (h2 _).mono ?_; rintro e w1 ⟨rfl, rfl⟩
    go_wp2
    go_ret2
    exact ⟨rfl, rfl⟩
  have hR : castV op f t v = (if op == 18 && decide (f < t) then (v, true) else if op == 19 && decide (f < t) then (mskd t (sgn f v), true) else if op == 20 && decide (t < f) then (mskd t v, true) else (0, false)) := by unfold castV; rw [ha, hw]; rfl
  have h3' := fun W => h3 ha W
  rw [ha] at h1; rw [hw] at h2; rw [hR]
  clear h3 ha hw hR
  generalize mskd t (sgn f v) = x at *
  generalize mskd t v = y at *
  generalize sgn f v = z at *
  by_cases l1 : f < t
  · have d1 : decide (f < t) = true := by simpa using l1
    have d2 : decide (t < f) = false := by simp; omega
    rw [d1, d2]
    by_cases o1 : op = 18
    · subst o1
      go_enter Tryz.func141, Tryz.ntmps141
      go_wp2_with fail
      refine (h1 _).mono ?_; rintro e w1 ⟨rfl, rfl⟩
      go_wp2_with fail
      refine (h2 _).mono ?_; rintro e w1 ⟨rfl, rfl⟩
      go_wp2
      go_ret2
      exact ⟨rfl, rfl⟩
    · have t1 := beqF o1
      by_cases o2 : op = 19
      · subst o2
        go_enter Tryz.func141, Tryz.ntmps141
        go_wp2_with fail
        refine (h1 _).mono ?_; rintro e w1 ⟨rfl, rfl⟩
        go_wp2_with fail
        refine (h2 _).mono ?_; rintro e w1 ⟨rfl, rfl⟩
        go_wp2_with fail
        refine (h3' _).mono ?_; rintro e w1 ⟨rfl, rfl⟩
        go_wp2_with fail
        refine (h4 _).mono ?_; rintro e w1 ⟨rfl, rfl⟩
        go_wp2
        go_ret2
        exact ⟨rfl, rfl⟩
      · have t2 := beqF o2
        rw [t1, t2, Bool.and_false]
        by_cases o3 : op = 20
        · subst o3
          go_enter Tryz.func141, Tryz.ntmps141
          go_wp2_with fail
          refine (h1 _).mono ?_; rintro e w1 ⟨rfl, rfl⟩
          go_wp2_with fail
          refine (h2 _).mono ?_; rintro e w1 ⟨rfl, rfl⟩
          go_wp2
          go_ret2
          exact ⟨rfl, rfl⟩
        · have t3 := beqF o3
          go_enter Tryz.func141, Tryz.ntmps141
          go_wp2_with fail
          refine (h1 _).mono ?_; rintro e w1 ⟨rfl, rfl⟩
          go_wp2_with fail
          refine (h2 _).mono ?_; rintro e w1 ⟨rfl, rfl⟩
          go_wp2
          go_ret2
          exact ⟨rfl, rfl⟩
  · have d1 : decide (f < t) = false := by simpa using l1
    rw [d1, Bool.and_false, Bool.and_false]
    by_cases o3 : op = 20
    · subst o3
      by_cases l2 : t < f
      · have d2 : decide (t < f) = true := by simpa using l2
        rw [d2]
        go_enter Tryz.func141, Tryz.ntmps141
        go_wp2_with fail
        refine (h1 _).mono ?_; rintro e w1 ⟨rfl, rfl⟩
        go_wp2_with fail
        refine (h2 _).mono ?_; rintro e w1 ⟨rfl, rfl⟩
        go_wp2_with fail
        refine (h5 _).mono ?_; rintro e w1 ⟨rfl, rfl⟩
        go_wp2
        go_ret2
        exact ⟨rfl, rfl⟩
      · have d2 : decide (t < f) = false := by simpa using l2
        rw [d2]
        go_enter Tryz.func141, Tryz.ntmps141
        go_wp2_with fail
        refine (h1 _).mono ?_; rintro e w1 ⟨rfl, rfl⟩
        go_wp2_with fail
        refine (h2 _).mono ?_; rintro e w1 ⟨rfl, rfl⟩
        go_wp2
        go_ret2
        exact ⟨rfl, rfl⟩
    · have t3 := beqF o3
      rw [t3, Bool.false_and]
      by_cases o1 : op = 18
      · subst o1
        go_enter Tryz.func141, Tryz.ntmps141
        go_wp2_with fail
        refine (h1 _).mono ?_; rintro e w1 ⟨rfl, rfl⟩
        go_wp2_with fail
        refine (h2 _).mono ?_; rintro e w1 ⟨rfl, rfl⟩
        go_wp2
        go_ret2
        exact ⟨rfl, rfl⟩
      · have t1 := beqF o1
        by_cases o2 : op = 19
        · subst o2
          go_enter Tryz.func141, Tryz.ntmps141
          go_wp2_with fail
          refine (h1 _).mono ?_; rintro e w1 ⟨rfl, rfl⟩
          go_wp2_with fail
          refine (h2 _).mono ?_; rintro e w1 ⟨rfl, rfl⟩
          go_wp2
          go_ret2
          exact ⟨rfl, rfl⟩
        · have t2 := beqF o2
          go_enter Tryz.func141, Tryz.ntmps141
          go_wp2_with fail
          refine (h1 _).mono ?_; rintro e w1 ⟨rfl, rfl⟩
          go_wp2_with fail
          refine (h2 _).mono ?_; rintro e w1 ⟨rfl, rfl⟩
          go_wp2
          go_ret2
          exact ⟨rfl, rfl⟩
set_option maxHeartbeats 1000000 in
theorem s_Casted (op f t v : Int) (W : World) : Calls Tryz.prog 155 #[.int .i64 op, .int .i64 f, .int .i64 t, .int .i64 v] W (Same (.tuple #[.int .i64 (castV op f t v).1, .bool (castV op f t v).2]) W) := by
  have h1 := fun W => s_l1Value f v W
  have h2 := fun W => s_WidthOk t W
  have h3 := fun h W => s_l1Sign f v W h
  have h4 := fun W => s_Masked t (sgn f v) W
  have h5 := fun W => s_Masked t v W
  cases ha : isVal f v
  · have hR : castV op f t v = (0, false) := by unfold castV; rw [ha]; rfl
    rw [ha] at h1; rw [hR]
    clear h2 h3 h4 h5 ha hR
    go_enter Tryz.func155, Tryz.ntmps155
    go_wp2_with fail
    refine (h1 _).mono ?_; rintro e w1 ⟨rfl, rfl⟩
    go_wp2
    go_ret2
    exact ⟨rfl, rfl⟩
  cases hw : widthOk t
  · have hR : castV op f t v = (0, false) := by unfold castV; rw [ha, hw]; rfl
    rw [ha] at h1; rw [hw] at h2; rw [hR]
    clear h3 h4 h5 ha hw hR
    go_enter Tryz.func155, Tryz.ntmps155
    go_wp2_with fail
    refine (h1 _).mono ?_; rintro e w1 ⟨rfl, rfl⟩
    go_wp2_with fail
    refine (h2 _).mono ?_; rintro e w1 ⟨rfl, rfl⟩
    go_wp2
    go_ret2
    exact ⟨rfl, rfl⟩
  have hR : castV op f t v = (if op == 18 && decide (f < t) then (v, true) else if op == 19 && decide (f < t) then (mskd t (sgn f v), true) else if op == 20 && decide (t < f) then (mskd t v, true) else (0, false)) := by unfold castV; rw [ha, hw]; rfl
  have h3' := fun W => h3 ha W
  rw [ha] at h1; rw [hw] at h2; rw [hR]
  clear h3 ha hw hR
  generalize mskd t (sgn f v) = x at *
  generalize mskd t v = y at *
  generalize sgn f v = z at *
  by_cases l1 : f < t
  · have d1 : decide (f < t) = true := by simpa using l1
    have d2 : decide (t < f) = false := by simp; omega
    rw [d1, d2]
    by_cases o1 : op = 18
    · subst o1
      go_enter Tryz.func155, Tryz.ntmps155
      go_wp2_with fail
      refine (h1 _).mono ?_; rintro e w1 ⟨rfl, rfl⟩
      go_wp2_with fail
      refine (h2 _).mono ?_; rintro e w1 ⟨rfl, rfl⟩
      go_wp2
      go_ret2
      exact ⟨rfl, rfl⟩
    · have t1 := beqF o1
      by_cases o2 : op = 19
      · subst o2
        go_enter Tryz.func155, Tryz.ntmps155
        go_wp2_with fail
        refine (h1 _).mono ?_; rintro e w1 ⟨rfl, rfl⟩
        go_wp2_with fail
        refine (h2 _).mono ?_; rintro e w1 ⟨rfl, rfl⟩
        go_wp2_with fail
        refine (h3' _).mono ?_; rintro e w1 ⟨rfl, rfl⟩
        go_wp2_with fail
        refine (h4 _).mono ?_; rintro e w1 ⟨rfl, rfl⟩
        go_wp2
        go_ret2
        exact ⟨rfl, rfl⟩
      · have t2 := beqF o2
        rw [t1, t2, Bool.and_false]
        by_cases o3 : op = 20
        · subst o3
          go_enter Tryz.func155, Tryz.ntmps155
          go_wp2_with fail
          refine (h1 _).mono ?_; rintro e w1 ⟨rfl, rfl⟩
          go_wp2_with fail
          refine (h2 _).mono ?_; rintro e w1 ⟨rfl, rfl⟩
          go_wp2
          go_ret2
          exact ⟨rfl, rfl⟩
        · have t3 := beqF o3
          go_enter Tryz.func155, Tryz.ntmps155
          go_wp2_with fail
          refine (h1 _).mono ?_; rintro e w1 ⟨rfl, rfl⟩
          go_wp2_with fail
          refine (h2 _).mono ?_; rintro e w1 ⟨rfl, rfl⟩
          go_wp2
          go_ret2
          exact ⟨rfl, rfl⟩
  · have d1 : decide (f < t) = false := by simpa using l1
    rw [d1, Bool.and_false, Bool.and_false]
    by_cases o3 : op = 20
    · subst o3
      by_cases l2 : t < f
      · have d2 : decide (t < f) = true := by simpa using l2
        rw [d2]
        go_enter Tryz.func155, Tryz.ntmps155
        go_wp2_with fail
        refine (h1 _).mono ?_; rintro e w1 ⟨rfl, rfl⟩
        go_wp2_with fail
        refine (h2 _).mono ?_; rintro e w1 ⟨rfl, rfl⟩
        go_wp2_with fail
        refine (h5 _).mono ?_; rintro e w1 ⟨rfl, rfl⟩
        go_wp2
        go_ret2
        exact ⟨rfl, rfl⟩
      · have d2 : decide (t < f) = false := by simpa using l2
        rw [d2]
        go_enter Tryz.func155, Tryz.ntmps155
        go_wp2_with fail
        refine (h1 _).mono ?_; rintro e w1 ⟨rfl, rfl⟩
        go_wp2_with fail
        refine (h2 _).mono ?_; rintro e w1 ⟨rfl, rfl⟩
        go_wp2
        go_ret2
        exact ⟨rfl, rfl⟩
    · have t3 := beqF o3
      rw [t3, Bool.false_and]
      by_cases o1 : op = 18
      · subst o1
        go_enter Tryz.func155, Tryz.ntmps155
        go_wp2_with fail
        refine (h1 _).mono ?_; rintro e w1 ⟨rfl, rfl⟩
        go_wp2_with fail
        refine (h2 _).mono ?_; rintro e w1 ⟨rfl, rfl⟩
        go_wp2
        go_ret2
        exact ⟨rfl, rfl⟩
      · have t1 := beqF o1
        by_cases o2 : op = 19
        · subst o2
          go_enter Tryz.func155, Tryz.ntmps155
          go_wp2_with fail
          refine (h1 _).mono ?_; rintro e w1 ⟨rfl, rfl⟩
          go_wp2_with fail
          refine (h2 _).mono ?_; rintro e w1 ⟨rfl, rfl⟩
          go_wp2
          go_ret2
          exact ⟨rfl, rfl⟩
        · have t2 := beqF o2
          go_enter Tryz.func155, Tryz.ntmps155
          go_wp2_with fail
          refine (h1 _).mono ?_; rintro e w1 ⟨rfl, rfl⟩
          go_wp2_with fail
          refine (h2 _).mono ?_; rintro e w1 ⟨rfl, rfl⟩
          go_wp2
          go_ret2
          exact ⟨rfl, rfl⟩
end Go.Proofs.YtkcgejbnhpccdaaGreat
set_option linter.unusedSimpArgs false
set_option linter.unusedVariables false
namespace Go.Proofs.YtkcgejbnhpccdaaGreat
open Go.RowKit
theorem all_drop {α : Type} (f : α → Bool) (l : List α) (k : Nat) (h : k < l.length) : (l.drop k).all f = (f l[k] && (l.drop (k + 1)).all f) := by rw [List.drop_eq_getElem_cons h, List.all_cons]
def bytesOf (s : ByteArray) : List Int := s.data.toList.map fun b => (b.toNat : Int)
theorem bytesOf_len (s : ByteArray) : (bytesOf s).length = s.size := by simp [bytesOf]
theorem quietS {P : Program} {f : FuncId} {args : Array Value} {w : World} {n : Nat} {v : Value} (h : Calls P f args (w.drewN n) (Same v (w.drewN n))) : Calls P f args (w.drewN n) fun e w'' => e = .returned v ∧ ∃ m, w'' = w.drewN m :=
  h.mono fun _ _ ⟨he, hm⟩ => ⟨he, n, hm.symm⟩
theorem quietS' {P : Program} {f : FuncId} {args : Array Value} {w : World} {n : Nat} {v : Value} (h : Calls P f args (w.drewN n) (Same v (w.drewN n))) : Calls P f args (w.drewN n) fun e w'' => e = .returned v ∧ ∃ m, w'' = w.drewN m :=
  h.mono fun _ _ ⟨he, hm⟩ => ⟨he, n, hm.symm⟩
theorem drewN_below {B : Nat} {w W : World} (h : Below B w W) (n : Nat) : Below B w (W.drewN n) := ⟨h.os, h.tape, h.output, h.size, h.block⟩
theorem mskd_rng (w n : Int) : 0 ≤ mskd w n ∧ mskd w n ≤ 4294967295 := by
  unfold mskd
  cases h : widthOk w
  · rw [if_neg (by decide)]; exact ⟨by decide, by decide⟩
  · rw [if_pos rfl]
    have hp := pow_bd w h
    have h1 := Int.emod_nonneg n (show (2 : Int) ^ w.toNat ≠ 0 by omega)
    have h2 := Int.emod_lt_of_pos n (show (0 : Int) < 2 ^ w.toNat by omega)
    omega
theorem bin_rng (op w a b : Int) : 0 ≤ (binV op w a b).1 ∧ (binV op w a b).1 ≤ 4294967295 := by
  unfold binV
  split
  · exact ⟨by decide, by decide⟩
  · split
    · exact ⟨by decide, by decide⟩
    · exact mskd_rng _ _
theorem cast_rng (op f t v : Int) (h : 0 ≤ v ∧ v ≤ 4294967295) : 0 ≤ (castV op f t v).1 ∧ (castV op f t v).1 ≤ 4294967295 := by
  unfold castV
  split
  · exact ⟨by decide, by decide⟩
  split
  · exact h
  split
  · exact mskd_rng _ _
  split
  · exact mskd_rng _ _
  · exact ⟨by decide, by decide⟩
/-- A row of bytes in block g. -/
def ByR (W : World) (g : Nat) (mem : List Int) : Prop := ∃ arr k, W.heap[g]? = some (.cells arr 5 (k, k + 1)) ∧ mem.length ≤ k ∧ mem.length ≤ arr.size ∧ ∀ i (h : i < mem.length), arr[i]? = some (.int .u8 mem[i])
theorem ByR.cell {W : World} {g : Nat} {mem : List Int} (h : ByR W g mem) (i : Nat) (hi : i < mem.length) : W.cell? ⟨g, i, none⟩ = some (.int .u8 mem[i]) ∧ W.frozen? ⟨g, i, none⟩ = false := by
  obtain ⟨arr, k, h1, h2, h3, h4⟩ := h
  constructor
  · unfold World.cell?
    simp only [h1, Option.isSome_none, Bool.false_eq_true, if_false]
    exact h4 i hi
  · unfold World.frozen?
    simp only [h1]
    have : ¬ k ≤ i := by omega
    simp [this]
theorem ByR.mv {W W' : World} {g : Nat} {mem : List Int} (h : ByR W g mem) (he : W'.heap[g]? = W.heap[g]?) : ByR W' g mem := by
  obtain ⟨arr, k, h1, h2⟩ := h; exact ⟨arr, k, he.trans h1, h2⟩
theorem ByR.lt {W : World} {g : Nat} {mem : List Int} (h : ByR W g mem) : g < W.heap.size := by
  obtain ⟨arr, k, h1, h2⟩ := h; exact (Array.getElem?_eq_some_iff.1 h1).1
theorem ByR.set {W : World} {g : Nat} {mem : List Int} (h : ByR W g mem) (i : Nat) (v : Int) : ByR (W.setCell ⟨g, i, none⟩ (.int .u8 v)) g (mem.set i v) := by
  obtain ⟨arr, k, h1, h2, h3, h4⟩ := h
  refine ⟨arr.setIfInBounds i (.int .u8 v), k, ?_, by simpa using h2, by simpa using h3, fun j hj => ?_⟩
  · have hlt := (Array.getElem?_eq_some_iff.1 h1).1
    have hx := (Array.getElem?_eq_some_iff.1 h1).2
    unfold World.setCell
    simp only [Array.getElem?_modify]
    rw [h1]
    simp
  · have hj' : j < mem.length := by simpa using hj
    rw [Array.getElem?_setIfInBounds]
    simp only [List.getElem_set]
    by_cases e : i = j
    · subst e
      rw [if_pos rfl, if_pos (by omega), if_pos rfl]
    · rw [if_neg e, if_neg e]; exact h4 j hj'
theorem own_far {W : World} {lo2 b j e n : Nat} {v u : Value} {cs : List Value} (h : W.ownsRow lo2 e 1 v n cs) (hb : b < lo2) : (W.setCell ⟨b, j, none⟩ u).ownsRow lo2 e 1 v n cs := by
  refine ⟨h.1, ?_⟩
  rcases h.2 with h' | ⟨g', cap, cur, hv, hl, hx, h''⟩
  · exact .inl h'
  · exact .inr ⟨g', cap, cur, hv, hl, heap_off hx (by omega), h''⟩
theorem own_at {W : World} {lo gr b j e n c : Nat} {u : Value} {cs : List Value} (h : W.ownsRow lo e 1 (.slice (some ⟨gr, 0, none⟩) n c) n cs) (hb : gr ≠ b) : (W.setCell ⟨b, j, none⟩ u).ownsRow lo e 1 (.slice (some ⟨gr, 0, none⟩) n c) n cs := by
  refine ⟨h.1, ?_⟩
  rcases h.2 with ⟨h', _⟩ | ⟨g', cap, cur, hv, hl, hx, h''⟩
  · cases h'
  · cases hv
    exact .inr ⟨gr, _, cur, rfl, hl, heap_off hx hb, h''⟩
theorem setCell_size (W : World) (a : Addr) (u : Value) : (W.setCell a u).heap.size = W.heap.size := by simp [World.setCell]
/-- append to a row of the call's own, as one step of a region that draws. -/
theorem step_app_I {ops : Array Oper} {o : Oper} {a : Act} {W : World} {K : Act → World → Prop} {Q : Exit → Act → World → Prop} {E : Prop} (hgd : o.guard = none) (s x : Operand)
    (ho : o.op = .call { callee := .builtin .append, args := #[s, x], argTypes := #[24, 24] }) (base : Nat) (v : Value) (xs ys : List Int) (hs : a.eval s = v)
    (hown : W.ownsRow base 2 1 v xs.length (xs.map (Value.int .i64))) (ad : Addr) (n c : Nat) (hx : a.eval x = .slice (some ad) n c) (hr : RI lm W (.slice (some ad) n c) ys) (hl : xs.length ≤ 1099511627776) (hb : base ≤ W.heap.size)
    (hK : ∀ v' w', w'.ownsRow base 2 1 v' (xs ++ ys).length ((xs ++ ys).map (Value.int .i64)) → W.grownBy w' v.ownBlock → K (a.put o.dst v') w') :
    if Region.wanted o (yielded ops a.tmps) = true then Oper.wp Tryz.prog o a W K Q else E := by
  have hw : Region.wanted o (yielded ops a.tmps) = true := by simp [Region.wanted, hgd]
  rw [if_pos hw]
  obtain ⟨i0, hi, hz0, hz1, hz2⟩ := info_parts infoI
  obtain ⟨rfl, hle, hn, hsrc⟩ := hr.src
  obtain ⟨v', w', hrun, r1, r2, _⟩ := run_append_own (P := Tryz.prog) W base 24 o.type 2 i0 (.int .i64 0) 1 8 Tryz.underlying24 hi hz0 hz1 hz2 rfl (by decide) v xs.length _ hown ad ys.length c (ys.map (Value.int .i64)) (by simp) (hsrc ad rfl) (by simp [Value.oneCell']) (by unfold maxLen; omega) (by omega) hb
  unfold Oper.wp
  simp [execOp, ho, resolve, invoke, builtin, hs, hx, hrun, Result.andThen]
  exact hK v' w' (by simpa using r1) r2
theorem bytesOf_rng (s : ByteArray) : ∀ i (h : i < (bytesOf s).length), 0 ≤ (bytesOf s)[i] ∧ (bytesOf s)[i] ≤ 255 := fun i h => by
  have hm : (bytesOf s)[i] ∈ bytesOf s := List.getElem_mem h
  obtain ⟨b, -, hb⟩ := List.mem_map.1 hm
  have := b.toNat_lt
  omega
theorem conv_byr (W : World) (u : ByteArray) : ∃ c W1, (convert 9 22 (.string u)).run Tryz.prog W = .ok (.slice (some ⟨W.heap.size, 0, none⟩) u.size c) W1 ∧ ByR W1 W.heap.size (bytesOf u) ∧ Below W.heap.size W W1 ∧ W1.heap.size = W.heap.size + 1 := by
  refine ⟨_, _, Lib.run_convert_string_bytes (P := Tryz.prog) W 9 22 5 u Tryz.underlying9 Tryz.underlying22 Tryz.underlying5, ?_, ?_, Lib.bytesWorld_size W _ u⟩
  · have hn := Lib.bytesWorld_at_new W 5 u
    have hl := bytesOf_len u
    have hs : u.size ≤ (Lib.bytesCells W 5 u).size := by
      have : u.data.size = u.size := rfl
      simp [Lib.bytesCells]
    refine ⟨_, _, hn, by omega, by omega, fun i hi => ?_⟩
    have hid : i < u.data.toList.length := by rw [hl] at hi; simpa using hi
    have hid' : i < u.data.size := by simpa using hid
    simp only [Lib.bytesCells, bytesOf, List.getElem_map]
    rw [Array.getElem?_append_left (by simpa using hid')]
    simp [Array.getElem?_eq_getElem hid']
  · exact ⟨rfl, rfl, rfl, by rw [Lib.bytesWorld_size]; omega, fun k hk => Lib.bytesWorld_at_old W _ u k hk⟩
theorem wp_via {P : Program} {c : Code} {Q : Exit → Act → World → Prop} {a : Act} {w : World} (R : Act → Act → World → Prop) (h1 : c.wp P (Exit.then (R a) fun _ _ _ => False) a w) (h2 : ∀ a' W, R a a' W → Q .normal a' W) : c.wp P Q a w :=
  Code.wp_mono (fun e a' W h => by
    cases e with
    | normal => exact h2 _ _ h
    | _ => exact (h : False).elim) h1
theorem madeInts (n : Nat) : (madeCells #[.int .i64 0] n).toList = (List.replicate n (0 : Int)).map (Value.int .i64) := by
  rw [List.map_replicate]
  apply List.ext_getElem?
  intro i
  simp only [madeCells]
  by_cases h : i < n
  · simp [h, Nat.mod_one]
  · simp [h]
structure XRes where
  code : Int
  value : Int
  out : List Int
  mem : ByteArray
  steps : Int
  deriving Inhabited
def toBytes (m : List Int) : ByteArray := ⟨(m.map fun n => UInt8.ofNat n.toNat).toArray⟩
def resV (x : XRes) (v : Value) : Value := .agg #[.int .i64 x.code, .int .i64 x.value, v, .string x.mem, .int .i64 x.steps]
/-- A result whose row is the call's own. -/
def RetRes (x : XRes) (w : World) (e : Ending) (w' : World) : Prop := ∃ v, e = .returned (resV x v) ∧ w'.ownsRow w.heap.size 2 1 v x.out.length (x.out.map (Value.int .i64)) ∧ Below w.heap.size w w'
theorem conv_back (W : World) (g cap : Nat) (m : List Int) (h : ByR W g m) (hr : ∀ i (h : i < m.length), 0 ≤ m[i] ∧ m[i] ≤ 255) (n : Nat) (hn : n = m.length) : (convert 22 9 (.slice (some ⟨g, 0, none⟩) n cap)).run Tryz.prog W = .ok (.string (toBytes m)) W := by
  subst hn
  have := run_convert_bytes_back (P := Tryz.prog) W 22 9 5 ⟨g, 0, none⟩ cap (m.map fun n => UInt8.ofNat n.toNat) Tryz.underlying22 Tryz.underlying5 Tryz.underlying9 (fun j hj => by
    have hj' : j < m.length := by simpa using hj
    have hx := hr j hj'
    have hc := (h.cell j hj').1
    simp only [List.getElem_map]
    have e : ((UInt8.ofNat m[j].toNat).toNat : Int) = m[j] := by
      have : m[j].toNat < 256 := by omega
      rw [UInt8.toNat_ofNat_of_lt' (by simpa using this)]
      omega
    rw [e]
    have ea : (⟨g, 0, none⟩ : Addr).add j = ⟨g, j, none⟩ := by unfold Addr.add; by_cases h0 : j = 0 <;> simp [h0]
    rw [ea]; exact hc)
  have hl : (m.map fun n => UInt8.ofNat n.toNat).length = m.length := by simp
  rw [hl] at this
  exact this
end Go.Proofs.YtkcgejbnhpccdaaGreat
set_option linter.unusedSimpArgs false
set_option linter.unusedVariables false
namespace Go.Proofs.YtkcgejbnhpccdaaGreat
open Go.RowKit
def KRes (w : World) (x : XRes) (cs : List Value) : Prop := ∃ v, cs = [.int .i64 x.code, .int .i64 x.value, v, .string x.mem, .int .i64 x.steps] ∧ RI lm w v x.out
deriving instance DecidableEq for XRes
theorem bytes_beq' (a b : ByteArray) : (a.toList == b.toList) = decide (a = b) := by
  rw [ByteArray.toList_eq, ByteArray.toList_eq]
  by_cases h : a = b
  · subst h; simp
  · have : ¬ a.data.toList = b.data.toList := fun e => h (ByteArray.ext (Array.toList_inj.1 e))
    rw [decide_eq_false h, beq_eq_false_iff_ne]; exact this
set_option maxHeartbeats 4000000 in
theorem e_Res (x y : XRes) (cs ds : List Value) (w : World) (hx : KRes w x cs) (hy : KRes w y ds) : Calls Tryz.prog 31 #[.agg cs.toArray, .agg ds.toArray] w (Ret (.bool (decide (x = y))) w) := by
  obtain ⟨v1, rfl, r1⟩ := hx
  obtain ⟨u1, rfl, s1⟩ := hy
  have hbl := fun o o' => ((Below.refl w.heap.size w).al (Nat.le_refl _) o).al (by simp) o'
  obtain ⟨xcode, xvalue, xout, xmem, xsteps⟩ := x
  obtain ⟨ycode, yvalue, yout, ymem, ysteps⟩ := y
  simp only at *
  have z1 := fun W hW => e_I v1 u1 xout yout W (r1.mv hW) (s1.mv hW)
  by_cases hcode : xcode = ycode
  rotate_left
  · rw [decide_eq_false (by intro e; injection e; contradiction)]
    have d := bneT hcode
    go_enter Tryz.func31, Tryz.ntmps31
    go_wp2
    go_ret
    exact ⟨rfl, hbl _ _⟩
  subst hcode
  by_cases hvalue : xvalue = yvalue
  rotate_left
  · rw [decide_eq_false (by intro e; injection e; contradiction)]
    have d := bneT hvalue
    go_enter Tryz.func31, Tryz.ntmps31
    go_wp2
    go_ret
    exact ⟨rfl, hbl _ _⟩
  subst hvalue
  by_cases hout : xout = yout
  rotate_left
  · rw [decide_eq_false (by intro e; injection e; contradiction)]
    simp only [decide_eq_false hout] at z1
    clear hout
    go_enter Tryz.func31, Tryz.ntmps31
    go_wp2_with fail
    refine (z1 _ (hbl _ _)).mono ?_; rintro e w1 ⟨rfl, hb1⟩
    have k0 := bat hb1 w.heap.size (by simp; omega)
    have k1 := bat hb1 (w.heap.size + 1) (by simp)
    have hz1 := hb1.size
    simp at k0 k1 hz1
    have hbw1 := Hd.mk ((hbl _ _).then hb1)
    go_wp2
    go_ret
    exact ⟨rfl, hbw1.out⟩
  simp only [decide_eq_true hout] at z1
  by_cases hmem : xmem = ymem
  rotate_left
  · rw [decide_eq_false (by intro e; injection e; contradiction)]
    have d : (xmem.toList == ymem.toList) = false := by rw [bytes_beq', decide_eq_false hmem]
    clear hout
    go_enter Tryz.func31, Tryz.ntmps31
    go_wp2_with fail
    refine (z1 _ (hbl _ _)).mono ?_; rintro e w1 ⟨rfl, hb1⟩
    have k0 := bat hb1 w.heap.size (by simp; omega)
    have k1 := bat hb1 (w.heap.size + 1) (by simp)
    have hz1 := hb1.size
    simp at k0 k1 hz1
    have hbw1 := Hd.mk ((hbl _ _).then hb1)
    go_wp2
    go_ret
    exact ⟨rfl, hbw1.out⟩
  subst hmem
  by_cases hsteps : xsteps = ysteps
  rotate_left
  · rw [decide_eq_false (by intro e; injection e; contradiction)]
    have d := bneT hsteps
    clear hout
    go_enter Tryz.func31, Tryz.ntmps31
    go_wp2_with fail
    refine (z1 _ (hbl _ _)).mono ?_; rintro e w1 ⟨rfl, hb1⟩
    have k0 := bat hb1 w.heap.size (by simp; omega)
    have k1 := bat hb1 (w.heap.size + 1) (by simp)
    have hz1 := hb1.size
    simp at k0 k1 hz1
    have hbw1 := Hd.mk ((hbl _ _).then hb1)
    go_wp2
    go_ret
    exact ⟨rfl, hbw1.out⟩
  subst hsteps
  rw [decide_eq_true (by rw [hout])]
  clear hout
  go_enter Tryz.func31, Tryz.ntmps31
  go_wp2_with fail
  refine (z1 _ (hbl _ _)).mono ?_; rintro e w1 ⟨rfl, hb1⟩
  have k0 := bat hb1 w.heap.size (by simp; omega)
  have k1 := bat hb1 (w.heap.size + 1) (by simp)
  have hz1 := hb1.size
  simp at k0 k1 hz1
  have hbw1 := Hd.mk ((hbl _ _).then hb1)
  go_wp2
  go_ret
  exact ⟨rfl, hbw1.out⟩
end Go.Proofs.YtkcgejbnhpccdaaGreat
