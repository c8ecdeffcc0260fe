/- The contract of the reference's l2Inst. No conditions. -/
import Derived.Test.YtkcgejbnhpccdaaGreatJ22
import Derived.Laws.CopyOwn
import Derived.Test.YtkcgejbnhpccdaaGreatJ08
import Derived.Test.YtkcgejbnhpccdaaGreatJ23
import Derived.Test.YtkcgejbnhpccdaaGreatJ18
import Derived.Test.YtkcgejbnhpccdaaGreatJ14
set_option linter.unusedSimpArgs false
set_option linter.unusedVariables false
namespace Go.Proofs.YtkcgejbnhpccdaaGreat
open Go.RowKit
/-! ### a frame: its values, in a row of their own -/
theorem first_le (f : XFunc) (b : Nat) (hb : b < f.blocks.length) : firstOf f b + f.blocks[b].phis.length + f.blocks[b].insts.length ≤ countOf f := by
  have h1 := countIn_snoc f.params.length f.blocks b hb
  have h2 : ∀ (n : Int) (l : List XBlock), n ≤ countIn n l := by
    intro n l
    unfold countIn
    have : 0 ≤ (l.map sizeB).sum := by
      induction l with
      | nil => simp
      | cons b l ih => have := sizeB_nn b; simp only [List.map_cons, List.sum_cons]; omega
    omega
  have h3 : countOf f = countIn (countIn f.params.length (f.blocks.take (b + 1))) (f.blocks.drop (b + 1)) := by
    unfold countOf countIn
    rw [Int.add_assoc, ← List.sum_append, ← List.map_append, List.take_append_drop]
  have h4 := h2 (countIn f.params.length (f.blocks.take (b + 1))) (f.blocks.drop (b + 1))
  unfold firstOf
  rw [Int.toNat_natCast]
  unfold sizeB at h1
  omega
theorem idx_mem (x : Int) : ∀ l : List Int, x ∈ l → ∃ k : Nat, k < l.length ∧ idx (fun y => x == y) l = k
  | [], h => by cases h
  | y :: r, h => by
    unfold idx
    by_cases e : x = y
    · exact ⟨0, by simp, by simp [e]⟩
    · obtain ⟨k, hk, hi⟩ := idx_mem x r (by rcases List.mem_cons.1 h with h | h; exact absurd h e; exact h)
      refine ⟨k + 1, by simp; omega, ?_⟩
      rw [if_neg (by simpa using e), hi, if_neg (by omega)]; rfl
theorem putAt_splice (r : List Int) : ∀ (l : List Int) (k : Nat), k + r.length ≤ l.length → putAt l k r = splice l k r := by
  induction r with
  | nil => intro l k h; simp [putAt, splice]
  | cons x r ih =>
    intro l k h
    simp only [List.length_cons] at h
    rw [putAt, ih _ _ (by simp; omega)]
    unfold splice
    rw [List.take_set, List.take_succ_eq_append_getElem (by omega), List.set_append_right _ _ (by simp; omega)]
    simp only [List.length_take, Nat.min_eq_left (show k ≤ l.length by omega), Nat.sub_self, List.set_cons_zero, List.append_assoc, List.cons_append, List.nil_append, List.length_cons]
    rw [List.drop_set_of_lt (by omega), show k + 1 + r.length = k + (r.length + 1) by omega]
theorem map_splice {α β : Type} (g : α → β) (l r : List α) (k : Nat) : (splice l k r).map g = splice (l.map g) k (r.map g) := by simp [splice]
/-- A row copied into a row that is known whole. -/
theorem copy_I {w : World} {ops : Array Oper} {rest : List Oper} {o : Oper} {a : Act} {Q : Exit → Act → World → Prop} (hgd : o.guard = none) (d s : Operand)
    (ho : o.op = .call { callee := .builtin .copy, args := #[d, s], argTypes := #[24, 24] }) (dp : Option Addr) (dLen dCap : Nat) (hd : a.eval d = .slice dp dLen dCap) (A : Option Addr) (n c : Nat) (hs : a.eval s = .slice A n c)
    (ys : List Int) (hr : RI lm w (.slice A n c) ys) (g off : Nat) (vals : List Int) (hg : w.heap[g]? = some (.cells (vals.map (Value.int .i64)).toArray 2 (0, 0))) (hle : ys.length ≤ dLen) (hpos : 0 < ys.length → dp = some ⟨g, off, none⟩) (hfit : off + ys.length ≤ vals.length)
    (h : ∀ w', Hd (w'.heap[g]? = some (.cells ((putAt vals off ys).map (Value.int .i64)).toArray 2 (0, 0))) → Hd (Off g g none w w') → wpList Tryz.prog ops Q rest (a.put o.dst (goInt ys.length)) w') : wpList Tryz.prog ops Q (o :: rest) a w := by
  obtain ⟨rfl, hl, hn, hsrc⟩ := hr.src
  have hsz : (Tryz.prog.info? 2).map (·.size) = some 1 := by
    have := infoI
    cases hq : Tryz.prog.info? 2 with
    | none => rw [hq] at this; cases this
    | some i => rw [hq] at this; simp at this; simp [this]
  rw [putAt_splice ys vals off hfit, map_splice] at h
  by_cases h0 : ys.length = 0
  · obtain rfl : ys = [] := List.eq_nil_of_length_eq_zero h0
    refine wpList_copy_nothing hgd d s 24 24 ho 2 Tryz.underlying24 hsz dp A dLen dCap 0 c hd hs (by simp) ?_
    exact h w ⟨by simpa [splice] using hg⟩ ⟨Off.refl _ _ _ _⟩
  · obtain rfl := hpos (by omega)
    cases A with
    | none => exact absurd (hn rfl) (by rintro rfl; exact h0 rfl)
    | some ad =>
      have hm : (ys.map (Value.int .i64)).length = Nat.min ys.length dLen := by rw [List.length_map]; exact (Nat.min_eq_left hle).symm
      refine wpList_copy_own hgd d s 24 24 ho 2 Tryz.underlying24 hsz g off dLen dCap ad ys.length c hd hs _ 2 hg (ys.map (Value.int .i64)) hm (hsrc ad rfl) (by simpa using hfit) (by simp [Value.oneCell']) ?_
      have := h (w.setRow g (splice (vals.map (Value.int .i64)) off (ys.map (Value.int .i64))).toArray) ⟨setRow_heap w g _ _ _ _ hg⟩ ⟨⟨rfl, rfl, rfl, by simp [World.setRow], fun b hb h1 _ _ => setRow_other w g b _ h1⟩⟩
      simpa [splice] using this
def FR (pv bv : Value) (ret : Int) (gx gv n : Nat) (vals : List Int) (W : World) : Prop :=
  W.heap[gx]? = some (.cells #[pv, .int .i64 ret, bv, .slice (some ⟨gv, 0, none⟩) n n] 127 (0, 0)) ∧ W.heap[gv]? = some (.cells (vals.map (Value.int .i64)).toArray 2 (0, 0)) ∧ gx ≠ gv
theorem FR.mv {pv bv : Value} {ret : Int} {gx gv n : Nat} {vals : List Int} {W W' : World} (h : FR pv bv ret gx gv n vals W) (hb : Below W.heap.size W W') : FR pv bv ret gx gv n vals W' :=
  ⟨(hb.block gx (Array.getElem?_eq_some_iff.1 h.1).1).trans h.1, (hb.block gv (Array.getElem?_eq_some_iff.1 h.2.1).1).trans h.2.1, h.2.2⟩
theorem FR.off {pv bv : Value} {ret : Int} {gx gv n g gm : Nat} {o : Option Nat} {vals : List Int} {W W' : World} (h : FR pv bv ret gx gv n vals W) (hb : Off g gm o W W') (hx : Asd g gm o gx W) (hv : Asd g gm o gv W) : FR pv bv ret gx gv n vals W' :=
  ⟨(hb.at hx).trans h.1, (hb.at hv).trans h.2.1, h.2.2⟩
theorem FR.drewN {pv bv : Value} {ret : Int} {gx gv n : Nat} {vals : List Int} {W : World} (h : FR pv bv ret gx gv n vals W) (k : Nat) : FR pv bv ret gx gv n vals (W.drewN k) := h
theorem FR.drew {pv bv : Value} {ret : Int} {gx gv n : Nat} {vals : List Int} {W : World} (h : FR pv bv ret gx gv n vals W) : FR pv bv ret gx gv n vals W.drew := h
theorem FR.cells {pv bv : Value} {ret : Int} {gx gv n : Nat} {vals : List Int} {W : World} (h : FR pv bv ret gx gv n vals W) : W.cell? ⟨gx, 0, none⟩ = some pv ∧ W.cell? ⟨gx, 1, none⟩ = some (.int .i64 ret) ∧ W.cell? ⟨gx, 2, none⟩ = some bv ∧ W.cell? ⟨gx, 3, none⟩ = some (.slice (some ⟨gv, 0, none⟩) n n) ∧ gx < W.heap.size ∧ gv < W.heap.size := by
  obtain ⟨c0, -⟩ := row_facts h.1
  exact ⟨c0 0, c0 1, c0 2, c0 3, (Array.getElem?_eq_some_iff.1 h.1).1, (Array.getElem?_eq_some_iff.1 h.2.1).1⟩
theorem FR.val {pv bv : Value} {ret : Int} {gx gv n : Nat} {vals : List Int} {W : World} (h : FR pv bv ret gx gv n vals W) (k : Int) (h0 : 0 ≤ k) (h1 : k < vals.length) : W.cell? ⟨gv, k.toNat, none⟩ = some (.int .i64 (vl vals k)) ∧ W.frozen? ⟨gv, k.toNat, none⟩ = false := by
  obtain ⟨c0, f0⟩ := row_facts h.2.1
  refine ⟨?_, f0 _⟩
  rw [c0, List.getElem?_toArray, List.getElem?_map]
  unfold vl
  rw [List.getElem?_eq_getElem (by omega), List.getD_eq_getElem?_getD, List.getElem?_eq_getElem (by omega)]; rfl
theorem FR.set {pv bv : Value} {ret : Int} {gx gv n : Nat} {vals : List Int} {W : World} (h : FR pv bv ret gx gv n vals W) (k : Nat) (v : Int) : FR pv bv ret gx gv n (vals.set k v) (W.setCell ⟨gv, k, none⟩ (.int .i64 v)) := by
  refine ⟨heap_off h.1 h.2.2, ?_, h.2.2⟩
  have := heap_set (j := k) (u := .int .i64 v) h.2.1
  simpa [List.map_set] using this
theorem SI.far {mv : Value} {fuel g gm lo gv : Nat} {d : Int} {s : RS} {A : Option Addr} {c : Nat} {W W' : World} (h : SI mv fuel g gm lo d s A c W) (hb : Off gv gv none W W') (hv : Asd g gm (Go.Proofs.YtkcgejbnhpccdaaGreat.blk A) gv W) : SI mv fuel g gm lo d s A c W' := by
  obtain ⟨cm, h1, h2, h3, i1, i2, i3, h4⟩ := h
  refine ⟨cm, (hb.block g (Array.getElem?_eq_some_iff.1 h1).1 hv.g.symm hv.g.symm (by simp)).trans h1, h2.mv (hb.block gm h2.lt hv.gm.symm hv.gm.symm (by simp)), ?_, i1, i2, Nat.le_trans i3 hb.size, h4⟩
  refine ⟨h3.1, ?_⟩
  rcases h3.2 with h' | ⟨g', cap, cur, hv', hl', hx, h''⟩
  · exact .inl h'
  · have hne : g' ≠ gv := fun e => hv.o (by injection hv' with e1 e2 e3; subst e1; rw [← e]; rfl)
    exact .inr ⟨g', cap, cur, hv', hl', (hb.block g' (Array.getElem?_eq_some_iff.1 hx).1 hne hne (by simp)).trans hx, h''⟩
end Go.Proofs.YtkcgejbnhpccdaaGreat
set_option linter.unusedSimpArgs false
set_option linter.unusedVariables false
namespace Go.Proofs.YtkcgejbnhpccdaaGreat
open Go.RowKit
theorem ops_cases (i : XInst) : inR i.op 1 27 = true → i.op ≠ 26 → (i.op = 21 ∧ (opsOf i).length = 0) ∨ (i.op = 24 ∧ (opsOf i).length = 2) ∨ (i.op = 25 ∧ (opsOf i).length = 1) ∨ (i.op = 23 ∧ (opsOf i).length = 1) ∨
    (i.op ≠ 21 ∧ i.op ≠ 23 ∧ i.op ≠ 24 ∧ i.op ≠ 25 ∧ ((opsOf i).length = 1 ∨ (opsOf i).length = 2 ∨ (opsOf i).length = 3)) := by
  intro h h26
  simp only [inR, Bool.and_eq_true, decide_eq_true_eq] at h
  by_cases h1 : i.op = 21
  · simp [opsOf, bin, cst, inR, h1]
  by_cases h2 : i.op = 23
  · simp [opsOf, bin, cst, inR, h2]
  by_cases h3 : i.op = 24
  · simp [opsOf, bin, cst, inR, h3]
  by_cases h4 : i.op = 25
  · simp [opsOf, bin, cst, inR, h4]
  · right; right; right; right
    refine ⟨h1, h2, h3, h4, ?_⟩
    unfold opsOf
    repeat' split
    all_goals first | (simp; done) | (simp_all [bin, cst, inR]; done) | (simp_all [bin, cst, inR]; omega)
theorem widthOk_ne (w : Int) (h : widthOk w = true) : (w == 0) = false := by
  simp only [widthOk, Bool.or_eq_true, beq_iff_eq] at h
  simp; omega
set_option maxHeartbeats 8000000 in
set_option maxRecDepth 100000 in
theorem s_l2Inst (i : XInst) (v : Value) (ids funcs : Int) (w : World) (hv : RI lm w v i.args) (hi : 0 ≤ ids) (hi2 : ids ≤ 1048576) (hf : 0 ≤ funcs) (hf2 : funcs ≤ 1048576) :
    Calls Tryz.prog 145 #[instV i v, .int .i64 ids, .int .i64 funcs] w (Ret (.bool (instOk ids funcs i)) w) := by
  have hops := s_l2Operands i
  obtain ⟨A, c, rfl, _, hl, hv0⟩ := hv.sm
  have hp := instOk_pre ids funcs i
  have hpre : instPre i = (inR i.op 1 27 && decide (i.args.length ≤ 4) && (i.args.isEmpty || i.op == 26)) := rfl
  have hbl := fun o => (Below.refl w.heap.size w).al (Nat.le_refl _) o
  have hlen := opsOf_len i hl
  have hcl := Hd.mk (ops_cases i)
  have hN := Hd.mk (show ownN i = if i.op == 26 then 0 else (opsOf i).length from rfl)
  have hn3 := Hd.mk (show i.op ≠ 26 → (opsOf i).length ≤ 3 from fun ho => by rcases opsOf_le i with h | ⟨_, h⟩; exact h; exact absurd h ho)
  have hW := Hd.mk (show wFits i = if i.op == 24 || i.op == 25 then i.w == 0 else if i.op == 23 then i.w == 8 else widthOk i.w from rfl)
  have hM := Hd.mk (show immFits i funcs = if i.op == 21 then isVal i.w i.imm else if i.op == 26 then inR i.imm 0 (funcs - 1) else i.imm == 0 from rfl)
  obtain ⟨op, wd, a, b, c0, imm, args⟩ := i
  simp only [instV] at *
  generalize instOk ids funcs _ = R at *
  generalize hP : instPre _ = Pr at *
  generalize ownN _ = N at *
  generalize wFits _ = WF at *
  generalize immFits _ _ = IF at *
  generalize opsOf _ = l at *
  clear hP
  cases h0 : inR op 1 27 with
  | false =>
    rw [h0] at hpre
    simp at hpre
    subst hpre
    simp at hp
    subst hp
    go_enter Tryz.func145, Tryz.ntmps145
    go_wp2_with (go_at_call 47; refine (s_l1In _ _ _ _).mono ?_; rintro e w' ⟨rfl, rfl⟩)
    go_ret
    exact ⟨rfl, hbl _⟩
  | true =>
    rw [h0] at hpre
    by_cases h2 : op ≠ 26 ∧ 0 < args.length
    · obtain ⟨h4, h3⟩ := h2
      have h5 : args.isEmpty = false := by cases args <;> simp_all
      simp [beqF h4, h5] at hpre
      subst hpre
      simp at hp
      subst hp
      have b4 := bneT h4
      clear h5
      go_enter Tryz.func145, Tryz.ntmps145
      go_wp2_with (go_at_call 47; refine (s_l1In _ _ _ _).mono ?_; rintro e w' ⟨rfl, rfl⟩)
      go_ret
      exact ⟨rfl, hbl _⟩
    · have hpre2 : Pr = decide (args.length ≤ 4) := by
        rw [hpre]
        have : args.isEmpty = true ∨ op = 26 := by
          rcases Nat.eq_zero_or_pos args.length with h | h
          · left; simpa using h
          · right; exact Decidable.byContradiction fun h' => h2 ⟨h', h⟩
        rcases this with h | h <;> simp [h]
      have hargs : op ≠ 26 → args.length = 0 := fun h => by omega
      clear hpre h2
      have hp' := Hd.mk hp
      have hpre' := Hd.mk hpre2
      have hargs' := Hd.mk hargs
      clear hp hpre2 hargs
      have h26 : op ≠ 26 ∧ args = [] ∨ op = 26 := by
        by_cases h : op = 26
        · exact .inr h
        · exact .inl ⟨h, List.eq_nil_of_length_eq_zero (hargs'.out h)⟩
      clear hargs'
      rcases h26 with ⟨h26, rfl⟩ | rfl
      · have b26 := bneT h26
        have c26 := beqF h26
        have hl3 := hn3.out h26
        have hN2 := hN.out
        rw [c26] at hN2
        simp at hN2
        subst hN2
        have hPr := hpre'.out
        simp at hPr
        subst hPr
        go_enter Tryz.func145, Tryz.ntmps145
        go_wp2_with fail
        refine (s_l1In _ _ _ _).mono ?_; rintro e w' ⟨rfl, rfl⟩
        go_wp2_with fail
        refine (hops _ _ (hv0.out.mv (hbl _))).mono ?_; rintro e w1 ⟨v', rfl, ho1, hb1⟩
        obtain ⟨A1, c1, rfl, -, -, hr1⟩ := (own_ints (L := lm) ho1 (by simp only [lm]; omega)).2.sm
        have k0 := bat hb1 w.heap.size (by simp)
        simp at k0
        have hbw := Hd.mk ((hbl _).then hb1)
        clear hb1 ho1 hops
        go_wp2
        go_loop [8] (fun s8 => ∃ k : Nat, k ≤ l.length ∧ s8 = .int .i64 k ∧ Hd ((l.take k).all (isIdB ids) = true)) (fun s8 => l.length - (intOf s8).toNat)
        case atStart => exact ⟨0, Nat.zero_le _, rfl, ⟨by simp⟩⟩
        case round =>
          obtain ⟨k, hk, rfl, hall⟩ := hrel
          by_cases hlt : k < l.length
          · obtain ⟨b1, off1, cs1, hA, hbl1, hk1, hat⟩ := hr1.out.in0 (Below.refl _ _) k hlt
            cases hA
            cases hk1
            have g0 := hat 0 _ rfl
            simp at g0
            clear hat
            have hsn := Hd.mk (all_take_snoc (isIdB ids) l k hlt)
            have hfail := fun h => Hd.mk (all_false_of (isIdB ids) l k hlt h)
            have hid : isIdB ids l[k] = inR l[k] 0 (ids - 1) := rfl
            generalize l[k] = y at *
            cases hq : inR y 0 (ids - 1) with
            | false =>
              have hp2 := hp'.out
              rw [(hfail (by rw [hid, hq])).out] at hp2
              simp at hp2
              subst hp2
              go_wp2_with (go_at_call 47; refine (s_l1In _ _ _ _).mono ?_; rintro e w' ⟨rfl, rfl⟩)
              go_ret
              exact ⟨rfl, hbw.out⟩
            | true =>
              go_wp2_with (go_at_call 47; refine (s_l1In _ _ _ _).mono ?_; rintro e w' ⟨rfl, rfl⟩)
              go_round
              case rel => exact ⟨k + 1, by omega, by go_num, ⟨by rw [hsn.out, hall.out, hid, hq]; rfl⟩⟩
              case measure => simp [intOf]; omega
          · have e : k = l.length := by omega
            subst e
            rw [List.take_length] at hall
            have hp2 := hp'.out
            rw [hall.out] at hp2
            have hR := Hd.mk hp2
            have hcls := hcl.out h0 h26
            clear hp2 hp' hn3 hN hcl
            rcases hcls with ⟨rfl, hn⟩ | ⟨rfl, hn⟩ | ⟨rfl, hn⟩ | ⟨rfl, hn⟩ | ⟨o21, o23, o24, o25, hn⟩
            · skip
              cases hwd : widthOk wd with
              | false =>
                have hwf : WF = false := by rw [hW.out]; simp [hwd]
                by_cases hw0 : wd = 0
                · subst hw0
                  have e : R = false := by rw [hR.out]; simp [hn, hwf]
                  subst e
                  go_wp2_with (first | (go_at_call 105; refine (s_WidthOk _ _).mono ?_; rintro e w' ⟨rfl, rfl⟩) | (go_at_call 76; refine (s_l1Value _ _ _).mono ?_; rintro e w' ⟨rfl, rfl⟩) | (go_at_call 47; refine (s_l1In _ _ _ _).mono ?_; rintro e w' ⟨rfl, rfl⟩))
                  go_ret
                  exact ⟨by first | rfl | simp, hbw.out⟩
                · have yw := beqF hw0
                  have e : R = false := by rw [hR.out]; simp [hn, hwf]
                  subst e
                  go_wp2_with (first | (go_at_call 105; refine (s_WidthOk _ _).mono ?_; rintro e w' ⟨rfl, rfl⟩) | (go_at_call 76; refine (s_l1Value _ _ _).mono ?_; rintro e w' ⟨rfl, rfl⟩) | (go_at_call 47; refine (s_l1In _ _ _ _).mono ?_; rintro e w' ⟨rfl, rfl⟩))
                  go_ret
                  exact ⟨by first | rfl | simp, hbw.out⟩
              | true =>
                have yw := widthOk_ne wd hwd
                have hwf : WF = true := by rw [hW.out]; simp [hwd]
                have hif : IF = isVal wd imm := hM.out
                by_cases za : a = 0
                rotate_left
                · have ya := bneT za
                  have e : R = false := by rw [hR.out]; simp [hn, hwf, za]
                  subst e
                  go_wp2_with (first | (go_at_call 105; refine (s_WidthOk _ _).mono ?_; rintro e w' ⟨rfl, rfl⟩) | (go_at_call 76; refine (s_l1Value _ _ _).mono ?_; rintro e w' ⟨rfl, rfl⟩) | (go_at_call 47; refine (s_l1In _ _ _ _).mono ?_; rintro e w' ⟨rfl, rfl⟩))
                  go_ret
                  exact ⟨by first | rfl | simp, hbw.out⟩
                subst za
                by_cases zb : b = 0
                rotate_left
                · have yb := bneT zb
                  have e : R = false := by rw [hR.out]; simp [hn, hwf, zb]
                  subst e
                  go_wp2_with (first | (go_at_call 105; refine (s_WidthOk _ _).mono ?_; rintro e w' ⟨rfl, rfl⟩) | (go_at_call 76; refine (s_l1Value _ _ _).mono ?_; rintro e w' ⟨rfl, rfl⟩) | (go_at_call 47; refine (s_l1In _ _ _ _).mono ?_; rintro e w' ⟨rfl, rfl⟩))
                  go_ret
                  exact ⟨by first | rfl | simp, hbw.out⟩
                subst zb
                by_cases zc0 : c0 = 0
                rotate_left
                · have yc0 := bneT zc0
                  have e : R = false := by rw [hR.out]; simp [hn, hwf, zc0]
                  subst e
                  go_wp2_with (first | (go_at_call 105; refine (s_WidthOk _ _).mono ?_; rintro e w' ⟨rfl, rfl⟩) | (go_at_call 76; refine (s_l1Value _ _ _).mono ?_; rintro e w' ⟨rfl, rfl⟩) | (go_at_call 47; refine (s_l1In _ _ _ _).mono ?_; rintro e w' ⟨rfl, rfl⟩))
                  go_ret
                  exact ⟨by first | rfl | simp, hbw.out⟩
                subst zc0
                have e : R = isVal wd imm := by rw [hR.out]; simp [hn, hwf, hif]
                subst e
                go_wp2_with (first | (go_at_call 105; refine (s_WidthOk _ _).mono ?_; rintro e w' ⟨rfl, rfl⟩) | (go_at_call 76; refine (s_l1Value _ _ _).mono ?_; rintro e w' ⟨rfl, rfl⟩) | (go_at_call 47; refine (s_l1In _ _ _ _).mono ?_; rintro e w' ⟨rfl, rfl⟩))
                go_ret
                exact ⟨by first | rfl | simp, hbw.out⟩
            · skip
              by_cases hw0 : wd = 0
              rotate_left
              · have hwf : WF = false := by rw [hW.out]; simp [hw0]
                have yw := beqF hw0
                have e : R = false := by rw [hR.out]; simp [hn, hwf]
                subst e
                go_wp2_with (first | (go_at_call 105; refine (s_WidthOk _ _).mono ?_; rintro e w' ⟨rfl, rfl⟩) | (go_at_call 76; refine (s_l1Value _ _ _).mono ?_; rintro e w' ⟨rfl, rfl⟩) | (go_at_call 47; refine (s_l1In _ _ _ _).mono ?_; rintro e w' ⟨rfl, rfl⟩))
                go_ret
                exact ⟨by first | rfl | simp, hbw.out⟩
              have hwf : WF = true := by rw [hW.out]; simp [hw0]
              have hif : IF = (imm == 0) := hM.out
              subst hw0
              by_cases zc0 : c0 = 0
              rotate_left
              · have yc0 := bneT zc0
                have e : R = false := by rw [hR.out]; simp [hn, hwf, zc0]
                subst e
                go_wp2_with (first | (go_at_call 105; refine (s_WidthOk _ _).mono ?_; rintro e w' ⟨rfl, rfl⟩) | (go_at_call 76; refine (s_l1Value _ _ _).mono ?_; rintro e w' ⟨rfl, rfl⟩) | (go_at_call 47; refine (s_l1In _ _ _ _).mono ?_; rintro e w' ⟨rfl, rfl⟩))
                go_ret
                exact ⟨by first | rfl | simp, hbw.out⟩
              subst zc0
              have e : R = (imm == 0) := by rw [hR.out]; simp [hn, hwf, hif]
              subst e
              go_wp2_with (first | (go_at_call 105; refine (s_WidthOk _ _).mono ?_; rintro e w' ⟨rfl, rfl⟩) | (go_at_call 76; refine (s_l1Value _ _ _).mono ?_; rintro e w' ⟨rfl, rfl⟩) | (go_at_call 47; refine (s_l1In _ _ _ _).mono ?_; rintro e w' ⟨rfl, rfl⟩))
              go_ret
              exact ⟨by first | rfl | simp, hbw.out⟩
            · skip
              by_cases hw0 : wd = 0
              rotate_left
              · have hwf : WF = false := by rw [hW.out]; simp [hw0]
                have yw := beqF hw0
                have e : R = false := by rw [hR.out]; simp [hn, hwf]
                subst e
                go_wp2_with (first | (go_at_call 105; refine (s_WidthOk _ _).mono ?_; rintro e w' ⟨rfl, rfl⟩) | (go_at_call 76; refine (s_l1Value _ _ _).mono ?_; rintro e w' ⟨rfl, rfl⟩) | (go_at_call 47; refine (s_l1In _ _ _ _).mono ?_; rintro e w' ⟨rfl, rfl⟩))
                go_ret
                exact ⟨by first | rfl | simp, hbw.out⟩
              have hwf : WF = true := by rw [hW.out]; simp [hw0]
              have hif : IF = (imm == 0) := hM.out
              subst hw0
              by_cases zb : b = 0
              rotate_left
              · have yb := bneT zb
                have e : R = false := by rw [hR.out]; simp [hn, hwf, zb]
                subst e
                go_wp2_with (first | (go_at_call 105; refine (s_WidthOk _ _).mono ?_; rintro e w' ⟨rfl, rfl⟩) | (go_at_call 76; refine (s_l1Value _ _ _).mono ?_; rintro e w' ⟨rfl, rfl⟩) | (go_at_call 47; refine (s_l1In _ _ _ _).mono ?_; rintro e w' ⟨rfl, rfl⟩))
                go_ret
                exact ⟨by first | rfl | simp, hbw.out⟩
              subst zb
              by_cases zc0 : c0 = 0
              rotate_left
              · have yc0 := bneT zc0
                have e : R = false := by rw [hR.out]; simp [hn, hwf, zc0]
                subst e
                go_wp2_with (first | (go_at_call 105; refine (s_WidthOk _ _).mono ?_; rintro e w' ⟨rfl, rfl⟩) | (go_at_call 76; refine (s_l1Value _ _ _).mono ?_; rintro e w' ⟨rfl, rfl⟩) | (go_at_call 47; refine (s_l1In _ _ _ _).mono ?_; rintro e w' ⟨rfl, rfl⟩))
                go_ret
                exact ⟨by first | rfl | simp, hbw.out⟩
              subst zc0
              have e : R = (imm == 0) := by rw [hR.out]; simp [hn, hwf, hif]
              subst e
              go_wp2_with (first | (go_at_call 105; refine (s_WidthOk _ _).mono ?_; rintro e w' ⟨rfl, rfl⟩) | (go_at_call 76; refine (s_l1Value _ _ _).mono ?_; rintro e w' ⟨rfl, rfl⟩) | (go_at_call 47; refine (s_l1In _ _ _ _).mono ?_; rintro e w' ⟨rfl, rfl⟩))
              go_ret
              exact ⟨by first | rfl | simp, hbw.out⟩
            · skip
              cases hwd : widthOk wd with
              | false =>
                have hwf : WF = false := by rw [hW.out]; simp; intro h; subst h; cases hwd
                by_cases hw0 : wd = 0
                · subst hw0
                  have e : R = false := by rw [hR.out]; simp [hn, hwf]
                  subst e
                  go_wp2_with (first | (go_at_call 105; refine (s_WidthOk _ _).mono ?_; rintro e w' ⟨rfl, rfl⟩) | (go_at_call 76; refine (s_l1Value _ _ _).mono ?_; rintro e w' ⟨rfl, rfl⟩) | (go_at_call 47; refine (s_l1In _ _ _ _).mono ?_; rintro e w' ⟨rfl, rfl⟩))
                  go_ret
                  exact ⟨by first | rfl | simp, hbw.out⟩
                · have yw := beqF hw0
                  have e : R = false := by rw [hR.out]; simp [hn, hwf]
                  subst e
                  go_wp2_with (first | (go_at_call 105; refine (s_WidthOk _ _).mono ?_; rintro e w' ⟨rfl, rfl⟩) | (go_at_call 76; refine (s_l1Value _ _ _).mono ?_; rintro e w' ⟨rfl, rfl⟩) | (go_at_call 47; refine (s_l1In _ _ _ _).mono ?_; rintro e w' ⟨rfl, rfl⟩))
                  go_ret
                  exact ⟨by first | rfl | simp, hbw.out⟩
              | true =>
                have yw := widthOk_ne wd hwd
                have hwf : WF = (wd == 8) := hW.out
                have hif : IF = (imm == 0) := hM.out
                by_cases zb : b = 0
                rotate_left
                · have yb := bneT zb
                  have e : R = false := by rw [hR.out]; simp [hn, hwf, zb]
                  subst e
                  go_wp2_with (first | (go_at_call 105; refine (s_WidthOk _ _).mono ?_; rintro e w' ⟨rfl, rfl⟩) | (go_at_call 76; refine (s_l1Value _ _ _).mono ?_; rintro e w' ⟨rfl, rfl⟩) | (go_at_call 47; refine (s_l1In _ _ _ _).mono ?_; rintro e w' ⟨rfl, rfl⟩))
                  go_ret
                  exact ⟨by first | rfl | simp, hbw.out⟩
                subst zb
                by_cases zc0 : c0 = 0
                rotate_left
                · have yc0 := bneT zc0
                  have e : R = false := by rw [hR.out]; simp [hn, hwf, zc0]
                  subst e
                  go_wp2_with (first | (go_at_call 105; refine (s_WidthOk _ _).mono ?_; rintro e w' ⟨rfl, rfl⟩) | (go_at_call 76; refine (s_l1Value _ _ _).mono ?_; rintro e w' ⟨rfl, rfl⟩) | (go_at_call 47; refine (s_l1In _ _ _ _).mono ?_; rintro e w' ⟨rfl, rfl⟩))
                  go_ret
                  exact ⟨by first | rfl | simp, hbw.out⟩
                subst zc0
                by_cases h8 : wd = 8
                · subst h8
                  have e : R = (imm == 0) := by rw [hR.out]; simp [hn, hwf, hif]
                  subst e
                  go_wp2_with (first | (go_at_call 105; refine (s_WidthOk _ _).mono ?_; rintro e w' ⟨rfl, rfl⟩) | (go_at_call 76; refine (s_l1Value _ _ _).mono ?_; rintro e w' ⟨rfl, rfl⟩) | (go_at_call 47; refine (s_l1In _ _ _ _).mono ?_; rintro e w' ⟨rfl, rfl⟩))
                  go_ret
                  exact ⟨by first | rfl | simp, hbw.out⟩
                · have y8 := beqF h8
                  have e : R = false := by rw [hR.out]; simp [hn, hwf, y8]
                  subst e
                  go_wp2_with (first | (go_at_call 105; refine (s_WidthOk _ _).mono ?_; rintro e w' ⟨rfl, rfl⟩) | (go_at_call 76; refine (s_l1Value _ _ _).mono ?_; rintro e w' ⟨rfl, rfl⟩) | (go_at_call 47; refine (s_l1In _ _ _ _).mono ?_; rintro e w' ⟨rfl, rfl⟩))
                  go_ret
                  exact ⟨by first | rfl | simp, hbw.out⟩
            · have b21 := beqF o21
              have b23 := beqF o23
              have b24 := beqF o24
              have b25 := beqF o25
              rcases hn with hn | hn | hn
              · skip
                cases hwd : widthOk wd with
                | false =>
                  have hwf : WF = false := by rw [hW.out]; simp [hwd, b21, b23, b24, b25, c26]
                  by_cases hw0 : wd = 0
                  · subst hw0
                    have e : R = false := by rw [hR.out]; simp [hn, hwf]
                    subst e
                    go_wp2_with (first | (go_at_call 105; refine (s_WidthOk _ _).mono ?_; rintro e w' ⟨rfl, rfl⟩) | (go_at_call 76; refine (s_l1Value _ _ _).mono ?_; rintro e w' ⟨rfl, rfl⟩) | (go_at_call 47; refine (s_l1In _ _ _ _).mono ?_; rintro e w' ⟨rfl, rfl⟩))
                    go_ret
                    exact ⟨by first | rfl | simp, hbw.out⟩
                  · have yw := beqF hw0
                    have e : R = false := by rw [hR.out]; simp [hn, hwf]
                    subst e
                    go_wp2_with (first | (go_at_call 105; refine (s_WidthOk _ _).mono ?_; rintro e w' ⟨rfl, rfl⟩) | (go_at_call 76; refine (s_l1Value _ _ _).mono ?_; rintro e w' ⟨rfl, rfl⟩) | (go_at_call 47; refine (s_l1In _ _ _ _).mono ?_; rintro e w' ⟨rfl, rfl⟩))
                    go_ret
                    exact ⟨by first | rfl | simp, hbw.out⟩
                | true =>
                  have yw := widthOk_ne wd hwd
                  have hwf : WF = true := by rw [hW.out]; simp [hwd, b21, b23, b24, b25, c26]
                  have hif : IF = (imm == 0) := by rw [hM.out]; simp [b21, b23, b24, b25, c26]
                  by_cases zb : b = 0
                  rotate_left
                  · have yb := bneT zb
                    have e : R = false := by rw [hR.out]; simp [hn, hwf, zb]
                    subst e
                    go_wp2_with (first | (go_at_call 105; refine (s_WidthOk _ _).mono ?_; rintro e w' ⟨rfl, rfl⟩) | (go_at_call 76; refine (s_l1Value _ _ _).mono ?_; rintro e w' ⟨rfl, rfl⟩) | (go_at_call 47; refine (s_l1In _ _ _ _).mono ?_; rintro e w' ⟨rfl, rfl⟩))
                    go_ret
                    exact ⟨by first | rfl | simp, hbw.out⟩
                  subst zb
                  by_cases zc0 : c0 = 0
                  rotate_left
                  · have yc0 := bneT zc0
                    have e : R = false := by rw [hR.out]; simp [hn, hwf, zc0]
                    subst e
                    go_wp2_with (first | (go_at_call 105; refine (s_WidthOk _ _).mono ?_; rintro e w' ⟨rfl, rfl⟩) | (go_at_call 76; refine (s_l1Value _ _ _).mono ?_; rintro e w' ⟨rfl, rfl⟩) | (go_at_call 47; refine (s_l1In _ _ _ _).mono ?_; rintro e w' ⟨rfl, rfl⟩))
                    go_ret
                    exact ⟨by first | rfl | simp, hbw.out⟩
                  subst zc0
                  have e : R = (imm == 0) := by rw [hR.out]; simp [hn, hwf, hif]
                  subst e
                  go_wp2_with (first | (go_at_call 105; refine (s_WidthOk _ _).mono ?_; rintro e w' ⟨rfl, rfl⟩) | (go_at_call 76; refine (s_l1Value _ _ _).mono ?_; rintro e w' ⟨rfl, rfl⟩) | (go_at_call 47; refine (s_l1In _ _ _ _).mono ?_; rintro e w' ⟨rfl, rfl⟩))
                  go_ret
                  exact ⟨by first | rfl | simp, hbw.out⟩
              · skip
                cases hwd : widthOk wd with
                | false =>
                  have hwf : WF = false := by rw [hW.out]; simp [hwd, b21, b23, b24, b25, c26]
                  by_cases hw0 : wd = 0
                  · subst hw0
                    have e : R = false := by rw [hR.out]; simp [hn, hwf]
                    subst e
                    go_wp2_with (first | (go_at_call 105; refine (s_WidthOk _ _).mono ?_; rintro e w' ⟨rfl, rfl⟩) | (go_at_call 76; refine (s_l1Value _ _ _).mono ?_; rintro e w' ⟨rfl, rfl⟩) | (go_at_call 47; refine (s_l1In _ _ _ _).mono ?_; rintro e w' ⟨rfl, rfl⟩))
                    go_ret
                    exact ⟨by first | rfl | simp, hbw.out⟩
                  · have yw := beqF hw0
                    have e : R = false := by rw [hR.out]; simp [hn, hwf]
                    subst e
                    go_wp2_with (first | (go_at_call 105; refine (s_WidthOk _ _).mono ?_; rintro e w' ⟨rfl, rfl⟩) | (go_at_call 76; refine (s_l1Value _ _ _).mono ?_; rintro e w' ⟨rfl, rfl⟩) | (go_at_call 47; refine (s_l1In _ _ _ _).mono ?_; rintro e w' ⟨rfl, rfl⟩))
                    go_ret
                    exact ⟨by first | rfl | simp, hbw.out⟩
                | true =>
                  have yw := widthOk_ne wd hwd
                  have hwf : WF = true := by rw [hW.out]; simp [hwd, b21, b23, b24, b25, c26]
                  have hif : IF = (imm == 0) := by rw [hM.out]; simp [b21, b23, b24, b25, c26]
                  by_cases zc0 : c0 = 0
                  rotate_left
                  · have yc0 := bneT zc0
                    have e : R = false := by rw [hR.out]; simp [hn, hwf, zc0]
                    subst e
                    go_wp2_with (first | (go_at_call 105; refine (s_WidthOk _ _).mono ?_; rintro e w' ⟨rfl, rfl⟩) | (go_at_call 76; refine (s_l1Value _ _ _).mono ?_; rintro e w' ⟨rfl, rfl⟩) | (go_at_call 47; refine (s_l1In _ _ _ _).mono ?_; rintro e w' ⟨rfl, rfl⟩))
                    go_ret
                    exact ⟨by first | rfl | simp, hbw.out⟩
                  subst zc0
                  have e : R = (imm == 0) := by rw [hR.out]; simp [hn, hwf, hif]
                  subst e
                  go_wp2_with (first | (go_at_call 105; refine (s_WidthOk _ _).mono ?_; rintro e w' ⟨rfl, rfl⟩) | (go_at_call 76; refine (s_l1Value _ _ _).mono ?_; rintro e w' ⟨rfl, rfl⟩) | (go_at_call 47; refine (s_l1In _ _ _ _).mono ?_; rintro e w' ⟨rfl, rfl⟩))
                  go_ret
                  exact ⟨by first | rfl | simp, hbw.out⟩
              · skip
                cases hwd : widthOk wd with
                | false =>
                  have hwf : WF = false := by rw [hW.out]; simp [hwd, b21, b23, b24, b25, c26]
                  by_cases hw0 : wd = 0
                  · subst hw0
                    have e : R = false := by rw [hR.out]; simp [hn, hwf]
                    subst e
                    go_wp2_with (first | (go_at_call 105; refine (s_WidthOk _ _).mono ?_; rintro e w' ⟨rfl, rfl⟩) | (go_at_call 76; refine (s_l1Value _ _ _).mono ?_; rintro e w' ⟨rfl, rfl⟩) | (go_at_call 47; refine (s_l1In _ _ _ _).mono ?_; rintro e w' ⟨rfl, rfl⟩))
                    go_ret
                    exact ⟨by first | rfl | simp, hbw.out⟩
                  · have yw := beqF hw0
                    have e : R = false := by rw [hR.out]; simp [hn, hwf]
                    subst e
                    go_wp2_with (first | (go_at_call 105; refine (s_WidthOk _ _).mono ?_; rintro e w' ⟨rfl, rfl⟩) | (go_at_call 76; refine (s_l1Value _ _ _).mono ?_; rintro e w' ⟨rfl, rfl⟩) | (go_at_call 47; refine (s_l1In _ _ _ _).mono ?_; rintro e w' ⟨rfl, rfl⟩))
                    go_ret
                    exact ⟨by first | rfl | simp, hbw.out⟩
                | true =>
                  have yw := widthOk_ne wd hwd
                  have hwf : WF = true := by rw [hW.out]; simp [hwd, b21, b23, b24, b25, c26]
                  have hif : IF = (imm == 0) := by rw [hM.out]; simp [b21, b23, b24, b25, c26]
                  have e : R = (imm == 0) := by rw [hR.out]; simp [hn, hwf, hif]
                  subst e
                  go_wp2_with (first | (go_at_call 105; refine (s_WidthOk _ _).mono ?_; rintro e w' ⟨rfl, rfl⟩) | (go_at_call 76; refine (s_l1Value _ _ _).mono ?_; rintro e w' ⟨rfl, rfl⟩) | (go_at_call 47; refine (s_l1In _ _ _ _).mono ?_; rintro e w' ⟨rfl, rfl⟩))
                  go_ret
                  exact ⟨by first | rfl | simp, hbw.out⟩
      · have hN2 := hN.out
        simp at hN2
        subst hN2
        go_enter Tryz.func145, Tryz.ntmps145
        go_wp2_with fail
        refine (s_l1In _ _ _ _).mono ?_; rintro e w' ⟨rfl, rfl⟩
        go_wp2_with fail
        refine (hops _ _ (hv0.out.mv (hbl _))).mono ?_; rintro e w1 ⟨v', rfl, ho1, hb1⟩
        obtain ⟨A1, c1, rfl, -, -, hr1⟩ := (own_ints (L := lm) ho1 (by simp only [lm]; omega)).2.sm
        have k0 := bat hb1 w.heap.size (by simp)
        simp at k0
        have hbw := Hd.mk ((hbl _).then hb1)
        clear hb1 ho1 hops
        go_wp2
        go_loop [8] (fun s8 => ∃ k : Nat, k ≤ l.length ∧ s8 = .int .i64 k ∧ Hd ((l.take k).all (isIdB ids) = true)) (fun s8 => l.length - (intOf s8).toNat)
        case atStart => exact ⟨0, Nat.zero_le _, rfl, ⟨by simp⟩⟩
        case round =>
          obtain ⟨k, hk, rfl, hall⟩ := hrel
          by_cases hlt : k < l.length
          · obtain ⟨b1, off1, cs1, hA, hbl1, hk1, hat⟩ := hr1.out.in0 (Below.refl _ _) k hlt
            cases hA
            cases hk1
            have g0 := hat 0 _ rfl
            simp at g0
            clear hat
            have hsn := Hd.mk (all_take_snoc (isIdB ids) l k hlt)
            have hfail := fun h => Hd.mk (all_false_of (isIdB ids) l k hlt h)
            have hid : isIdB ids l[k] = inR l[k] 0 (ids - 1) := rfl
            generalize l[k] = y at *
            cases hq : inR y 0 (ids - 1) with
            | false =>
              have hp2 := hp'.out
              rw [(hfail (by rw [hid, hq])).out] at hp2
              simp at hp2
              subst hp2
              go_wp2_with (go_at_call 47; refine (s_l1In _ _ _ _).mono ?_; rintro e w' ⟨rfl, rfl⟩)
              go_ret
              exact ⟨rfl, hbw.out⟩
            | true =>
              go_wp2_with (go_at_call 47; refine (s_l1In _ _ _ _).mono ?_; rintro e w' ⟨rfl, rfl⟩)
              go_round
              case rel => exact ⟨k + 1, by omega, by go_num, ⟨by rw [hsn.out, hall.out, hid, hq]; rfl⟩⟩
              case measure => simp [intOf]; omega
          · have e : k = l.length := by omega
            subst e
            rw [List.take_length] at hall
            have hp2 := hp'.out
            rw [hall.out] at hp2
            have hR := Hd.mk hp2
            clear hp2 hp' hn3 hN hcl
            cases hwd : widthOk wd with
            | false =>
              have hwf : WF = false := by rw [hW.out]; simp [hwd]
              by_cases hw0 : wd = 0
              · subst hw0
                have e : R = false := by rw [hR.out]; simp [hwf]
                subst e
                go_wp2_with (first | (go_at_call 105; refine (s_WidthOk _ _).mono ?_; rintro e w' ⟨rfl, rfl⟩) | (go_at_call 76; refine (s_l1Value _ _ _).mono ?_; rintro e w' ⟨rfl, rfl⟩) | (go_at_call 47; refine (s_l1In _ _ _ _).mono ?_; rintro e w' ⟨rfl, rfl⟩))
                go_ret
                exact ⟨by first | rfl | simp, hbw.out⟩
              · have yw := beqF hw0
                have e : R = false := by rw [hR.out]; simp [hwf]
                subst e
                go_wp2_with (first | (go_at_call 105; refine (s_WidthOk _ _).mono ?_; rintro e w' ⟨rfl, rfl⟩) | (go_at_call 76; refine (s_l1Value _ _ _).mono ?_; rintro e w' ⟨rfl, rfl⟩) | (go_at_call 47; refine (s_l1In _ _ _ _).mono ?_; rintro e w' ⟨rfl, rfl⟩))
                go_ret
                exact ⟨by first | rfl | simp, hbw.out⟩
            | true =>
              have yw := widthOk_ne wd hwd
              have hwf : WF = true := by rw [hW.out]; simp [hwd]
              have hif : IF = inR imm 0 (funcs - 1) := hM.out
              by_cases h4 : 4 < args.length
              · have hPr := hpre'.out
                rw [show decide (args.length ≤ 4) = false by simp; omega] at hPr
                have d4 : decide (4 < (args.length : Int)) = true := by simp; omega
                have e : R = false := by rw [hR.out]; simp [hPr]
                subst e
                go_wp2_with (first | (go_at_call 105; refine (s_WidthOk _ _).mono ?_; rintro e w' ⟨rfl, rfl⟩) | (go_at_call 76; refine (s_l1Value _ _ _).mono ?_; rintro e w' ⟨rfl, rfl⟩) | (go_at_call 47; refine (s_l1In _ _ _ _).mono ?_; rintro e w' ⟨rfl, rfl⟩))
                go_ret
                exact ⟨by first | rfl | simp, hbw.out⟩
              have hPr := hpre'.out
              rw [show decide (args.length ≤ 4) = true by simp; omega] at hPr
              have d4 : decide (4 < (args.length : Int)) = false := by simp; omega
              subst hPr
              by_cases za : a = 0
              rotate_left
              · have ya := bneT za
                have e : R = false := by rw [hR.out]; simp [hwf, za]
                subst e
                go_wp2_with (first | (go_at_call 105; refine (s_WidthOk _ _).mono ?_; rintro e w' ⟨rfl, rfl⟩) | (go_at_call 76; refine (s_l1Value _ _ _).mono ?_; rintro e w' ⟨rfl, rfl⟩) | (go_at_call 47; refine (s_l1In _ _ _ _).mono ?_; rintro e w' ⟨rfl, rfl⟩))
                go_ret
                exact ⟨by first | rfl | simp, hbw.out⟩
              subst za
              by_cases zb : b = 0
              rotate_left
              · have yb := bneT zb
                have e : R = false := by rw [hR.out]; simp [hwf, zb]
                subst e
                go_wp2_with (first | (go_at_call 105; refine (s_WidthOk _ _).mono ?_; rintro e w' ⟨rfl, rfl⟩) | (go_at_call 76; refine (s_l1Value _ _ _).mono ?_; rintro e w' ⟨rfl, rfl⟩) | (go_at_call 47; refine (s_l1In _ _ _ _).mono ?_; rintro e w' ⟨rfl, rfl⟩))
                go_ret
                exact ⟨by first | rfl | simp, hbw.out⟩
              subst zb
              by_cases zc0 : c0 = 0
              rotate_left
              · have yc0 := bneT zc0
                have e : R = false := by rw [hR.out]; simp [hwf, zc0]
                subst e
                go_wp2_with (first | (go_at_call 105; refine (s_WidthOk _ _).mono ?_; rintro e w' ⟨rfl, rfl⟩) | (go_at_call 76; refine (s_l1Value _ _ _).mono ?_; rintro e w' ⟨rfl, rfl⟩) | (go_at_call 47; refine (s_l1In _ _ _ _).mono ?_; rintro e w' ⟨rfl, rfl⟩))
                go_ret
                exact ⟨by first | rfl | simp, hbw.out⟩
              subst zc0
              have e : R = inR imm 0 (funcs - 1) := by rw [hR.out]; simp [hwf, hif]
              subst e
              go_wp2_with (first | (go_at_call 105; refine (s_WidthOk _ _).mono ?_; rintro e w' ⟨rfl, rfl⟩) | (go_at_call 76; refine (s_l1Value _ _ _).mono ?_; rintro e w' ⟨rfl, rfl⟩) | (go_at_call 47; refine (s_l1In _ _ _ _).mono ?_; rintro e w' ⟨rfl, rfl⟩))
              go_ret
              exact ⟨by first | rfl | simp, hbw.out⟩
end Go.Proofs.YtkcgejbnhpccdaaGreat
set_option linter.unusedSimpArgs false
set_option linter.unusedVariables false
namespace Go.Proofs.YtkcgejbnhpccdaaGreat
open Go.RowKit
set_option maxHeartbeats 4000000 in
set_option maxRecDepth 100000 in
theorem e_FuncS (v u : Value) (xs ys : List XFunc) (w : World) (hv : Rd lm 3 (KFunc lm) w v xs) (hu : Rd lm 3 (KFunc lm) w u ys) : Calls Tryz.prog 65 #[v, u] w (Ret (.bool (decide (xs = ys))) w) := by
  obtain ⟨A1, c1, rfl, -, hl1, hv0⟩ := hv.sm
  obtain ⟨A2, c2, rfl, -, hl2, hu0⟩ := hu.sm
  clear hv hu
  by_cases hlen : xs.length = ys.length
  rotate_left
  · rw [decide_eq_false (len_ne hlen)]
    have d : ((xs.length : Int) != (ys.length : Int)) = true := by simp; omega
    go_enter Tryz.func65, Tryz.ntmps65
    go_wp2
    go_ret
    exact ⟨rfl, Below.refl _ _⟩
  obtain ⟨n, hn⟩ : ∃ n, n = xs.length := ⟨_, rfl⟩
  have hn2 : n = ys.length := hn.trans hlen
  rw [← hn, ← hn2]
  rw [← hn] at hv0 hl1
  rw [← hn2] at hu0
  have hn' := Hd.mk hn
  have hn2' := Hd.mk hn2
  clear hn hn2 hlen hl2
  go_enter Tryz.func65, Tryz.ntmps65
  go_wp2
  go_loopw [5] (fun s5 wr => ∃ k : Nat, k ≤ n ∧ s5 = .int .i64 k ∧ Hd (xs.take k = ys.take k) ∧ Hd (Below w.heap.size w wr)) (fun s5 _ => n - (intOf s5).toNat)
  case atStart => exact ⟨0, Nat.zero_le _, rfl, ⟨by simp⟩, ⟨Below.refl _ _⟩⟩
  case round =>
    obtain ⟨k, hk, rfl, hall, hbr⟩ := hrel
    by_cases hlt : k < n
    · obtain ⟨b, off, cs, hA, hbl, ⟨v1, v2, rfl, r1, r2⟩, hat⟩ := hv0.out.in0 hbr.out k (by have := hn'.out; omega)
      cases hA
      have g0 := hat 0 _ rfl
      have g1 := hat 1 _ rfl
      have g2 := hat 2 _ rfl
      simp at g0 g1 g2
      clear hat
      obtain ⟨b2, off2, cs, hA, hbl2, ⟨u1, u2, rfl, s1, s2⟩, hat⟩ := hu0.out.in0 hbr.out k (by have := hn2'.out; omega)
      cases hA
      have f0 := hat 0 _ rfl
      have f1 := hat 1 _ rfl
      have f2 := hat 2 _ rfl
      simp at f0 f1 f2
      clear hat
      have hz : (k : Int) < (n : Int) := by omega
      have hz0 : (0 : Int) ≤ (k : Int) := by omega
      have hex0 := fun W (hW : Below wr.heap.size wr W) => e_Func (xs[k]'(by have := hn'.out; omega)) (ys[k]'(by have := hn2'.out; omega)) _ _ W ⟨v1, v2, rfl, r1.mv (hbr.out.then hW), r2.mv (hbr.out.then hW)⟩ ⟨u1, u2, rfl, s1.mv (hbr.out.then hW), s2.mv (hbr.out.then hW)⟩
      have hdr : Below wr.heap.size wr wr.drew := (Below.refl _ _).drew
      by_cases he : xs[k]'(by have := hn'.out; omega) = ys[k]'(by have := hn2'.out; omega)
      · have ht := Hd.mk (take_eq hall.out (by have := hn'.out; omega) (by have := hn2'.out; omega) he)
        simp only [decide_eq_true he] at hex0
        have hex := Hd.mk hex0
        clear he hex0
        generalize xs[k]'_ = x at *
        generalize ys[k]'_ = y at *
        go_wp2
        go_still_tail 8, (by kernel_rfl)
        change wpList _ _ _ _ _ wr.drew
        go_wp2_with fail
        refine (hex.out _ hdr).mono ?_; rintro e w1 ⟨rfl, hb1⟩
        have hbz := Hd.mk (hbr.out.then (hdr.then hb1))
        clear hb1 hex hdr
        go_wp2
        go_roundw
        case rel => exact ⟨k + 1, by omega, by go_num, ht, hbz⟩
        case measure => simp [intOf]; omega
      · have hne := Hd.mk (el_ne _ _ he)
        simp only [decide_eq_false he] at hex0
        have hex := Hd.mk hex0
        clear he hex0
        generalize xs[k]'_ = x at *
        generalize ys[k]'_ = y at *
        go_wp2
        go_still_tail 8, (by kernel_rfl)
        change wpList _ _ _ _ _ wr.drew
        go_wp2_with fail
        refine (hex.out _ hdr).mono ?_; rintro e w1 ⟨rfl, hb1⟩
        have hbz := Hd.mk (hbr.out.then (hdr.then hb1))
        clear hb1 hex hdr
        go_wp2
        go_ret
        exact ⟨by rw [decide_eq_false hne.out]; rfl, hbz.out⟩
    · have e : k = n := by omega
      subst e
      go_wp2
      go_ret
      exact ⟨by rw [decide_eq_true (take_all hall.out hn'.out hn2'.out)]; rfl, hbr.out⟩

set_option maxHeartbeats 1000000 in
theorem e_Mod (x y : XMod) (cs ds : List Value) (w : World) (hx : KMod lm w x cs) (hy : KMod lm w y ds) : Calls Tryz.prog 32 #[.agg cs.toArray, .agg ds.toArray] w (Ret (.bool (decide (x = y))) w) := by
  obtain ⟨v1, rfl, r1⟩ := hx
  obtain ⟨u1, rfl, s1⟩ := hy
  have hbl := fun o o' => ((Below.refl w.heap.size w).al (Nat.le_refl _) o).al (by simp) o'
  obtain ⟨xf⟩ := x
  obtain ⟨yf⟩ := y
  simp only at *
  have z1 := fun W hW => e_FuncS v1 u1 xf yf W (r1.mv hW) (s1.mv hW)
  by_cases h : xf = yf
  · rw [decide_eq_true (by rw [h])]
    simp only [decide_eq_true h] at z1
    clear h
    go_enter Tryz.func32, Tryz.ntmps32
    go_wp2_with fail
    refine (z1 _ (hbl _ _)).mono ?_; rintro e w1 ⟨rfl, hb1⟩
    go_wp2
    go_ret
    exact ⟨rfl, (hbl _ _).then hb1⟩
  · rw [decide_eq_false (by intro e; injection e; contradiction)]
    simp only [decide_eq_false h] at z1
    clear h
    go_enter Tryz.func32, Tryz.ntmps32
    go_wp2_with fail
    refine (z1 _ (hbl _ _)).mono ?_; rintro e w1 ⟨rfl, hb1⟩
    go_wp2
    go_ret
    exact ⟨rfl, (hbl _ _).then hb1⟩
end Go.Proofs.YtkcgejbnhpccdaaGreat
set_option linter.unusedSimpArgs false
set_option linter.unusedVariables false
namespace Go.Proofs.YtkcgejbnhpccdaaGreat
open Go.RowKit
abbrev OwFunc (lo : Nat) (w : World) (v : Value) (xs : List XFunc) : Prop := Own lo 35 3 (OFunc lo) w v xs
def OMod (lo : Nat) (w : World) (x : XMod) (cs : List Value) : Prop := ∃ v, cs = [v] ∧ OwFunc lo w v x.funcs
instance : KA OMod := ⟨fun ⟨v, h, r⟩ hb => ⟨v, h, r.abv hb⟩, fun ⟨v, h, r⟩ hl => ⟨v, h, r.low hl⟩⟩
theorem infoFunc : (Tryz.prog.info? 35).map (fun i => (i.zero, i.size, i.bytes)) = some (some (.agg #[.slice none 0 0, .int .i64 0, .slice none 0 0]), 3, 56) := by kernel_rfl
set_option maxHeartbeats 4000000 in
theorem t_FuncS (v : Value) (x : List XFunc) (w : World) (hv : Rd lm 3 (KFunc lm) w v x) : Calls Tryz.prog 64 #[v] w (RetL 35 3 OFunc x w) := by
  obtain ⟨A, c, rfl, -, hl, hv0⟩ := hv.sm
  clear hv
  have hmk := mk_run 36 35 (.agg #[.slice none 0 0, .int .i64 0, .slice none 0 0]) 3 56 x.length Tryz.underlying36 infoFunc (by omega) (by omega)
  go_enter Tryz.func64, Tryz.ntmps64
  go_wp2
  have hst := Hd.mk (mk_own w w.heap.size 35 3 x.length #[.slice none 0 0, .int .i64 0, .slice none 0 0] (Nat.le_refl _) (by unfold maxLen; omega))
  clear hmk
  generalize hmc : madeCells #[.slice none 0 0, .int .i64 0, .slice none 0 0] (x.length * 3) = mc at *
  clear hmc
  go_loopw [4] (fun s4 wr => ∃ k : Nat, ∃ cells, k ≤ x.length ∧ s4 = .int .i64 k ∧ Hd (wr.ownsRow w.heap.size 35 3 (.slice (some ⟨w.heap.size, 0, none⟩) x.length x.length) x.length cells) ∧ Hd (Els 3 (OFunc (w.heap.size + 1) wr) cells x k) ∧ Hd (Below w.heap.size w wr)) (fun s4 _ => x.length - (intOf s4).toNat)
  case atStart => exact ⟨0, _, Nat.zero_le _, rfl, hst, ⟨Els.nil _ _ _ _⟩, ⟨(Below.refl _ _).al (Nat.le_refl _) _⟩⟩
  case round =>
    clear hst
    obtain ⟨k, cells, hk, rfl, ho, hels, hbr⟩ := hrel
    by_cases hlt : k < x.length
    · obtain ⟨b, off, cs, hA, hbl, hkk, hat⟩ := hv0.out.in0 hbr.out k hlt
      cases hA
      have hsm := Hd.mk hbr.out.size
      have htc := fun W hW => t_Func x[k] cs W (KM.mv hkk (hbr.out.then hW))
      obtain ⟨vparams, vblocks, rfl, hparams, hblocks⟩ := hkk
      obtain ⟨Aparams, cparams, rfl, -, hlparams, -⟩ := hparams.sm
      obtain ⟨Ablocks, cblocks, rfl, -, hlblocks, -⟩ := hblocks.sm
      have g0 := hat 0 _ rfl
      have g1 := hat 1 _ rfl
      have g2 := hat 2 _ rfl
      simp at g0 g1 g2
      clear hat
      have hG := Hd.mk (own_lt ho.out)
      obtain ⟨u0, q0⟩ := own_cell ho.out (k * 3) (by omega)
      have z0 := World.ownsRow.frozenAt ho.out (k * 3)
      obtain ⟨u1, q1⟩ := own_cell ho.out (k * 3 + 1) (by omega)
      have z1 := World.ownsRow.frozenAt ho.out (k * 3 + 1)
      obtain ⟨u2, q2⟩ := own_cell ho.out (k * 3 + 2) (by omega)
      have z2 := World.ownsRow.frozenAt ho.out (k * 3 + 2)
      go_wp2_with fail
      refine (htc _ (Below.refl _ _)).mono ?_; rintro e w1 ⟨cs1, rfl, hcs, hb1⟩
      obtain ⟨nparams, nblocks, rfl, rparams, rblocks⟩ := hcs
      obtain ⟨Bparams, dparams, rfl, pparams⟩ := own_sw rparams
      clear rparams
      obtain ⟨Bblocks, dblocks, rfl, pblocks⟩ := own_sw rblocks
      clear rblocks
      replace q0 := (bat hb1 w.heap.size hG.out.2 (k * 3)).trans q0
      replace z0 := (fat hb1 w.heap.size hG.out.2 (k * 3)).trans z0
      replace q1 := (bat hb1 w.heap.size hG.out.2 (k * 3 + 1)).trans q1
      replace z1 := (fat hb1 w.heap.size hG.out.2 (k * 3 + 1)).trans z1
      replace q2 := (bat hb1 w.heap.size hG.out.2 (k * 3 + 2)).trans q2
      replace z2 := (fat hb1 w.heap.size hG.out.2 (k * 3 + 2)).trans z2
      go_wp2
      go_roundw
      case rel =>
        obtain ⟨cells', h1, h2, h3⟩ := rel_step [.slice Bparams x[k].params.length dparams, .int .i64 x[k].ret, .slice Bblocks x[k].blocks.length dblocks] ho.out hels.out (Nat.lt_succ_self _) (Nat.le_refl _) hbr.out hsm.out hb1 hlt rfl (KA.low (show OFunc wr.heap.size w1 x[k] _ from ⟨_, _, rfl, pparams.out, pblocks.out⟩) hG.out.2)
        exact ⟨k + 1, cells', by omega, by go_num, ⟨h1⟩, ⟨h2⟩, ⟨h3⟩⟩
      case measure => simp [intOf]; omega
    · have e : k = x.length := by omega
      subst e
      go_wp2
      go_ret
      exact ⟨_, rfl, ⟨cells, ho.out, hels.out.imp fun _ _ hh => KA.low hh (Nat.le_succ _)⟩, hbr.out⟩
set_option maxHeartbeats 4000000 in
theorem t_Mod (x : XMod) (cs : List Value) (w : World) (hx : KMod lm w x cs) : Calls Tryz.prog 29 #[.agg cs.toArray] w (RetX OMod x w) := by
  obtain ⟨vfuncs, rfl, hfuncs⟩ := hx
  have tcfuncs := fun W hW => t_FuncS vfuncs x.funcs W (hfuncs.mv hW)
  obtain ⟨Afuncs, cfuncs, rfl, -, hlfuncs, hr0⟩ := hfuncs.sm
  clear hfuncs hr0
  have hbl := fun o o' o'' => (((Below.refl w.heap.size w).al (Nat.le_refl _) o).al (by first | (simp; done) | (simp; omega)) o').al (by first | (simp; done) | (simp; omega)) o''
  go_enter Tryz.func29, Tryz.ntmps29
  go_wp2_with fail
  refine (tcfuncs _ (hbl _ _ _)).mono ?_; rintro e w1 ⟨v, rfl, ho, hb1⟩
  have hB1 := (hbl _ _ _).then hb1
  have k0_1 := bat hb1 w.heap.size (by first | (simp; done) | (simp; omega))
  have f0_1 := fat hb1 w.heap.size (by first | (simp; done) | (simp; omega))
  have k1_1 := bat hb1 (w.heap.size + 1) (by first | (simp; done) | (simp; omega))
  have f1_1 := fat hb1 (w.heap.size + 1) (by first | (simp; done) | (simp; omega))
  have k2_1 := bat hb1 (w.heap.size + 2) (by first | (simp; done) | (simp; omega))
  have f2_1 := fat hb1 (w.heap.size + 2) (by first | (simp; done) | (simp; omega))
  have hz1 := hb1.size
  simp at k0_1 f0_1 k1_1 f1_1 k2_1 f2_1 hz1
  obtain ⟨Bfuncs, dfuncs, rfl, pfuncs⟩ := own_sw ho
  clear ho
  go_wp2
  refine bodyPost_ret (v := .agg #[.slice Bfuncs x.funcs.length dfuncs]) (by simp [results, Tryz.results29, go_sem, k1_1]) rfl ⟨_, rfl, ⟨_, rfl, (Own.abv pfuncs.out ?pfuncs).low (by first | (simp; done) | (simp; omega))⟩, ?h2⟩
  case pfuncs =>
    repeat (refine Abv.setCell ?_ (by first | (simp; done) | (simp; omega)) _)
    exact Abv.refl _ _
  case h2 =>
    repeat (refine Below.setCell ?_ (by first | (simp; done) | (simp; omega)) _)
    exact hB1
end Go.Proofs.YtkcgejbnhpccdaaGreat
