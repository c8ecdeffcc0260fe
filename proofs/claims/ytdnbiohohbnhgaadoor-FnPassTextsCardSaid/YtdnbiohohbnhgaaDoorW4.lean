/- The contract of the program's PassText. No conditions. -/
import Derived.Test.YtdnbiohohbnhgaaDoorW3
import Derived.Test.YtdnbiohohbnhgaaDoorS1
set_option linter.unusedSimpArgs false
set_option linter.unusedVariables false
namespace Go.Proofs.YtdnbiohohbnhgaaDoor
open Go.RowKit
def okP (l : List Int) : Bool := decide (l.length ≤ 12) && l.all fun p => inR p 1 9
theorem c_arePasses1 (n : Int) (w : World) : Calls Tryd.prog 33 #[.int .i64 n] w (Same (.bool (!inR n 1 9)) w) := by
  have h := fun W => c_within n 1 9 W
  go_enter Tryd.func33, Tryd.ntmps33
  go_wp2_with fail
  refine (h _).mono ?_; rintro e w1 ⟨rfl, rfl⟩
  go_wp2
  go_ret
  exact ⟨rfl, rfl⟩
theorem c_arePasses (v : Value) (l : List Int) (w : World) (hv : RI lm w v l) : Calls Tryd.prog 24 #[v] w (Ret (.bool (okP l)) w) := by
  have hcon := c_ConI v l 33 #[] (fun n => !inR n 1 9) w hv (fun _ _ => rfl) (fun W' x cs hW hk => by cases hk; exact Same.ret (c_arePasses1 x W'))
  obtain ⟨A, c, rfl, -, hl, hv0⟩ := hv.sm
  clear hv hv0
  obtain ⟨b, hb⟩ : ∃ b, b = l.any fun n => !inR n 1 9 := ⟨_, rfl⟩
  rw [← hb] at hcon
  have hok : okP l = (decide (l.length ≤ 12) && !b) := by rw [hb]; unfold okP; simp [List.all_eq_not_any_not]
  rw [hok]
  clear hb hok
  by_cases h : l.length ≤ 12
  · have hd : decide ((l.length : Int) ≤ 12) = true := by simp; omega
    rw [decide_eq_true h]
    go_enter Tryd.func24, Tryd.ntmps24
    go_wp2_with fail
    refine hcon.mono ?_; rintro e w1 ⟨rfl, hb1⟩
    go_wp2
    go_ret
    exact ⟨rfl, hb1⟩
  · have hd : decide ((l.length : Int) ≤ 12) = false := by simp; omega
    rw [decide_eq_false h]
    go_enter Tryd.func24, Tryd.ntmps24
    go_wp2
    go_ret
    exact ⟨rfl, Below.refl _ _⟩
theorem infoS : (Tryd.prog.info? 9).map (fun i => (i.zero, i.size, i.bytes)) = some (some (.string ByteArray.empty), 1, 16) := by kernel_rfl
/-- append(v, y): v the call's own row of strings, y in a new block. -/
theorem app_S {ops : Array Oper} {rest : List Oper} {o : Oper} {a : Act} {Q : Exit → Act → World → Prop} {W : World} (hgd : o.guard = none) (s x : Operand)
    (ho : o.op = .call { callee := .builtin .append, args := #[s, x], argTypes := #[35, 35] }) (base : Nat) (v : Value) (xs : List ByteArray) (y : ByteArray) (G : Nat) (hs : a.eval s = v)
    (hown : W.ownsRow base 9 1 v xs.length (xs.map Value.string)) (hx : a.eval x = .slice (some ⟨G, 0, none⟩) 1 1) (hr : W.cell? ⟨G, 0, none⟩ = some (.string y)) (hl : xs.length ≤ 1099511627776) (hb : base ≤ W.heap.size)
    (h : ∀ v' w', w'.ownsRow base 9 1 v' (xs ++ [y]).length ((xs ++ [y]).map Value.string) → W.grownBy w' v.ownBlock → wpList Tryd.prog ops Q rest (a.put o.dst v') w') : wpList Tryd.prog ops Q (o :: rest) a W := by
  obtain ⟨i0, hi, hz0, hz1, hz2⟩ := info_parts infoS
  refine wpList_append_own W hgd s x 35 ho base 9 i0 (.string ByteArray.empty) 1 16 Tryd.underlying35 hi hz0 hz1 hz2 rfl (by decide) v xs.length _ hs hown ⟨G, 0, none⟩ 1 1 [.string y] hx (by simp) (fun j u hj => ?_) (by simp [Value.oneCell']) (by unfold maxLen; omega) (by omega) hb fun v' w' h1 h2 _ => h v' w' (by simpa using h1) h2
  match j, hj with
  | 0, hj => cases hj; simpa [Addr.add] using hr
theorem below_app' {w W w' : World} {v : Value} {base e sz n : Nat} {cs : List Value} (hb : Below w.heap.size w W) (hg : W.grownBy w' v.ownBlock) (hw : w.heap.size ≤ W.heap.size) (hown : W.ownsRow base e sz v n cs) (hbase : w.heap.size ≤ base) : Below w.heap.size w w' :=
  hb.grown hg hw fun k hk => Nat.le_trans hbase (own_block_ge hown k hk)
def wordOf (p : Int) : ByteArray := words9.getD (p - 1).toNat ByteArray.empty
def textOf (l : List Int) : ByteArray := ⟨(Lib.join ((l.map wordOf).map (·.data.toList)) comma.data.toList).toArray⟩
theorem joinTail_le (sep : List UInt8) (B : Nat) : ∀ (r : List (List UInt8)), (∀ x ∈ r, x.length ≤ B) → (Lib.joinTail sep r).length ≤ r.length * (B + sep.length)
  | [], _ => by simp [Lib.joinTail]
  | x :: r, h => by
    have h1 := joinTail_le sep B r fun y hy => h y (List.mem_cons_of_mem _ hy)
    have h2 := h x (List.mem_cons_self ..)
    have e : (Lib.joinTail sep (x :: r)).length = sep.length + x.length + (Lib.joinTail sep r).length := by simp [Lib.joinTail]; omega
    have e2 : (x :: r).length * (B + sep.length) = r.length * (B + sep.length) + (B + sep.length) := by rw [List.length_cons, Nat.add_mul, Nat.one_mul]
    omega
theorem wordOf_le (p : Int) : (wordOf p).data.toList.length ≤ 7 := by
  unfold wordOf
  generalize (p - 1).toNat = i
  match i with
  | 0 | 1 | 2 | 3 | 4 | 5 | 6 | 7 | 8 => decide
  | n + 9 => rw [List.getD_eq_getElem?_getD, List.getElem?_eq_none (by show 9 ≤ n + 9; omega)]; decide
theorem text_le (l : List Int) (h : l.length ≤ 12) : (Lib.join ((l.map wordOf).map (·.data.toList)) comma.data.toList).length ≤ 140737488355328 := by
  cases l with
  | nil => simp [Lib.join_nil]
  | cons p r =>
    simp only [List.map_cons, Lib.join_cons, List.length_append]
    have h1 := wordOf_le p
    have h2 := joinTail_le comma.data.toList 7 ((r.map wordOf).map (·.data.toList)) (fun x hx => by
      obtain ⟨y, hy, rfl⟩ := List.mem_map.1 hx
      obtain ⟨q, _, rfl⟩ := List.mem_map.1 hy
      exact wordOf_le q)
    have hs : comma.data.toList.length = 1 := rfl
    rw [hs] at h2
    simp only [List.length_map, List.length_cons] at h2 h
    omega
def passText (l : List Int) : ByteArray := if okP l then textOf l else ⟨#[]⟩
set_option maxHeartbeats 4000000 in
theorem c_PassText (v : Value) (l : List Int) (m : Int) (w : World) (hv : RI lm w v l) (hm : w.cell? ⟨0, 0, none⟩ = some (.int .i64 m)) (h00 : 0 < w.heap.size) : Calls Tryd.prog 13 #[v] w (Ret (.string (passText l)) w) := by
  have hare := c_arePasses v l w hv
  have hmW : ∀ W, Below w.heap.size w W → W.cell? ⟨0, 0, none⟩ = some (.int .i64 m) := fun W hb => (bat hb 0 h00 0).trans hm
  obtain ⟨A, c, rfl, -, hl, hv0⟩ := hv.sm
  clear hv
  cases hok : okP l
  · have hR : passText l = ⟨#[]⟩ := by unfold passText; rw [hok]; rfl
    rw [hR, ]
    rw [hok] at hare
    clear hok hR
    go_enter Tryd.func13, Tryd.ntmps13
    go_wp2_with fail
    refine hare.mono ?_; rintro e w1 ⟨rfl, hb1⟩
    go_wp2
    go_ret
    exact ⟨rfl, hb1⟩
  · have hR : passText l = textOf l := by unfold passText; rw [hok]; rfl
    rw [hR]
    rw [hok] at hare
    have hl12 : l.length ≤ 12 := by unfold okP at hok; simp at hok; exact hok.1
    have hin : ∀ i (h : i < l.length), 1 ≤ l[i] ∧ l[i] ≤ 9 := fun i h => by
      unfold okP at hok
      simp only [Bool.and_eq_true, List.all_eq_true] at hok
      have := hok.2 l[i] (List.getElem_mem h)
      unfold inR at this
      simpa using this
    have hin' := Hd.mk hin
    clear hok hR hin
    go_enter Tryd.func13, Tryd.ntmps13
    go_wp2_with fail
    refine hare.mono ?_; rintro e w1 ⟨rfl, hb1⟩
    go_wp2
    have hal := fun (o : Obj) => (Below.refl w1.heap.size w1).al (Nat.le_refl _) o
    have hw1 := hb1.size
    have ho1 := own_empty w1 w.heap.size w1.heap.size 9 1 rfl hw1
    go_loopw [3, 12] (fun s3 s12 wr => ∃ k : Nat, ∃ A' c', k ≤ l.length ∧ s12 = .int .i64 k ∧ s3 = .slice A' k c' ∧ Hd (wr.ownsRow w.heap.size 9 1 (.slice A' k c') k (((l.take k).map wordOf).map Value.string)) ∧ Hd (Below w.heap.size w wr)) (fun _ s12 _ => l.length - (intOf s12).toNat)
    case atStart => exact ⟨0, _, _, Nat.zero_le _, rfl, rfl, ⟨by simpa using ho1⟩, ⟨hb1.then (hal _)⟩⟩
    case round =>
      clear ho1 hal hb1 hw1 hare
      obtain ⟨k, A', c', hk, rfl, rfl, ho, hbr⟩ := hrel
      by_cases hlt : k < l.length
      · obtain ⟨b, off, cs, hA, hbl, hk1, hat⟩ := hv0.out.in0 hbr.out k hlt
        cases hA
        cases hk1
        have g0 := hat 0 _ rfl
        simp at g0
        clear hat
        have hp := hin'.out k hlt
        have htk := Hd.mk (show ((l.take (k + 1)).map wordOf) = (l.take k).map wordOf ++ [wordOf l[k]] by rw [List.take_succ_eq_append_getElem hlt, List.map_append]; rfl)
        have hcw := c_passWords m wr (hmW wr hbr.out)
        generalize l[k] = p at *
        have hwd : (words9.map Value.string).toArray[(p - 1).toNat]? = some (.string (wordOf p)) := by
          have h9 : (p - 1).toNat < words9.length := by show (p - 1).toNat < 9; omega
          unfold wordOf
          rw [List.getElem?_toArray, List.getElem?_map, List.getD_eq_getElem?_getD, List.getElem?_eq_getElem h9]; rfl
        generalize wordOf p = wd at *
        have y0 : IntKind.i64.wrap (p - 1) = p - 1 := IntWalk.i64_in _ (by omega)
        have y1 : (0 : Int) ≤ p - 1 := by omega
        have y2 : p - 1 < 9 := by omega
        have hz := hbr.out.size
        have hlen := Hd.mk (show ((l.take k).map wordOf).length = k by simp; omega)
        go_wp2_with fail
        refine hcw.mono ?_; rintro e w2 ⟨rfl, hw2⟩
        have hh2 : w2.heap[wr.heap.size]? = some (.cells (words9.map Value.string).toArray 9 (0, 0)) := by rw [hw2]; exact heap_new _ _ _ _ rfl
        have hb2 : Below wr.heap.size wr w2 := by rw [hw2]; exact (Below.refl _ _).al (Nat.le_refl _) _
        have g1 := ((row_facts hh2).1 (p - 1).toNat).trans hwd
        rw [show (p - 1).toNat = p.toNat - 1 by omega] at g1
        clear hw2 hcw hh2 hwd
        have hz2 : w.heap.size ≤ w2.heap.size := Nat.le_trans hz hb2.size
        have ho2 := Hd.mk (own_mv ho.out hb2)
        have hb3 := Hd.mk (hbr.out.then hb2)
        have hal' := Hd.mk fun (o : Obj) => (Below.refl w2.heap.size w2).al (Nat.le_refl _) o
        clear ho hbr hb2
        generalize hxs : (l.take k).map wordOf = xs at *
        have hxs' := Hd.mk hxs
        clear hxs
        go_wp2_with (at_builtin; refine app_S rfl _ _ rfl w.heap.size _ xs wd _ rfl ?h1 rfl ?h2 ?h3 ?h4 ?h5)
        case h1 => rw [hlen.out]; exact own_mv ho2.out (hal'.out _)
        case h2 => simp
        case h3 => rw [hlen.out]; omega
        case h4 => simp; omega
        case h5 =>
          intro v' w4 ho4 hg
          have ho3' := own_mv ho2.out (hal'.out (.cells #[.string wd] 9))
          have hb4 : Below w.heap.size w w4 := below_app' (hb3.out.then (hal'.out _)) hg (by simp; omega) ho3' (Nat.le_refl _)
          obtain ⟨A2, c2, rfl, -, -⟩ := own_shape ho4
          have ho5 := Hd.mk ho4
          have hb5 := Hd.mk hb4
          have hl5 := Hd.mk (show (xs ++ [wd]).length = k + 1 by rw [List.length_append, hlen.out]; rfl)
          clear hg ho4 hb4 ho3' ho2 hb3 hal'
          go_wp2
          go_roundw
          case rel =>
            refine ⟨k + 1, A2, c2, by omega, by go_num, ?_, ⟨?_⟩, hb5⟩
            · have := hl5.out; simp at this ⊢; omega
            · have h := ho5.out
              rw [hlen.out] at h
              rw [htk.out]; simpa using h
          case measure => simp [intOf]; omega
      · have e : k = l.length := by omega
        subst e
        have hz := hbr.out.size
        have hxl : ((l.map wordOf)).length = l.length := by simp
        have hjl : (Lib.join ((l.map wordOf).map (·.data.toList)) comma.data.toList).length ≤ 140737488355328 := text_le l (by omega)
        by_cases h0 : l.length = 0
        · have hj := Tryd.strings_Join_none A' c' comma wr
          have hln : l = [] := List.eq_nil_of_length_eq_zero h0
          subst hln
          go_wp2_with fail
          refine hj.mono ?_; rintro e w3 ⟨rfl, rfl⟩
          go_wp2
          go_ret
          exact ⟨rfl, hbr.out⟩
        · obtain ⟨Aj, cj, hv, hcj, -, -, hat⟩ := own_shape ho.out
          cases hv
          obtain ⟨bk, rfl, hbk, hcell⟩ := hat (by omega)
          have hj := Tryd.strings_Join bk 0 c' (l.map wordOf) comma wr (fun j x hx => by
            rw [Nat.zero_add]
            refine hcell j _ ?_
            rw [List.take_length, List.getElem?_map, hx]; rfl) hbk (by rw [hxl]; omega) (by rw [hxl]; exact hcj) hjl
          rw [hxl] at hj
          have hj : Calls Tryd.prog 25 #[.slice (some ⟨bk, 0, none⟩) l.length c', .string comma] wr (Ret (.string (textOf l)) wr) := hj
          clear hcell hat hcj hjl hxl
          go_wp2_with fail
          refine hj.mono ?_; rintro e w3 ⟨rfl, hb3⟩
          go_wp2
          go_ret
          exact ⟨rfl, hbr.out.then hb3⟩
end Go.Proofs.YtdnbiohohbnhgaaDoor
