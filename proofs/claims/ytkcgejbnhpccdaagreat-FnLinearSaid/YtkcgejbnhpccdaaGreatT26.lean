import Derived.Test.YtkcgejbnhpccdaaGreatT25
import Derived.Deep.RegionHeld3
import Derived.Test.YtkcgejbnhpccdaaGreatT10
set_option linter.unusedSimpArgs false
set_option linter.unusedVariables false
namespace Go.Proofs.YtkcgejbnhpccdaaGreat
open Go.RowKit
theorem no24n {x w : Int} (h : x < 24) : (x = 24 ∨ x = 25) → w = 0 := no24 (by omega) (by omega)
set_option maxRecDepth 20000 in
set_option maxHeartbeats 20000000 in
theorem s_some (C : GC) (D : GD) (n : Int) (W : World) (h : GS C D W) (hm : Nm D) (hn : D.next ≤ 800) (h0 : 0 ≤ n ∧ n ≤ 5) : Calls Tryz.prog 114 #[.pointer (some ⟨C.gg, 0, none⟩), .int .i64 n] W (RetG0 (5 * n) C D W) := by
  obtain ⟨hn1, hn2⟩ := h0
  have hd0 := h.n0
  have hgs := Hd.mk (GP.refl h)
  have hm' := Hd.mk hm
  clear h hm
  go_enter Tryz.func114, Tryz.ntmps114
  go_wp2
  go_loopw [4] (fun s4 wr => ∃ (i : Nat) (Di : GD), (i : Int) ≤ n ∧ s4 = .int .i64 i ∧ Hd (GP C D Di W wr) ∧ Hd (InsR (5 * i) D Di) ∧ Hd (Nm Di)) (fun s4 _ => (n - intOf s4).toNat)
  case atStart => exact ⟨0, D, by omega, rfl, hgs, ⟨(InsR.refl D).mono (by omega)⟩, hm'⟩
  case round =>
    obtain ⟨i, D1, hi, rfl, g1, i1, m1⟩ := hrel
    clear hgs hm'
    obtain ⟨w1, rfl⟩ : ∃ w1 : World, w1 = wr := ⟨_, rfl⟩
    have j10 := g1.out.gs.at 10
    simp [GD.cells] at j10
    by_cases hlt : (i : Int) < n
    case neg =>
      go_wp2
      go_end0
      exact ⟨D1, rfl, g1.out, i1.out.mono (by omega), m1.out⟩
    by_cases h40 : D1.next < 40
    case neg =>
      go_wp2
      go_end0
      exact ⟨D1, rfl, g1.out, i1.out.mono (by omega), m1.out⟩
    have j0 := g1.out.gs.at 0
    simp [GD.cells] at j0
    have hp := s_width C.lo C.gr w1 g1.out.gs.rs
    go_wp2_with fail
    refine hp.mono ?_; rintro e w2 ⟨v, rfl, ⟨wd, rfl, hwd⟩, hr, hg⟩
    have g2 := Hd.mk (g1.out.trans (g1.out.gs.rd hg hr))
    clear hr hg hp j0
    have j0 := g2.out.gs.at 0
    simp [GD.cells] at j0
    have hp := s_below C.lo C.gr 14 w2 g2.out.gs.rs (by omega)
    go_wp2_with fail
    refine hp.mono ?_; rintro e w3 ⟨v, rfl, ⟨q, rfl, q1, q2⟩, hr, hg⟩
    have g3 := Hd.mk (g2.out.trans (g2.out.gs.rd hg hr))
    clear hr hg hp j0
    clear j10 h40
    have hwd' := Hd.mk hwd
    clear hwd
    have hq : q = 0 ∨ q = 1 ∨ q = 2 ∨ q = 3 ∨ q = 4 ∨ q = 5 ∨ q = 6 ∨ q = 7 ∨ q = 8 ∨ 9 ≤ q := by omega
    rcases hq with rfl | rfl | rfl | rfl | rfl | rfl | rfl | rfl | rfl | hq
    · have j0 := g3.out.gs.at 0
      simp [GD.cells] at j0
      have hp := s_value C.lo C.gr wd w3 g3.out.gs.rs hwd'.out
      go_wp2_with fail
      refine hp.mono ?_; rintro e w4 ⟨v, rfl, ⟨x, rfl⟩, hr, hg⟩
      have g4 := Hd.mk (g3.out.trans (g3.out.gs.rd hg hr))
      clear hr hg hp j0
      have hp := s_put C D1 ⟨21, wd, 0, 0, 0, x, []⟩ none 0 0 w4 g4.out.gs m1.out (by have h9 := i1.out.next; omega) (kinst_nil _ _ _ _ _ _ _ _) (no24n (by show (21 : Int) < 24; omega))
      go_wp2_with fail
      refine hp.mono ?_; rintro e w5 ⟨y, D2, rfl, hg, hi, hn'⟩
      have g5 := Hd.mk (g4.out.trans hg)
      have i2 := Hd.mk (i1.out.trans hi)
      have m2 := Hd.mk hn'
      clear hg hi hn' hp
      go_wp2
      go_roundw
      case rel => exact ⟨i + 1, D2, by omega, by go_num, g5, ⟨i2.out.mono (by omega)⟩, m2⟩
      case measure => simp [intOf]; omega
    · have hp := s_pick C D1 1 w3 g3.out.gs m1.out (by have h9 := i1.out.next; omega) (.inl rfl)
      go_wp2_with fail
      refine hp.mono ?_; rintro e w4 ⟨xa, D2, rfl, hg, hi, hn'⟩
      have g4 := Hd.mk (g3.out.trans hg)
      have i2 := Hd.mk (i1.out.trans hi)
      have m2 := Hd.mk hn'
      clear hg hi hn' hp
      have hp := s_pick C D2 wd w4 g4.out.gs m2.out (by have h9 := i2.out.next; omega) hwd'.out
      go_wp2_with fail
      refine hp.mono ?_; rintro e w5 ⟨xb, D3, rfl, hg, hi, hn'⟩
      have g5 := Hd.mk (g4.out.trans hg)
      have i3 := Hd.mk (i2.out.trans hi)
      have m3 := Hd.mk hn'
      clear hg hi hn' hp
      have hp := s_pick C D3 wd w5 g5.out.gs m3.out (by have h9 := i3.out.next; omega) hwd'.out
      go_wp2_with fail
      refine hp.mono ?_; rintro e w6 ⟨xc, D4, rfl, hg, hi, hn'⟩
      have g6 := Hd.mk (g5.out.trans hg)
      have i4 := Hd.mk (i3.out.trans hi)
      have m4 := Hd.mk hn'
      clear hg hi hn' hp
      have hp := s_put C D4 ⟨22, wd, xa, xb, xc, 0, []⟩ none 0 0 w6 g6.out.gs m4.out (by have h9 := i4.out.next; omega) (kinst_nil _ _ _ _ _ _ _ _) (no24n (by show (22 : Int) < 24; omega))
      go_wp2_with fail
      refine hp.mono ?_; rintro e w7 ⟨y, D5, rfl, hg, hi, hn'⟩
      have g7 := Hd.mk (g6.out.trans hg)
      have i5 := Hd.mk (i4.out.trans hi)
      have m5 := Hd.mk hn'
      clear hg hi hn' hp
      go_wp2
      go_roundw
      case rel => exact ⟨i + 1, D5, by omega, by go_num, g7, ⟨i5.out.mono (by omega)⟩, m5⟩
      case measure => simp [intOf]; omega
    · have hp := s_pick C D1 8 w3 g3.out.gs m1.out (by have h9 := i1.out.next; omega) (.inr (.inl rfl))
      go_wp2_with fail
      refine hp.mono ?_; rintro e w4 ⟨xa, D2, rfl, hg, hi, hn'⟩
      have g4 := Hd.mk (g3.out.trans hg)
      have i2 := Hd.mk (i1.out.trans hi)
      have m2 := Hd.mk hn'
      clear hg hi hn' hp
      have hgr := g4.out.gs.rs.lt
      go_wp2
      refine wp_region_hos (fun w => Hd (GP C D2 D2 w4 w)) (RStep w4.heap.size) [.k (.pointer (some ⟨C.gg, 0, none⟩)), .n (fun v => ∃ b : Nat, v = .slice (some ⟨b, 0, none⟩) 2 2) (fun w v => ∃ b : Nat, v = .slice (some ⟨b, 0, none⟩) 2 2 ∧ InB w4.heap.size w b #[.int .i64 18, .int .i64 19] 2), .k (.pointer (some ⟨C.gg, 0, none⟩)), .k (.pointer (some ⟨C.gg, 0, none⟩)), .k (.pointer (some ⟨C.gg, 0, none⟩)), .k (.pointer (some ⟨C.gr, 0, none⟩)), .n (fun v => ∃ q : Nat, v = .int .i64 q ∧ q < 2) (fun _ _ => True), .n (fun v => ∃ (b q : Nat), v = .pointer (some ⟨b, q, none⟩)) (fun w v => ∃ (b q : Nat), v = .pointer (some ⟨b, q, none⟩) ∧ q < 2 ∧ InB w4.heap.size w b #[.int .i64 18, .int .i64 19] 2), .n (fun v => ∃ x : Int, v = .int .i64 x ∧ x < 24) (fun _ _ => True), .n (fun v => ∃ b : Nat, v = .slice (some ⟨b, 0, none⟩) 2 2) (fun w v => ∃ b : Nat, v = .slice (some ⟨b, 0, none⟩) 2 2 ∧ InB w4.heap.size w b #[.int .i64 16, .int .i64 32] 2), .k (.pointer (some ⟨C.gg, 0, none⟩)), .k (.pointer (some ⟨C.gg, 0, none⟩)), .k (.pointer (some ⟨C.gg, 0, none⟩)), .k (.pointer (some ⟨C.gr, 0, none⟩)), .n (fun v => ∃ q : Nat, v = .int .i64 q ∧ q < 2) (fun _ _ => True), .n (fun v => ∃ (b q : Nat), v = .pointer (some ⟨b, q, none⟩)) (fun w v => ∃ (b q : Nat), v = .pointer (some ⟨b, q, none⟩) ∧ q < 2 ∧ InB w4.heap.size w b #[.int .i64 16, .int .i64 32] 2), .n (fun v => ∃ x : Int, v = .int .i64 x ∧ x < 37) (fun _ _ => True), .k (.int .i64 xa), .n (fun v => ∃ x y : Int, v = .agg #[.int .i64 x, .int .i64 y, .int .i64 xa, .int .i64 0, .int .i64 0, .int .i64 0, .slice none 0 0] ∧ x < 24) (fun _ _ => True)] (by kernel_rfl) (by kernel_rfl) (by kernel_rfl) ⟨g4.out.gs.mv (by repeat (first | exact Below.refl _ _ | assumption | refine Below.drew ?_ | refine Below.al ?_ (by first | exact Nat.le_refl _ | assumption | omega | (simp; done) | (simp; omega)) _))⟩ (RStep.refl _) ?hex ?hst ?hrun
      case hex =>
        simp only [ExS, Sp.pure]
        repeat' first | exact trivial | refine And.intro ?_ ?_ | exact ⟨_, rfl⟩ | exact ⟨_, 0, rfl⟩ | exact ⟨_, 0, 0, rfl⟩ | exact ⟨_, 0, rfl, by decide⟩ | exact ⟨_, 0, 0, rfl, by decide⟩
      case hst =>
        simp only [StS, Sp.inW]
        repeat' first | exact trivial | refine And.intro ?_ ?_ | (intro w w' v hS hR hi; first | exact trivial | (obtain ⟨b, rfl, h1⟩ := hi; exact ⟨b, rfl, h1.mv hR⟩) | (obtain ⟨b, q, rfl, h0, h1⟩ := hi; exact ⟨b, q, rfl, h0, h1.mv hR⟩))
      simp only [List.toList_toArray]
      refine hos_k (fun w hS hk => ?_) ?_
      · have j0 := hS.out.gs.at 0
        simp [GD.cells] at j0
        clear hk
        go_simp
        first | done | rfl
      simp only [Act.put, List.setIfInBounds_toArray, List.set_cons_zero, List.set_cons_succ]
      refine hos_n (fun w hS hk => ?_) ?_
      · refine opH_val (.slice (some ⟨w.heap.size, 0, none⟩) 2 2) (w.alloc (.cells #[.int .i64 18, .int .i64 19] 2)) ?_ ?_
        · clear hk
          go_simp
          first | done | rfl
        · exact ⟨⟨_, rfl⟩, ⟨_, rfl, hS.out.fr.size, heap_new _ _ _ _ rfl⟩, ⟨hS.out.trans (hS.out.gs.mv (by repeat (first | exact Below.refl _ _ | assumption | refine Below.drew ?_ | refine Below.al ?_ (by first | exact Nat.le_refl _ | assumption | omega | (simp; done) | (simp; omega)) _)))⟩, .of (by repeat (first | exact Below.refl _ _ | assumption | refine Below.drew ?_ | refine Below.al ?_ (by first | exact Nat.le_refl _ | assumption | omega | (simp; done) | (simp; omega)) _))⟩
      rintro _ ⟨b0, rfl⟩
      simp only [Act.put, List.setIfInBounds_toArray, List.set_cons_zero, List.set_cons_succ]
      refine hos_k (fun w hS hk => ?_) ?_
      · have j0 := hS.out.gs.at 0
        simp [GD.cells] at j0
        clear hk
        go_simp
        first | done | rfl
      simp only [Act.put, List.setIfInBounds_toArray, List.set_cons_zero, List.set_cons_succ]
      refine hos_k (fun w hS hk => ?_) ?_
      · have j0 := hS.out.gs.at 0
        simp [GD.cells] at j0
        clear hk
        go_simp
        first | done | rfl
      simp only [Act.put, List.setIfInBounds_toArray, List.set_cons_zero, List.set_cons_succ]
      refine hos_k (fun w hS hk => ?_) ?_
      · have j0 := hS.out.gs.at 0
        simp [GD.cells] at j0
        clear hk
        go_simp
        first | done | rfl
      simp only [Act.put, List.setIfInBounds_toArray, List.set_cons_zero, List.set_cons_succ]
      refine hos_k (fun w hS hk => ?_) ?_
      · have j0 := hS.out.gs.at 0
        simp [GD.cells] at j0
        clear hk
        go_simp
        first | done | rfl
      simp only [Act.put, List.setIfInBounds_toArray, List.set_cons_zero, List.set_cons_succ]
      refine hos_n (fun w hS hk => ?_) ?_
      · refine opH_call 52 #[.pointer (some ⟨C.gr, 0, none⟩), .int .i64 2] ?_ ?_
        · clear hk
          go_simp
          first | done | rfl
        · refine (s_below C.lo C.gr 2 w hS.out.gs.rs (by omega)).mono ?_
          rintro e w' ⟨v, rfl, ⟨q, rfl, q1, q2⟩, hr, hg⟩
          obtain ⟨q', rfl⟩ : ∃ q' : Nat, q = q' := ⟨q.toNat, by omega⟩
          exact ⟨_, rfl, ⟨q', rfl, by omega⟩, trivial, ⟨hS.out.trans (hS.out.gs.rd hg hr)⟩, hg.size, fun b h1 h2 => hg.block b h2 (by simp; omega)⟩
      rintro _ ⟨q0, rfl, hq0⟩
      simp only [Act.put, List.setIfInBounds_toArray, List.set_cons_zero, List.set_cons_succ]
      refine hos_n (fun w hS hk => ?_) ?_
      · obtain ⟨hk1, -⟩ := hk
        obtain ⟨b, e, hin⟩ := hk1 (by kernel_rfl)
        cases e
        refine opH_val (.pointer (some ⟨b0, q0, none⟩)) w ?_ ?_
        · clear hk1
          go_simp
          first | done | (intro h; omega)
        · exact ⟨⟨_, _, rfl⟩, ⟨_, _, rfl, hq0, hin⟩, hS, .refl _ _⟩
      rintro _ ⟨b1, q1, rfl⟩
      simp only [Act.put, List.setIfInBounds_toArray, List.set_cons_zero, List.set_cons_succ]
      refine hos_n (fun w hS hk => ?_) ?_
      · obtain ⟨-, -, hk1, -⟩ := hk
        obtain ⟨b, q, e, hq, hin⟩ := hk1 (by kernel_rfl)
        cases e
        have hc := (row_facts hin.2).1 q1
        have hq' : q1 = 0 ∨ q1 = 1 := by omega
        clear hk1
        rcases hq' with rfl | rfl
        · simp at hc
          refine opH_val (.int .i64 18) w ?_ ⟨⟨_, rfl, by decide⟩, trivial, hS, .refl _ _⟩
          go_simp
          first | done | rfl
        · simp at hc
          refine opH_val (.int .i64 19) w ?_ ⟨⟨_, rfl, by decide⟩, trivial, hS, .refl _ _⟩
          go_simp
          first | done | rfl
      rintro _ ⟨x0, rfl, hx0⟩
      simp only [Act.put, List.setIfInBounds_toArray, List.set_cons_zero, List.set_cons_succ]
      refine hos_n (fun w hS hk => ?_) ?_
      · refine opH_val (.slice (some ⟨w.heap.size, 0, none⟩) 2 2) (w.alloc (.cells #[.int .i64 16, .int .i64 32] 2)) ?_ ?_
        · clear hk
          go_simp
          first | done | rfl
        · exact ⟨⟨_, rfl⟩, ⟨_, rfl, hS.out.fr.size, heap_new _ _ _ _ rfl⟩, ⟨hS.out.trans (hS.out.gs.mv (by repeat (first | exact Below.refl _ _ | assumption | refine Below.drew ?_ | refine Below.al ?_ (by first | exact Nat.le_refl _ | assumption | omega | (simp; done) | (simp; omega)) _)))⟩, .of (by repeat (first | exact Below.refl _ _ | assumption | refine Below.drew ?_ | refine Below.al ?_ (by first | exact Nat.le_refl _ | assumption | omega | (simp; done) | (simp; omega)) _))⟩
      rintro _ ⟨b2, rfl⟩
      simp only [Act.put, List.setIfInBounds_toArray, List.set_cons_zero, List.set_cons_succ]
      refine hos_k (fun w hS hk => ?_) ?_
      · have j0 := hS.out.gs.at 0
        simp [GD.cells] at j0
        clear hk
        go_simp
        first | done | rfl
      simp only [Act.put, List.setIfInBounds_toArray, List.set_cons_zero, List.set_cons_succ]
      refine hos_k (fun w hS hk => ?_) ?_
      · have j0 := hS.out.gs.at 0
        simp [GD.cells] at j0
        clear hk
        go_simp
        first | done | rfl
      simp only [Act.put, List.setIfInBounds_toArray, List.set_cons_zero, List.set_cons_succ]
      refine hos_k (fun w hS hk => ?_) ?_
      · have j0 := hS.out.gs.at 0
        simp [GD.cells] at j0
        clear hk
        go_simp
        first | done | rfl
      simp only [Act.put, List.setIfInBounds_toArray, List.set_cons_zero, List.set_cons_succ]
      refine hos_k (fun w hS hk => ?_) ?_
      · have j0 := hS.out.gs.at 0
        simp [GD.cells] at j0
        clear hk
        go_simp
        first | done | rfl
      simp only [Act.put, List.setIfInBounds_toArray, List.set_cons_zero, List.set_cons_succ]
      refine hos_n (fun w hS hk => ?_) ?_
      · refine opH_call 52 #[.pointer (some ⟨C.gr, 0, none⟩), .int .i64 2] ?_ ?_
        · clear hk
          go_simp
          first | done | rfl
        · refine (s_below C.lo C.gr 2 w hS.out.gs.rs (by omega)).mono ?_
          rintro e w' ⟨v, rfl, ⟨q, rfl, q1, q2⟩, hr, hg⟩
          obtain ⟨q', rfl⟩ : ∃ q' : Nat, q = q' := ⟨q.toNat, by omega⟩
          exact ⟨_, rfl, ⟨q', rfl, by omega⟩, trivial, ⟨hS.out.trans (hS.out.gs.rd hg hr)⟩, hg.size, fun b h1 h2 => hg.block b h2 (by simp; omega)⟩
      rintro _ ⟨q2, rfl, hq2⟩
      simp only [Act.put, List.setIfInBounds_toArray, List.set_cons_zero, List.set_cons_succ]
      refine hos_n (fun w hS hk => ?_) ?_
      · obtain ⟨-, -, -, -, hk1, -⟩ := hk
        obtain ⟨b, e, hin⟩ := hk1 (by kernel_rfl)
        cases e
        refine opH_val (.pointer (some ⟨b2, q2, none⟩)) w ?_ ?_
        · clear hk1
          go_simp
          first | done | (intro h; omega)
        · exact ⟨⟨_, _, rfl⟩, ⟨_, _, rfl, hq2, hin⟩, hS, .refl _ _⟩
      rintro _ ⟨b3, q3, rfl⟩
      simp only [Act.put, List.setIfInBounds_toArray, List.set_cons_zero, List.set_cons_succ]
      refine hos_n (fun w hS hk => ?_) ?_
      · obtain ⟨-, -, -, -, -, -, hk1, -⟩ := hk
        obtain ⟨b, q, e, hq, hin⟩ := hk1 (by kernel_rfl)
        cases e
        have hc := (row_facts hin.2).1 q3
        have hq' : q3 = 0 ∨ q3 = 1 := by omega
        clear hk1
        rcases hq' with rfl | rfl
        · simp at hc
          refine opH_val (.int .i64 16) w ?_ ⟨⟨_, rfl, by decide⟩, trivial, hS, .refl _ _⟩
          go_simp
          first | done | rfl
        · simp at hc
          refine opH_val (.int .i64 32) w ?_ ⟨⟨_, rfl, by decide⟩, trivial, hS, .refl _ _⟩
          go_simp
          first | done | rfl
      rintro _ ⟨x2, rfl, hx2⟩
      simp only [Act.put, List.setIfInBounds_toArray, List.set_cons_zero, List.set_cons_succ]
      refine hos_k (fun w hS hk => ?_) ?_
      · have j0 := hS.out.gs.at 0
        simp [GD.cells] at j0
        clear hk
        go_simp
        first | done | rfl
      simp only [Act.put, List.setIfInBounds_toArray, List.set_cons_zero, List.set_cons_succ]
      refine hos_n (fun w hS hk => ?_) ?_
      · refine opH_val (.agg #[.int .i64 x0, .int .i64 x2, .int .i64 xa, .int .i64 0, .int .i64 0, .int .i64 0, .slice none 0 0]) w ?_ ⟨⟨x0, x2, rfl, hx0⟩, trivial, hS, .refl _ _⟩
        clear hk
        go_simp
        first | done | rfl
      rintro _ ⟨x5, x6, rfl, hx5⟩
      simp only [Act.put, List.setIfInBounds_toArray, List.set_cons_zero, List.set_cons_succ]
      refine hos_end (fun w5 h5 _ => ?_)
      have g5 := Hd.mk (g4.out.trans h5.out)
      clear h5 hgr hx0 hx2 hq0 hq2
      refine tail_call rfl 156 #[.pointer (some ⟨C.gg, 0, none⟩), .agg #[.int .i64 x5, .int .i64 x6, .int .i64 xa, .int .i64 0, .int .i64 0, .int .i64 0, .slice none 0 0]] (by go_simp; first | done | rfl) ?_
      have hp := s_put C D2 ⟨x5, x6, xa, 0, 0, 0, []⟩ none 0 0 w5 g5.out.gs m2.out (by have h9 := i2.out.next; omega) (kinst_nil _ _ _ _ _ _ _ _) (no24n hx5)
      refine hp.mono ?_; rintro e w6 ⟨y2, D3, rfl, hg, hi, hn'⟩
      refine ⟨_, rfl, ?_⟩
      simp only [Act.put, List.setIfInBounds_toArray, List.set_cons_zero, List.set_cons_succ]
      have g6 := Hd.mk (g5.out.trans hg)
      have i3 := Hd.mk (i2.out.trans hi)
      have m3 := Hd.mk hn'
      clear hg hi hn' hp
      go_wp2
      go_roundw
      case rel => exact ⟨i + 1, D3, by omega, by go_num, g6, ⟨i3.out.mono (by omega)⟩, m3⟩
      case measure => simp [intOf]; omega
    · have hp := s_pick C D1 32 w3 g3.out.gs m1.out (by have h9 := i1.out.next; omega) (.inr (.inr (.inr rfl)))
      go_wp2_with fail
      refine hp.mono ?_; rintro e w4 ⟨xa, D2, rfl, hg, hi, hn'⟩
      have g4 := Hd.mk (g3.out.trans hg)
      have i2 := Hd.mk (i1.out.trans hi)
      have m2 := Hd.mk hn'
      clear hg hi hn' hp
      have hal := Hd.mk fun (ob : Obj) => (Below.refl w4.heap.size w4).al (Nat.le_refl _) ob
      have hz3 : w4.heap.size < (w4.alloc (.cells #[.int .i64 1, .int .i64 8, .int .i64 16] 2)).heap.size := by simp
      have hg3 := Hd.mk (g4.out.trans (g4.out.gs.mv (hal.out (.cells #[.int .i64 1, .int .i64 8, .int .i64 16] 2))))
      have j0 := g4.out.gs.at 0
      simp [GD.cells] at j0
      have hgl := g4.out.gs.lt
      have hp := s_below C.lo C.gr 3 _ hg3.out.gs.rs (by omega)
      go_wp2_with fail
      refine hp.mono ?_; rintro e w5 ⟨v, rfl, ⟨q, rfl, p1, p2⟩, hr, hg⟩
      have hne : C.gr ≠ w4.heap.size := by have := g4.out.gs.rs.lt; omega
      have hcc := fun o => (World.cell?_of_block (a := ⟨w4.heap.size, o, none⟩) (hg.block _ hz3 (by simp; omega))).trans ((row_facts (heap_new w4 #[.int .i64 1, .int .i64 8, .int .i64 16] 2 _ rfl)).1 o)
      have c0 := hcc 0
      have c1 := hcc 1
      have c2 := hcc 2
      simp at c0 c1 c2
      have g5 := Hd.mk (hg3.out.trans (hg3.out.gs.rd hg hr))
      clear hr hg hp j0 hcc hg3 hal hz3 hne
      have hq3 : ∃ wq, w5.cell? ⟨w4.heap.size, q.toNat, none⟩ = some (.int .i64 wq) := by
        have : q = 0 ∨ q = 1 ∨ q = 2 := by omega
        rcases this with rfl | rfl | rfl
        · exact ⟨_, c0⟩
        · exact ⟨_, c1⟩
        · exact ⟨_, c2⟩
      obtain ⟨wq, hq3⟩ := hq3
      obtain ⟨jq, rfl⟩ : ∃ jq : Nat, q = jq := ⟨q.toNat, by omega⟩
      simp at hq3
      clear c0 c1 c2
      have hp := s_put C D2 ⟨20, wq, xa, 0, 0, 0, []⟩ none 0 0 w5 g5.out.gs m2.out (by have h9 := i2.out.next; omega) (kinst_nil _ _ _ _ _ _ _ _) (no24n (by show (20 : Int) < 24; omega))
      go_wp2_with fail
      refine hp.mono ?_; rintro e w6 ⟨y, D3, rfl, hg, hi, hn'⟩
      have g6 := Hd.mk (g5.out.trans hg)
      have i3 := Hd.mk (i2.out.trans hi)
      have m3 := Hd.mk hn'
      clear hg hi hn' hp
      go_wp2
      go_roundw
      case rel => exact ⟨i + 1, D3, by omega, by go_num, g6, ⟨i3.out.mono (by omega)⟩, m3⟩
      case measure => simp [intOf]; omega
    · have j0 := g3.out.gs.at 0
      simp [GD.cells] at j0
      have hp := s_below C.lo C.gr 34 w3 g3.out.gs.rs (by omega)
      go_wp2_with fail
      refine hp.mono ?_; rintro e w4 ⟨v, rfl, ⟨p, rfl, p1, p2⟩, hr, hg⟩
      have g4 := Hd.mk (g3.out.trans (g3.out.gs.rd hg hr))
      clear hr hg hp j0
      have hp := s_put C D1 ⟨21, 32, 0, 0, 0, p, []⟩ none 0 0 w4 g4.out.gs m1.out (by have h9 := i1.out.next; omega) (kinst_nil _ _ _ _ _ _ _ _) (no24n (by show (21 : Int) < 24; omega))
      go_wp2_with fail
      refine hp.mono ?_; rintro e w5 ⟨y, D2, rfl, hg, hi, hn'⟩
      have g5 := Hd.mk (g4.out.trans hg)
      have i2 := Hd.mk (i1.out.trans hi)
      have m2 := Hd.mk hn'
      clear hg hi hn' hp
      have hp := s_put C D2 ⟨23, 8, y, 0, 0, 0, []⟩ none 0 0 w5 g5.out.gs m2.out (by have h9 := i2.out.next; omega) (kinst_nil _ _ _ _ _ _ _ _) (no24n (by show (23 : Int) < 24; omega))
      go_wp2_with fail
      refine hp.mono ?_; rintro e w6 ⟨y2, D3, rfl, hg, hi, hn'⟩
      have g6 := Hd.mk (g5.out.trans hg)
      have i3 := Hd.mk (i2.out.trans hi)
      have m3 := Hd.mk hn'
      clear hg hi hn' hp
      go_wp2
      go_roundw
      case rel => exact ⟨i + 1, D3, by omega, by go_num, g6, ⟨i3.out.mono (by omega)⟩, m3⟩
      case measure => simp [intOf]; omega
    · have j0 := g3.out.gs.at 0
      simp [GD.cells] at j0
      have hp := s_below C.lo C.gr 33 w3 g3.out.gs.rs (by omega)
      go_wp2_with fail
      refine hp.mono ?_; rintro e w4 ⟨v, rfl, ⟨p, rfl, p1, p2⟩, hr, hg⟩
      have g4 := Hd.mk (g3.out.trans (g3.out.gs.rd hg hr))
      clear hr hg hp j0
      have hp := s_put C D1 ⟨21, 32, 0, 0, 0, p, []⟩ none 0 0 w4 g4.out.gs m1.out (by have h9 := i1.out.next; omega) (kinst_nil _ _ _ _ _ _ _ _) (no24n (by show (21 : Int) < 24; omega))
      go_wp2_with fail
      refine hp.mono ?_; rintro e w5 ⟨y, D2, rfl, hg, hi, hn'⟩
      have g5 := Hd.mk (g4.out.trans hg)
      have i2 := Hd.mk (i1.out.trans hi)
      have m2 := Hd.mk hn'
      clear hg hi hn' hp
      have hp := s_pick C D2 8 w5 g5.out.gs m2.out (by have h9 := i2.out.next; omega) (.inr (.inl rfl))
      go_wp2_with fail
      refine hp.mono ?_; rintro e w6 ⟨xb, D3, rfl, hg, hi, hn'⟩
      have g6 := Hd.mk (g5.out.trans hg)
      have i3 := Hd.mk (i2.out.trans hi)
      have m3 := Hd.mk hn'
      clear hg hi hn' hp
      have hp := s_put C D3 ⟨24, 0, y, xb, 0, 0, []⟩ none 0 0 w6 g6.out.gs m3.out (by have h9 := i3.out.next; omega) (kinst_nil _ _ _ _ _ _ _ _) (fun _ => rfl)
      go_wp2_with fail
      refine hp.mono ?_; rintro e w7 ⟨y2, D4, rfl, hg, hi, hn'⟩
      have g7 := Hd.mk (g6.out.trans hg)
      have i4 := Hd.mk (i3.out.trans hi)
      have m4 := Hd.mk hn'
      clear hg hi hn' hp
      go_wp2
      go_roundw
      case rel => exact ⟨i + 1, D4, by omega, by go_num, g7, ⟨i4.out.mono (by omega)⟩, m4⟩
      case measure => simp [intOf]; omega
    · have hp := s_pick C D1 wd w3 g3.out.gs m1.out (by have h9 := i1.out.next; omega) hwd'.out
      go_wp2_with fail
      refine hp.mono ?_; rintro e w4 ⟨xa, D2, rfl, hg, hi, hn'⟩
      have g4 := Hd.mk (g3.out.trans hg)
      have i2 := Hd.mk (i1.out.trans hi)
      have m2 := Hd.mk hn'
      clear hg hi hn' hp
      have hp := s_put C D2 ⟨25, 0, xa, 0, 0, 0, []⟩ none 0 0 w4 g4.out.gs m2.out (by have h9 := i2.out.next; omega) (kinst_nil _ _ _ _ _ _ _ _) (fun _ => rfl)
      go_wp2_with fail
      refine hp.mono ?_; rintro e w5 ⟨y2, D3, rfl, hg, hi, hn'⟩
      have g5 := Hd.mk (g4.out.trans hg)
      have i3 := Hd.mk (i2.out.trans hi)
      have m3 := Hd.mk hn'
      clear hg hi hn' hp
      go_wp2
      go_roundw
      case rel => exact ⟨i + 1, D3, by omega, by go_num, g5, ⟨i3.out.mono (by omega)⟩, m3⟩
      case measure => simp [intOf]; omega
    · have hp := s_pick C D1 wd w3 g3.out.gs m1.out (by have h9 := i1.out.next; omega) hwd'.out
      go_wp2_with fail
      refine hp.mono ?_; rintro e w4 ⟨xa, D2, rfl, hg, hi, hn'⟩
      have g4 := Hd.mk (g3.out.trans hg)
      have i2 := Hd.mk (i1.out.trans hi)
      have m2 := Hd.mk hn'
      clear hg hi hn' hp
      have hp := s_put C D2 ⟨27, wd, xa, 0, 0, 0, []⟩ none 0 0 w4 g4.out.gs m2.out (by have h9 := i2.out.next; omega) (kinst_nil _ _ _ _ _ _ _ _) (no24 (show (27 : Int) ≠ 24 by decide) (show (27 : Int) ≠ 25 by decide))
      go_wp2_with fail
      refine hp.mono ?_; rintro e w5 ⟨y2, D3, rfl, hg, hi, hn'⟩
      have g5 := Hd.mk (g4.out.trans hg)
      have i3 := Hd.mk (i2.out.trans hi)
      have m3 := Hd.mk hn'
      clear hg hi hn' hp
      go_wp2
      go_roundw
      case rel => exact ⟨i + 1, D3, by omega, by go_num, g5, ⟨i3.out.mono (by omega)⟩, m3⟩
      case measure => simp [intOf]; omega
    · have hp := s_call3 C D1 w3 g3.out.gs m1.out (by have h9 := i1.out.next; omega)
      go_wp2_with fail
      refine hp.mono ?_; rintro e w4 ⟨D2, rfl, hg, hi, hn'⟩
      have g4 := Hd.mk (g3.out.trans hg)
      have i2 := Hd.mk (i1.out.trans hi)
      have m2 := Hd.mk hn'
      clear hg hi hn' hp
      go_wp2
      go_roundw
      case rel => exact ⟨i + 1, D2, by omega, by go_num, g4, ⟨i2.out.mono (by omega)⟩, m2⟩
      case measure => simp [intOf]; omega
    · have e0 := beqF (show q ≠ 0 by omega)
      have e1 := beqF (show q ≠ 1 by omega)
      have e2 := beqF (show q ≠ 2 by omega)
      have e3 := beqF (show q ≠ 3 by omega)
      have e4 := beqF (show q ≠ 4 by omega)
      have e5 := beqF (show q ≠ 5 by omega)
      have e6 := beqF (show q ≠ 6 by omega)
      have e7 := beqF (show q ≠ 7 by omega)
      have e8 := beqF (show q ≠ 8 by omega)
      have hp := s_pick C D1 wd w3 g3.out.gs m1.out (by have h9 := i1.out.next; omega) hwd'.out
      go_wp2_with fail
      refine hp.mono ?_; rintro e w4 ⟨xa, D2, rfl, hg, hi, hn'⟩
      have g4 := Hd.mk (g3.out.trans hg)
      have i2 := Hd.mk (i1.out.trans hi)
      have m2 := Hd.mk hn'
      clear hg hi hn' hp
      have hp := s_pick C D2 wd w4 g4.out.gs m2.out (by have h9 := i2.out.next; omega) hwd'.out
      go_wp2_with fail
      refine hp.mono ?_; rintro e w5 ⟨xb, D3, rfl, hg, hi, hn'⟩
      have g5 := Hd.mk (g4.out.trans hg)
      have i3 := Hd.mk (i2.out.trans hi)
      have m3 := Hd.mk hn'
      clear hg hi hn' hp
      have j0 := g5.out.gs.at 0
      simp [GD.cells] at j0
      have hp := s_below C.lo C.gr 17 w5 g5.out.gs.rs (by omega)
      go_wp2_with fail
      refine hp.mono ?_; rintro e w6 ⟨v, rfl, ⟨p, rfl, p1, p2⟩, hr, hg⟩
      have g6 := Hd.mk (g5.out.trans (g5.out.gs.rd hg hr))
      clear hr hg hp j0
      have hp := s_put C D3 ⟨1 + p, wd, xa, xb, 0, 0, []⟩ none 0 0 w6 g6.out.gs m3.out (by have h9 := i3.out.next; omega) (kinst_nil _ _ _ _ _ _ _ _) (no24n (by show 1 + p < 24; omega))
      go_wp2_with fail
      refine hp.mono ?_; rintro e w7 ⟨y2, D4, rfl, hg, hi, hn'⟩
      have g7 := Hd.mk (g6.out.trans hg)
      have i4 := Hd.mk (i3.out.trans hi)
      have m4 := Hd.mk hn'
      clear hg hi hn' hp
      go_wp2
      go_roundw
      case rel => exact ⟨i + 1, D4, by omega, by go_num, g7, ⟨i4.out.mono (by omega)⟩, m4⟩
      case measure => simp [intOf]; omega
end Go.Proofs.YtkcgejbnhpccdaaGreat
