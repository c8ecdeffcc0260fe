import Derived.Test.YtkcgejbnhpccdaaGreatT48
import Derived.Test.YtkcgejbnhpccdaaGreatT10
import Derived.Test.YtkcgejbnhpccdaaGreatT02
import Derived.Test.YtkcgejbnhpccdaaGreatT15
import Derived.Test.YtkcgejbnhpccdaaGreatT03
import Derived.Test.YtkcgejbnhpccdaaGreatT44
set_option linter.unusedSimpArgs false
set_option linter.unusedVariables false
namespace Go.Proofs.YtkcgejbnhpccdaaGreat
open Go.RowKit
theorem cs3 {cs : List Value} {a b c : Value} (h : cs.length = 3) (h0 : cs[0]? = some a) (h1 : cs[1]? = some b) (h2 : cs[2]? = some c) : cs = [a, b, c] := by
  match cs, h with
  | [x1, x2, x3], _ => simp at h0 h1 h2; rw [h0, h1, h2]
instance {lo hi : Nat} : KC (SFunc lo hi) := ⟨fun ⟨v, a, v', h, r, s⟩ hch hl hc => by
  subst h
  obtain ⟨i1, h1⟩ := int1 (hc 1 _ rfl) ⟨_, rfl⟩
  exact ⟨v, i1, v', cs3 hl (fix1 (hc 0 _ rfl) r.ne) h1 (fix1 (hc 2 _ rfl) s.ne), r.mv hch, s.mv hch⟩⟩
abbrev SlFunc (lo hi : Nat) := Sl lo hi 3 (SFunc lo hi)
def SMod (lo hi : Nat) (w : World) (x : XMod) (cs : List Value) : Prop := ∃ v, cs = [v] ∧ SlFunc lo hi w v x.funcs
theorem res_K {base : Nat} {w : World} {x : XRes} {v : Value} (h : w.ownsRow base 2 1 v x.out.length (x.out.map (Value.int .i64))) (hl : x.out.length ≤ lm) : KRes w x [.int .i64 x.code, .int .i64 x.value, v, .string x.mem, .int .i64 x.steps] := ⟨v, rfl, (OwI.of h).rd hl⟩
theorem SMod.mv {lo hi l' h' : Nat} {w w' : World} {x : XMod} {cs : List Value} (h : SMod lo hi w x cs) (hc : Chg l' h' w w') : SMod lo hi w' x cs := by
  obtain ⟨v, rfl, r⟩ := h; exact ⟨v, rfl, r.mv hc⟩
theorem resR_out (m : XMod) (k : Int) (args : List Int) (mem : ByteArray) (fuel : Int) : (resR m k args mem fuel).out.length ≤ lm := by
  unfold resR resI
  split
  · rename_i hm
    split
    · rename_i h
      unfold invOk at h
      simp only [Bool.and_eq_true, beq_iff_eq] at h
      obtain ⟨⟨⟨h1, h2⟩, h3⟩, h4⟩ := h
      have := (callR_ok (modOk_parts hm).1 fuel.toNat 6 k args (rs0 mem) (rs0_ok mem h3 _) (args_rng h2).2).1.out
      exact Nat.le_trans this (by decide)
    · exact Nat.zero_le _
  · exact Nat.zero_le _
end Go.Proofs.YtkcgejbnhpccdaaGreat
