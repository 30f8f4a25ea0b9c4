/- What functions of the given program do in the ideal machine (E6), and the plain laws of what they answer; the conditions stand in each theorem. -/
import Derived.Test.YtencmmlmeifffaaEa
set_option linter.all false
set_option linter.unusedSectionVars false
set_option linter.unusedSimpArgs false
set_option linter.unusedVariables false
namespace Go.Proofs
open Go Go.Idl
set_option linter.unusedSimpArgs false
variable {b : Bool}
@[reducible] def U (n : Int) : Vl := .int .u64 n
def Urned (u : Nat) (hp hp' : Nat → Ob) : Prop := ∃ x y, hp' = upd hp u (.box (.agg [U x, U y]))
theorem Urned.trans {u : Nat} {h1 h2 h3 : Nat → Ob} (a : Urned u h1 h2) (c : Urned u h2 h3) : Urned u h1 h3 := by
  obtain ⟨x, y, rfl⟩ := a
  obtain ⟨x', y', rfl⟩ := c
  exact ⟨x', y', by rw [upd_upd]⟩
def IsUrn (u : Nat) (hp : Nat → Ob) : Prop := ∃ x y, hp u = .box (.agg [U x, U y])
theorem Urned.urn {u : Nat} {h1 h2 : Nat → Ob} (a : Urned u h1 h2) : IsUrn u h2 := by
  obtain ⟨x, y, rfl⟩ := a
  exact ⟨x, y, upd_same _ _ _⟩
theorem wrap_u64 (n : Int) : 0 ≤ IntKind.wrap .u64 n ∧ IntKind.wrap .u64 n < 18446744073709551616 := by
  show 0 ≤ (if (false && decide (n % 18446744073709551616 ≥ 2 ^ 63)) = true then n % 18446744073709551616 - 18446744073709551616 else n % 18446744073709551616) ∧ (if (false && decide (n % 18446744073709551616 ≥ 2 ^ 63)) = true then n % 18446744073709551616 - 18446744073709551616 else n % 18446744073709551616) < 18446744073709551616
  simp only [Bool.false_and, Bool.false_eq_true, if_false]
  omega
theorem turn_to {u nx : Nat} {hp : Nat → Ob} (h : IsUrn u hp) : HAns Try.prog (AA b) 53 [.bp u 0] hp nx (fun v hp' nx' => nx' = nx ∧ Urned u hp hp' ∧ ∃ n, v = U n ∧ 0 ≤ n ∧ n < 18446744073709551616) := by
  obtain ⟨x, y, hu⟩ := h
  refine HAns_of Try.func53 rfl ?_
  simp only [go_sem, ↓reduceIte, Nat.reduceEqDiff, Nat.reduceAdd, Nat.reduceMul, Nat.reduceLeDiff, Nat.reduceLT, Nat.reduceBEq, bne, reduceCtorEq, Int.reduceLE, hu]
  refine wp_draw (ps := []) (by kernel_rfl) (by kernel_rfl) rfl ?_
  simp only [go_sem, ↓reduceIte, Nat.reduceEqDiff, Nat.reduceAdd, Nat.reduceMul, Nat.reduceLeDiff, Nat.reduceLT, Nat.reduceBEq, bne, reduceCtorEq, Int.reduceLE, hu]
  refine wp_draw (ps := []) (by kernel_rfl) (by kernel_rfl) rfl ?_
  simp only [go_sem, ↓reduceIte, Nat.reduceEqDiff, Nat.reduceAdd, Nat.reduceMul, Nat.reduceLeDiff, Nat.reduceLT, Nat.reduceBEq, bne, reduceCtorEq, Int.reduceLE, hu]
  generalize xorI .u64 _ _ = z
  by_cases c : orI .u64 y z = 0
  all_goals
    simp only [go_sem, ↓reduceIte, Nat.reduceEqDiff, Nat.reduceAdd, Nat.reduceMul, Nat.reduceLeDiff, Nat.reduceLT, Nat.reduceBEq, bne, reduceCtorEq, Int.reduceLE, hu, c]
    exact ⟨⟨_, _, rfl⟩, _, rfl, wrap_u64 _⟩
theorem conv_n {n : Int} (h1 : 0 ≤ n) (h2 : n < 9223372036854775808) : IntKind.wrap .u64 n = n := by
  show (if (false && decide (n % 18446744073709551616 ≥ 2 ^ 63)) = true then n % 18446744073709551616 - 18446744073709551616 else n % 18446744073709551616) = n
  simp only [Bool.false_and, Bool.false_eq_true, if_false]
  omega
end Go.Proofs
