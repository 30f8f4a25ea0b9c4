/- What functions of the given program do in the ideal machine (G11), and the plain laws of what they answer; the conditions stand in each theorem. -/
import Derived.Test.YtencmmlmeifffaaGb
set_option linter.all false
set_option linter.unusedSectionVars false
set_option linter.unusedSimpArgs false
set_option linter.unusedVariables false
namespace Go.Proofs
open Go Go.Idl
set_option linter.unusedSimpArgs false
variable {b : Bool}
theorem between_to (n lo hi : Int) : Ans Try.prog (AA b) 65 [I n, I lo, I hi] (fun v => v = .bool (decide (lo ≤ n) && decide (n ≤ hi))) := by
  refine Ans_of Try.func65 rfl rfl ?_
  by_cases h : lo ≤ n
  · simp +contextual (maxSteps := 1000000) (disch := first | omega | (with_reducible first | refine krN ?_ | refine krS ?_ | refine krP ?_ | refine krG ?_); kernel_rfl | refine kr ?_; simp only [go_sem, seval, -List.reduceReplicate, h]; done | fail) only [go_sem, seval, -List.reduceReplicate, h]
  · simp +contextual (maxSteps := 1000000) (disch := first | omega | (with_reducible first | refine krN ?_ | refine krS ?_ | refine krP ?_ | refine krG ?_); kernel_rfl | refine kr ?_; simp only [go_sem, seval, -List.reduceReplicate, h]; done | fail) only [go_sem, seval, -List.reduceReplicate, h]
section
variable {m : Mem} {K : Vl → Mem → Prop}
theorem wc65 (n lo hi : Int) : WC Try.prog (AA b) (.fn (.func 65) [] []) [.v (I n), .v (I lo), .v (I hi)] m K = K (.bool (decide (lo ≤ n) && decide (n ≤ hi))) m := WC_flat (by simp only [mkAnn, K65]) (rfAs (xs := [I n, I lo, I hi]) rfl) (between_to n lo hi) rfl
end
attribute [go_sem] wc65
section
variable {m : Mem} {K : Vl → Mem → Prop}
def countM (r : Roll) (a n : Nat) : Nat := ((List.range n).filter fun i => !r.cs[i]!.kin && decide (r.cs[i]!.man = (a : Int))).length
theorem countM_succ {r : Roll} {a n : Nat} : countM r a (n + 1) = countM r a n + (if r.cs[n]!.kin = false ∧ r.cs[n]!.man = (a : Int) then 1 else 0) := by
  unfold countM
  rw [List.range_succ, List.filter_append, List.length_append]
  congr 1
  by_cases h : r.cs[n]!.kin = false ∧ r.cs[n]!.man = (a : Int)
  · rw [if_pos h, List.filter_cons_of_pos (by rw [h.1, decide_eq_true h.2]; rfl)]; rfl
  · rw [if_neg h, List.filter_cons_of_neg (by
      intro e
      simp only [Bool.and_eq_true, Bool.not_eq_true', decide_eq_true_eq] at e
      exact h e)]; rfl
theorem countM_le {r : Roll} {a n : Nat} : countM r a n ≤ n := by
  have := List.length_filter_le (fun i => !r.cs[i]!.kin && decide (r.cs[i]!.man = (a : Int))) (List.range n)
  simpa [countM] using this
end
end Go.Proofs
