/- What functions of the given program do in the ideal machine (G11), and the plain laws of what they answer; the conditions stand in each theorem. -/
import Derived.Test.YtencmmlmeifffaaGb
set_option linter.all false
set_option linter.unusedSectionVars false
set_option linter.unusedSimpArgs false
set_option linter.unusedVariables false
namespace Go.Proofs
open Go Go.Idl
set_option linter.unusedSimpArgs false
variable {b : Bool}
theorem between_to (n lo hi : Int) : Ans Try.prog (AA b) 65 [I n, I lo, I hi] (fun v => v = .bool (decide (lo ≤ n) && decide (n ≤ hi))) := by
  refine Ans_of Try.func65 rfl rfl ?_
  by_cases h : lo ≤ n
  · simp +contextual (maxSteps := 1000000) (disch := first | omega | (with_reducible first | refine krN ?_ | refine krS ?_ | refine krP ?_ | refine krG ?_); kernel_rfl | refine kr ?_; simp only [go_sem, seval, -List.reduceReplicate, h]; done | fail) only [go_sem, seval, -List.reduceReplicate, h]
  · simp +contextual (maxSteps := 1000000) (disch := first | omega | (with_reducible first | refine krN ?_ | refine krS ?_ | refine krP ?_ | refine krG ?_); kernel_rfl | refine kr ?_; simp only [go_sem, seval, -List.reduceReplicate, h]; done | fail) only [go_sem, seval, -List.reduceReplicate, h]
section
variable {m : Mem} {K : Vl → Mem → Prop}
theorem wc65 (n lo hi : Int) : WC Try.prog (AA b) (.fn (.func 65) [] []) [.v (I n), .v (I lo), .v (I hi)] m K = K (.bool (decide (lo ≤ n) && decide (n ≤ hi))) m := WC_flat (by simp only [mkAnn, K65]) (rfAs (xs := [I n, I lo, I hi]) rfl) (between_to n lo hi) rfl
end
attribute [go_sem] wc65
section
variable {m : Mem} {K : Vl → Mem → Prop}
end
end Go.Proofs
