/- What functions of the given program do in the ideal machine (E11, E12), and the plain laws of what they answer; the conditions stand in each theorem. -/
import Derived.Test.YtencmmlmeifffaaEa
set_option linter.all false
set_option linter.unusedSectionVars false
set_option linter.unusedSimpArgs false
set_option linter.unusedVariables false
namespace Go.Proofs
open Go Go.Idl
set_option linter.unusedSimpArgs false
variable {b : Bool}
def Within (k f : List (Int × Int)) : Prop := ∀ i, i < 20 → (f.getD i (0, 0)).1 ≤ (k.getD i (0, 0)).1 ∧ (k.getD i (0, 0)).2 ≤ (f.getD i (0, 0)).2
theorem within_to {k f : List (Int × Int)} (hk : k.length = 20) (hf : f.length = 20) : Ans Try.prog (AA b) 84 [.agg (kc k), .agg (kc f)] (fun v => ∃ t, v = .bool t ∧ (t = true ↔ Within k f)) := by
  refine Ans_of Try.func84 rfl rfl ?_
  have hs1 := sub_kc_all hk
  simp only [go_sem, ↓reduceIte, Nat.reduceEqDiff, Nat.reduceAdd, Nat.reduceMul, Nat.reduceLeDiff, Nat.reduceLT, Nat.reduceBEq, bne, reduceCtorEq, Int.reduceLE, kc_length, hk, hf, hs1]
  refine wp_loop_to 20 (fun i s => ∃ ex, (∀ j, j < i → (f.getD j (0, 0)).1 ≤ (k.getD j (0, 0)).1 ∧ (k.getD j (0, 0)).2 ≤ (f.getD j (0, 0)).2) ∧ s = { sl := (3, .loc (.agg (kc f))) :: (7, .agg (kc k)) :: (8, I i) :: ex, hp := noHeap, nx := 0 }) ?_ 0 (by omega) ⟨[], fun j h => by omega, rfl⟩
  rintro i s hi ⟨ex, hin, rfl⟩
  by_cases hc : i < 20
  · have hci : (i : Int) < 20 := by omega
    have hx : ∀ (m : Mem) (cs : List Vl), indexV (.array 20 2 (some true)) (.agg cs) (.int .i64 (i : Int)) m = (sub true 2 (i * 2) (.agg cs)).map fun v => (.v v, m) := fun m cs => index_arr (by omega)
    have hia : ∀ (m : Mem) (a : Arg), indexAddrV (.array 20 2 (some true)) a (.int .i64 (i : Int)) m = (Arg.shift (i * 2) a).map fun a => (a, m) := fun m a => indexAddr_arr (by omega) (by decide)
    have hsk := sub_kc (ks := k) (i := i) (by omega)
    have hsf1 : sub false 1 (i * 2) (.agg (kc f)) = some (I (f.getD i (0, 0)).1) := sub_kc1 (by omega)
    have hsf2 : sub false 1 (i * 2 + 1) (.agg (kc f)) = some (I (f.getD i (0, 0)).2) := sub_kc2 (by omega)
    have hwi : IntKind.wrap .i64 ((i : Int) + 1) = ((i + 1 : Nat) : Int) := by rw [wrap_i64 (by omega) (by omega)]; omega
    simp only [go_sem, ↓reduceIte, Nat.reduceEqDiff, Nat.reduceAdd, Nat.reduceMul, Nat.reduceLeDiff, Nat.reduceLT, Nat.reduceBEq, bne, reduceCtorEq, Int.reduceLE, hci, hx, hsk]
    refine wp_draw (ps := []) (by kernel_rfl) (by kernel_rfl) rfl ?_
    by_cases c1 : (k.getD i (0, 0)).1 < (f.getD i (0, 0)).1
    · simp only [go_sem, ↓reduceIte, Nat.reduceEqDiff, Nat.reduceAdd, Nat.reduceMul, Nat.reduceLeDiff, Nat.reduceLT, Nat.reduceBEq, bne, reduceCtorEq, Int.reduceLE, hia, hsf1, hsf2, c1]
      refine ⟨false, rfl, ?_⟩
      exact ⟨fun h => (by cases h), fun h => by have := (h i hc).1; omega⟩
    · by_cases c2 : (f.getD i (0, 0)).2 < (k.getD i (0, 0)).2
      · simp only [go_sem, ↓reduceIte, Nat.reduceEqDiff, Nat.reduceAdd, Nat.reduceMul, Nat.reduceLeDiff, Nat.reduceLT, Nat.reduceBEq, bne, reduceCtorEq, Int.reduceLE, hia, hsf1, hsf2, c1, c2]
        refine ⟨false, rfl, ?_⟩
        exact ⟨fun h => (by cases h), fun h => by have := (h i hc).2; omega⟩
      · simp only [go_sem, ↓reduceIte, Nat.reduceEqDiff, Nat.reduceAdd, Nat.reduceMul, Nat.reduceLeDiff, Nat.reduceLT, Nat.reduceBEq, bne, reduceCtorEq, Int.reduceLE, hia, hsf1, hsf2, c1, c2, hwi]
        refine ⟨hc, _, fun j hj => ?_, rfl⟩
        by_cases h : j = i
        · subst h; omega
        · exact hin j (by omega)
  · have hci : ¬ (i : Int) < 20 := by omega
    simp only [go_sem, ↓reduceIte, Nat.reduceEqDiff, Nat.reduceAdd, Nat.reduceMul, Nat.reduceLeDiff, Nat.reduceLT, Nat.reduceBEq, bne, reduceCtorEq, Int.reduceLE, hci]
    exact ⟨true, rfl, fun _ => fun j hj => hin j (by omega), fun _ => rfl⟩
end Go.Proofs
namespace Go.Proofs
open Go Go.Idl
set_option linter.unusedSimpArgs false
variable {b : Bool}
theorem index_to {xs : List Int} {o : Option Bool} {n : Int} (hl : xs.length ≤ 1000000) : Ans Try.prog (AA b) 91 [SL 1 (xs.map I) o, I n] (fun v => ∃ r, v = I r ∧ (0 ≤ r ↔ n ∈ xs)) := by
  refine Ans_of Try.func91 rfl rfl ?_
  simp only [go_sem, ↓reduceIte, Nat.reduceEqDiff, Nat.reduceAdd, Nat.reduceMul, Nat.reduceLeDiff, Nat.reduceLT, Nat.reduceBEq, bne, reduceCtorEq, Int.reduceLE]
  refine wp_loop_to xs.length (fun i s => ∃ ex, (∀ j, j < i → xs[j]? ≠ some n) ∧ s = { sl := (0, SL 1 (xs.map I) o) :: (1, I n) :: (7, I xs.length) :: (8, I i) :: ex, hp := noHeap, nx := 0 }) ?_ 0 (Nat.zero_le _) ⟨[], fun j h => by omega, rfl⟩
  rintro i s hi ⟨ex, hin, rfl⟩
  by_cases hc : i < xs.length
  · have hci : (i : Int) < (xs.length : Int) := by omega
    have hix : ∀ (m : Mem) (eb : Nat) (ez : Vl), indexAddrV (.slice 1 eb ez) (.v (SL 1 (xs.map I) o)) (.int .i64 (i : Int)) m = some (.v (.fp (I xs[i]) 0), m) := fun m eb ez => by
      rw [indexAddr_SL (by simp; omega) (by decide)]
      simp [List.getD_eq_getElem?_getD, List.getElem?_eq_getElem hc]
    have hwi : IntKind.wrap .i64 ((i : Int) + 1) = ((i + 1 : Nat) : Int) := by rw [wrap_i64 (by omega) (by omega)]; omega
    by_cases he : n = xs[i]
    · simp only [go_sem, ↓reduceIte, Nat.reduceEqDiff, Nat.reduceAdd, Nat.reduceMul, Nat.reduceLeDiff, Nat.reduceLT, Nat.reduceBEq, bne, reduceCtorEq, Int.reduceLE, hci, hix, he]
      exact ⟨_, rfl, fun _ => by rw [← he]; rw [he]; exact List.getElem_mem hc, fun _ => by omega⟩
    · simp only [go_sem, ↓reduceIte, Nat.reduceEqDiff, Nat.reduceAdd, Nat.reduceMul, Nat.reduceLeDiff, Nat.reduceLT, Nat.reduceBEq, bne, reduceCtorEq, Int.reduceLE, hci, hix, he, hwi]
      refine ⟨hc, _, fun j hj => ?_, rfl⟩
      by_cases h : j = i
      · subst h
        rw [List.getElem?_eq_getElem hc]
        exact fun e => he (Option.some.inj e).symm
      · exact hin j (by omega)
  · have hci : ¬ (i : Int) < (xs.length : Int) := by omega
    simp only [go_sem, ↓reduceIte, Nat.reduceEqDiff, Nat.reduceAdd, Nat.reduceMul, Nat.reduceLeDiff, Nat.reduceLT, Nat.reduceBEq, bne, reduceCtorEq, Int.reduceLE, hci]
    refine ⟨_, rfl, fun h => absurd h (by decide), fun h => ?_⟩
    obtain ⟨j, hj, e⟩ := List.getElem_of_mem h
    exact absurd (by rw [List.getElem?_eq_getElem hj, e]) (hin j (by omega))
theorem contains_to {xs : List Int} {o : Option Bool} {n : Int} (hl : xs.length ≤ 1000000) : Ans Try.prog (AA b) 73 [SL 1 (xs.map I) o, I n] (fun v => v = .bool (decide (n ∈ xs))) := by
  refine Ans_of Try.func73 rfl rfl ?_
  have hcl : closedL (xs.map I) = true := by
    clear hl
    induction xs with
    | nil => rfl
    | cons x xs ih => simp [closedL, Vl.closed, ih]
  simp only [go_sem, ↓reduceIte, Nat.reduceEqDiff, Nat.reduceAdd, Nat.reduceMul, Nat.reduceLeDiff, Nat.reduceLT, Nat.reduceBEq, bne, reduceCtorEq, Int.reduceLE]
  refine wc_flat (vs := [SL 1 (xs.map I) o, I n]) (by simp only [mkAnn, K91]) (by simp only [go_sem, reify_SL hcl]; rfl) (index_to (b := b) hl) ?_
  rintro v ⟨r, rfl, hr⟩
  refine ⟨rfl, ?_⟩
  by_cases h : 0 ≤ r
  · have hm : n ∈ xs := hr.1 h
    simp only [go_sem, ↓reduceIte, Nat.reduceEqDiff, Nat.reduceAdd, Nat.reduceMul, Nat.reduceLeDiff, Nat.reduceLT, Nat.reduceBEq, bne, reduceCtorEq, Int.reduceLE, h, hm]
  · have hm : ¬ n ∈ xs := fun q => h (hr.2 q)
    simp only [go_sem, ↓reduceIte, Nat.reduceEqDiff, Nat.reduceAdd, Nat.reduceMul, Nat.reduceLeDiff, Nat.reduceLT, Nat.reduceBEq, bne, reduceCtorEq, Int.reduceLE, h, hm]
end Go.Proofs
