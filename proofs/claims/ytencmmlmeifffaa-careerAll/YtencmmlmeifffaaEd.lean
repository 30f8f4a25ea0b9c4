/- What functions of the given program do in the ideal machine (E6), and the plain laws of what they answer; the conditions stand in each theorem. -/
import Derived.Test.YtencmmlmeifffaaEa
set_option linter.all false
set_option linter.unusedSectionVars false
set_option linter.unusedSimpArgs false
set_option linter.unusedVariables false
namespace Go.Proofs
open Go Go.Idl
set_option linter.unusedSimpArgs false
variable {b : Bool}
@[reducible] def U (n : Int) : Vl := .int .u64 n
def Urned (u : Nat) (hp hp' : Nat → Ob) : Prop := ∃ x y, hp' = upd hp u (.box (.agg [U x, U y]))
theorem Urned.trans {u : Nat} {h1 h2 h3 : Nat → Ob} (a : Urned u h1 h2) (c : Urned u h2 h3) : Urned u h1 h3 := by
  obtain ⟨x, y, rfl⟩ := a
  obtain ⟨x', y', rfl⟩ := c
  exact ⟨x', y', by rw [upd_upd]⟩
def IsUrn (u : Nat) (hp : Nat → Ob) : Prop := ∃ x y, hp u = .box (.agg [U x, U y])
theorem Urned.urn {u : Nat} {h1 h2 : Nat → Ob} (a : Urned u h1 h2) : IsUrn u h2 := by
  obtain ⟨x, y, rfl⟩ := a
  exact ⟨x, y, upd_same _ _ _⟩
theorem Urned.ne {u i : Nat} {h1 h2 : Nat → Ob} (a : Urned u h1 h2) (h : i ≠ u) : h2 i = h1 i := by
  obtain ⟨x, y, rfl⟩ := a
  exact upd_ne _ _ h
theorem wrap_u64 (n : Int) : 0 ≤ IntKind.wrap .u64 n ∧ IntKind.wrap .u64 n < 18446744073709551616 := by
  show 0 ≤ (if (false && decide (n % 18446744073709551616 ≥ 2 ^ 63)) = true then n % 18446744073709551616 - 18446744073709551616 else n % 18446744073709551616) ∧ (if (false && decide (n % 18446744073709551616 ≥ 2 ^ 63)) = true then n % 18446744073709551616 - 18446744073709551616 else n % 18446744073709551616) < 18446744073709551616
  simp only [Bool.false_and, Bool.false_eq_true, if_false]
  omega
theorem turn_to {u nx : Nat} {hp : Nat → Ob} (h : IsUrn u hp) : HAns Try.prog (AA b) 53 [.bp u 0] hp nx (fun v hp' nx' => nx' = nx ∧ Urned u hp hp' ∧ ∃ n, v = U n ∧ 0 ≤ n ∧ n < 18446744073709551616) := by
  obtain ⟨x, y, hu⟩ := h
  refine HAns_of Try.func53 rfl ?_
  simp only [go_sem, ↓reduceIte, Nat.reduceEqDiff, Nat.reduceAdd, Nat.reduceMul, Nat.reduceLeDiff, Nat.reduceLT, Nat.reduceBEq, bne, reduceCtorEq, Int.reduceLE, hu]
  refine wp_draw (ps := []) (by kernel_rfl) (by kernel_rfl) rfl ?_
  simp only [go_sem, ↓reduceIte, Nat.reduceEqDiff, Nat.reduceAdd, Nat.reduceMul, Nat.reduceLeDiff, Nat.reduceLT, Nat.reduceBEq, bne, reduceCtorEq, Int.reduceLE, hu]
  refine wp_draw (ps := []) (by kernel_rfl) (by kernel_rfl) rfl ?_
  simp only [go_sem, ↓reduceIte, Nat.reduceEqDiff, Nat.reduceAdd, Nat.reduceMul, Nat.reduceLeDiff, Nat.reduceLT, Nat.reduceBEq, bne, reduceCtorEq, Int.reduceLE, hu]
  generalize xorI .u64 _ _ = z
  by_cases c : orI .u64 y z = 0
  all_goals
    simp only [go_sem, ↓reduceIte, Nat.reduceEqDiff, Nat.reduceAdd, Nat.reduceMul, Nat.reduceLeDiff, Nat.reduceLT, Nat.reduceBEq, bne, reduceCtorEq, Int.reduceLE, hu, c]
    exact ⟨⟨_, _, rfl⟩, _, rfl, wrap_u64 _⟩
theorem conv_n {n : Int} (h1 : 0 ≤ n) (h2 : n < 9223372036854775808) : IntKind.wrap .u64 n = n := by
  show (if (false && decide (n % 18446744073709551616 ≥ 2 ^ 63)) = true then n % 18446744073709551616 - 18446744073709551616 else n % 18446744073709551616) = n
  simp only [Bool.false_and, Bool.false_eq_true, if_false]
  omega
theorem up_to {u nx : Nat} {hp : Nat → Ob} {n : Int} (h : IsUrn u hp) (hn : n < 1000000) : HAns Try.prog (AA b) 41 [.bp u 0, I n] hp nx (fun v hp' nx' => nx' = nx ∧ Urned u hp hp' ∧ ∃ r, v = I r ∧ 0 ≤ r ∧ r < max 1 n) := by
  refine HAns_of Try.func41 rfl ?_
  by_cases c : n < 2
  · simp only [go_sem, ↓reduceIte, Nat.reduceEqDiff, Nat.reduceAdd, Nat.reduceMul, Nat.reduceLeDiff, Nat.reduceLT, Nat.reduceBEq, bne, reduceCtorEq, Int.reduceLE, c]
    obtain ⟨x, y, hu⟩ := h
    refine ⟨⟨x, y, ?_⟩, 0, rfl, by omega, by omega⟩
    funext j
    unfold upd
    split
    · rename_i e; rw [e, hu]
    · rfl
  · have hw : IntKind.wrap .u64 n = n := conv_n (by omega) (by omega)
    have hz : n ≠ 0 := by omega
    simp only [go_sem, ↓reduceIte, Nat.reduceEqDiff, Nat.reduceAdd, Nat.reduceMul, Nat.reduceLeDiff, Nat.reduceLT, Nat.reduceBEq, bne, reduceCtorEq, Int.reduceLE, c]
    refine wc_heap (vs := [.bp u 0]) (by simp only [mkAnn, K53]) rfl (turn_to (b := b) h) ?_
    rintro v hp' nx' ⟨rfl, hU, t, rfl, t0, t1⟩
    simp only [go_sem, ↓reduceIte, Nat.reduceEqDiff, Nat.reduceAdd, Nat.reduceMul, Nat.reduceLeDiff, Nat.reduceLT, Nat.reduceBEq, bne, reduceCtorEq, Int.reduceLE, hw, bin_rem, hz, ne_eq, not_false_eq_true]
    have hs : 0 ≤ shrI .u64 t 11 := by
      show 0 ≤ t.fdiv (2 ^ 11)
      rw [Int.fdiv_eq_ediv_of_nonneg _ (by decide)]
      omega
    have hm : (shrI .u64 t 11).tmod n = shrI .u64 t 11 % n := Int.tmod_eq_emod_of_nonneg hs
    have hm1 := Int.emod_nonneg (shrI .u64 t 11) hz
    have hm2 := Int.emod_lt_of_pos (shrI .u64 t 11) (b := n) (by omega)
    refine ⟨hU, _, rfl, ?_⟩
    rw [hm, wrap_i64 (by omega) (by omega)]
    omega
theorem from_to {u nx : Nat} {hp : Nat → Ob} {lo hi : Int} (h : IsUrn u hp) (h1 : -100000 ≤ lo) (h2 : lo ≤ 100000) (h3 : -100000 ≤ hi) (h4 : hi ≤ 100000) : HAns Try.prog (AA b) 46 [.bp u 0, I lo, I hi] hp nx (fun v hp' nx' => nx' = nx ∧ Urned u hp hp' ∧ ∃ r, v = I r ∧ lo ≤ r ∧ r ≤ max lo hi) := by
  refine HAns_of Try.func46 rfl ?_
  have hw : IntKind.wrap .i64 (hi - lo) = hi - lo := wrap_i64 (by omega) (by omega)
  have hw2 : IntKind.wrap .i64 (hi - lo + 1) = hi - lo + 1 := wrap_i64 (by omega) (by omega)
  simp only [go_sem, ↓reduceIte, Nat.reduceEqDiff, Nat.reduceAdd, Nat.reduceMul, Nat.reduceLeDiff, Nat.reduceLT, Nat.reduceBEq, bne, reduceCtorEq, Int.reduceLE, hw, hw2]
  refine wc_heap (vs := [.bp u 0, I (hi - lo + 1)]) (by simp only [mkAnn, K41]) rfl (up_to (b := b) h (by omega)) ?_
  rintro v hp' nx' ⟨rfl, hU, t, rfl, t0, t1⟩
  have hw3 : IntKind.wrap .i64 (lo + t) = lo + t := wrap_i64 (by omega) (by omega)
  simp only [go_sem, ↓reduceIte, Nat.reduceEqDiff, Nat.reduceAdd, Nat.reduceMul, Nat.reduceLeDiff, Nat.reduceLT, Nat.reduceBEq, bne, reduceCtorEq, Int.reduceLE, hw3]
  exact ⟨hU, _, rfl, by omega, by omega⟩
theorem odds_to {u nx : Nat} {hp : Nat → Ob} {n d : Int} (h : IsUrn u hp) (h1 : d ≤ 100000) : HAns Try.prog (AA b) 40 [.bp u 0, I n, I d] hp nx (fun v hp' nx' => nx' = nx ∧ Urned u hp hp' ∧ ∃ r, v = .bool r) := by
  refine HAns_of Try.func40 rfl ?_
  simp only [go_sem, ↓reduceIte, Nat.reduceEqDiff, Nat.reduceAdd, Nat.reduceMul, Nat.reduceLeDiff, Nat.reduceLT, Nat.reduceBEq, bne, reduceCtorEq, Int.reduceLE]
  refine wc_heap (vs := [.bp u 0, I d]) (by simp only [mkAnn, K41]) rfl (up_to (b := b) h (by omega)) ?_
  rintro v hp' nx' ⟨rfl, hU, t, rfl, t0, t1⟩
  simp only [go_sem, ↓reduceIte, Nat.reduceEqDiff, Nat.reduceAdd, Nat.reduceMul, Nat.reduceLeDiff, Nat.reduceLT, Nat.reduceBEq, bne, reduceCtorEq, Int.reduceLE]
  exact ⟨hU, _, rfl⟩
theorem any_to {u nx : Nat} {hp : Nat → Ob} {xs : List Int} {o : Bool} (h : IsUrn u hp) (hx : xs ≠ []) (hl : xs.length ≤ 1000) : HAns Try.prog (AA b) 36 [.bp u 0, .lst 1 (xs.map I) o] hp nx (fun v hp' nx' => nx' = nx ∧ Urned u hp hp' ∧ ∃ r, v = I r ∧ r ∈ xs) := by
  refine HAns_of Try.func36 rfl ?_
  have hl0 : 0 < xs.length := List.length_pos_iff.2 hx
  have hz : ¬ ((xs.length : Int) = 0) := by omega
  simp only [go_sem, ↓reduceIte, Nat.reduceEqDiff, Nat.reduceAdd, Nat.reduceMul, Nat.reduceLeDiff, Nat.reduceLT, Nat.reduceBEq, bne, reduceCtorEq, Int.reduceLE, List.length_map, hz]
  refine wc_heap (vs := [.bp u 0, I xs.length]) (by simp only [mkAnn, K41]) rfl (up_to (b := b) h (by omega)) ?_
  rintro v hp' nx' ⟨rfl, hU, t, rfl, t0, t1⟩
  obtain ⟨T, rfl⟩ := Int.eq_ofNat_of_zero_le t0
  have hT : T < xs.length := by omega
  have hi : ∀ (m : Mem) (eb : Nat) (ez : Vl), indexAddrV (.slice 1 eb ez) (.v (.lst 1 (xs.map I) o)) (.int .i64 (T : Int)) m = some (.v (.fp (I xs[T]) 0), m) := fun m eb ez => by
    rw [indexAddr_lst (by simp; omega) (by decide)]
    simp [List.getD_eq_getElem?_getD, List.getElem?_eq_getElem hT]
  simp only [go_sem, ↓reduceIte, Nat.reduceEqDiff, Nat.reduceAdd, Nat.reduceMul, Nat.reduceLeDiff, Nat.reduceLT, Nat.reduceBEq, bne, reduceCtorEq, Int.reduceLE, hi]
  exact ⟨hU, _, rfl, List.getElem_mem hT⟩
theorem years_to {u nx : Nat} {hp : Nat → Ob} {n : Int} (h : IsUrn u hp) (h1 : -100000 ≤ n) (h2 : n ≤ 100000) : HAns Try.prog (AA b) 51 [.bp u 0, I n] hp nx (fun v hp' nx' => nx' = nx ∧ Urned u hp hp' ∧ ∃ lo hi, v = Sp lo hi ∧ n - 19 ≤ lo ∧ lo ≤ n ∧ n ≤ hi ∧ hi ≤ n + 19) := by
  refine HAns_of Try.func51 rfl ?_
  simp only [go_sem, ↓reduceIte, Nat.reduceEqDiff, Nat.reduceAdd, Nat.reduceMul, Nat.reduceLeDiff, Nat.reduceLT, Nat.reduceBEq, bne, reduceCtorEq, Int.reduceLE]
  refine wc_heap (vs := [.bp u 0, I 5]) (by simp only [mkAnn, K41]) rfl (up_to (b := b) h (by omega)) ?_
  rintro v hp1 nx' ⟨rfl, hU1, t, rfl, t0, t1⟩
  simp only [go_sem, ↓reduceIte, Nat.reduceEqDiff, Nat.reduceAdd, Nat.reduceMul, Nat.reduceLeDiff, Nat.reduceLT, Nat.reduceBEq, bne, reduceCtorEq, Int.reduceLE]
  refine wc_heap (vs := [.bp u 0, I 20]) (by simp only [mkAnn, K41]) rfl (up_to (b := b) hU1.urn (by omega)) ?_
  rintro v hp2 nx' ⟨rfl, hU2, t2, rfl, t20, t21⟩
  simp only [go_sem, ↓reduceIte, Nat.reduceEqDiff, Nat.reduceAdd, Nat.reduceMul, Nat.reduceLeDiff, Nat.reduceLT, Nat.reduceBEq, bne, reduceCtorEq, Int.reduceLE]
  have hAt := any_to (b := b) (hp := hp2) (nx := nx') (xs := [0, t, t2]) (o := true) hU2.urn (by simp) (by simp)
  simp only [List.map_cons, List.map_nil] at hAt
  refine wc_heap (by simp only [mkAnn, K36]) rfl hAt ?_
  rintro v hp3 nx' ⟨rfl, hU3, t3, rfl, ht3⟩
  have hb3 : 0 ≤ t3 ∧ t3 ≤ 19 := by
    simp only [List.mem_cons, List.not_mem_nil, or_false] at ht3
    omega
  have hw3 : IntKind.wrap .i64 (n - t3) = n - t3 := wrap_i64 (by omega) (by omega)
  simp only [go_sem, ↓reduceIte, Nat.reduceEqDiff, Nat.reduceAdd, Nat.reduceMul, Nat.reduceLeDiff, Nat.reduceLT, Nat.reduceBEq, bne, reduceCtorEq, Int.reduceLE, hw3]
  refine wc_heap (vs := [.bp u 0, I 5]) (by simp only [mkAnn, K41]) rfl (up_to (b := b) hU3.urn (by omega)) ?_
  rintro v hp4 nx' ⟨rfl, hU4, s, rfl, s0, s1⟩
  simp only [go_sem, ↓reduceIte, Nat.reduceEqDiff, Nat.reduceAdd, Nat.reduceMul, Nat.reduceLeDiff, Nat.reduceLT, Nat.reduceBEq, bne, reduceCtorEq, Int.reduceLE]
  refine wc_heap (vs := [.bp u 0, I 20]) (by simp only [mkAnn, K41]) rfl (up_to (b := b) hU4.urn (by omega)) ?_
  rintro v hp5 nx' ⟨rfl, hU5, s2, rfl, s20, s21⟩
  simp only [go_sem, ↓reduceIte, Nat.reduceEqDiff, Nat.reduceAdd, Nat.reduceMul, Nat.reduceLeDiff, Nat.reduceLT, Nat.reduceBEq, bne, reduceCtorEq, Int.reduceLE]
  have hAs := any_to (b := b) (hp := hp5) (nx := nx') (xs := [0, s, s2]) (o := true) hU5.urn (by simp) (by simp)
  simp only [List.map_cons, List.map_nil] at hAs
  refine wc_heap (by simp only [mkAnn, K36]) rfl hAs ?_
  rintro v hp6 nx' ⟨rfl, hU6, s3, rfl, hs3⟩
  have hb6 : 0 ≤ s3 ∧ s3 ≤ 19 := by
    simp only [List.mem_cons, List.not_mem_nil, or_false] at hs3
    omega
  have hw6 : IntKind.wrap .i64 (n + s3) = n + s3 := wrap_i64 (by omega) (by omega)
  simp only [go_sem, ↓reduceIte, Nat.reduceEqDiff, Nat.reduceAdd, Nat.reduceMul, Nat.reduceLeDiff, Nat.reduceLT, Nat.reduceBEq, bne, reduceCtorEq, Int.reduceLE, hw6]
  exact ⟨(((((hU1.trans hU2).trans hU3).trans hU4).trans hU5).trans hU6), _, _, rfl, by omega, by omega, by omega, by omega⟩
end Go.Proofs
