/- What functions of the given program do in the ideal machine (J13), and the plain laws of what they answer; the conditions stand in each theorem. -/
import Derived.Test.YtoamjmokonnglaaDoorJe
set_option linter.all false
set_option linter.unusedSectionVars false
set_option linter.unusedSimpArgs false
set_option linter.unusedVariables false
namespace Go.Proofs
open Go Go.Idl Go.Dt
set_option linter.unusedSimpArgs false
variable {b : Nat}
def cutV (d : Dt) (w y : Int) : Int × Int :=
  if checkE d ≠ 0 then (0, checkE d) else if ¬ (0 ≤ w ∧ w ≤ d.stones - 1) then (0, 3) else if ¬ (-3000 ≤ y ∧ y ≤ 3000) then (0, 1)
  else if (foundV d).2 ≠ 0 then (0, (foundV d).2) else (verdT ((tabsL d).all (alwT (1 + w.toNat) y)) ((tabsL d).all (nevT (1 + w.toNat) y)), 0)
theorem all_snoc {l : List (List Int)} {p : List Int → Bool} {U : List Int} : (l ++ [U]).all p = (l.all p && p U) := by simp
theorem alwT_D {v : Nat} {y : Int} {U : List Int} : alwT v y U = D (-tb U v 0 = y ∧ tb U 0 v = y) := by rw [D_dec]; unfold alwT; by_cases h1 : -tb U v 0 = y <;> by_cases h2 : tb U 0 v = y <;> simp [h1, h2]
set_option maxRecDepth 10000 in
set_option maxHeartbeats 4000000 in
theorem cut_to {d : Dt} {w y : Int} {o1 o2 : Option Bool} : Ans Tryd.prog (AA b) 12 [encD o1 o2 d, I w, I y] (fun v => v = .tup [I (cutV d w y).1, I (cutV d w y).2]) := by
  refine Ans_of Tryd.func12 rfl rfl ?_
  have and2 : ∀ {p q : Prop}, ¬ (p ∧ q) → p → ¬ q := fun h a c => h ⟨a, c⟩
  by_cases h1 : checkE d = 0
  case neg =>
    rw [cutV, if_pos h1]
    simp +contextual (maxSteps := 1000000) (disch := first | omega | (with_reducible first | refine krN ?_ | refine krS ?_ | refine krP ?_ | refine krG ?_); kernel_rfl | refine kr ?_; simp only [go_sem, reduceCtorEq, wc6, h1]; done | fail) only [go_sem, seval, -List.reduceReplicate, wc6, h1]
  have hd := checkE_ok.1 h1
  have hs6 := hd.stones
  have hw : IntKind.wrap .i64 (d.stones - 1) = d.stones - 1 := wrap_i64 (by omega) (by omega)
  by_cases h2 : 0 ≤ w ∧ w ≤ d.stones - 1
  case neg =>
    rw [cutV, if_neg (fun h => h h1), if_pos h2]
    by_cases k : 0 ≤ w
    · have := and2 h2 k
      simp +contextual (maxSteps := 1000000) (disch := first | omega | (with_reducible first | refine krN ?_ | refine krS ?_ | refine krP ?_ | refine krG ?_); kernel_rfl | refine kr ?_; simp only [go_sem, reduceCtorEq, wc6, h1, hw, k, this]; done | fail) only [go_sem, seval, -List.reduceReplicate, wc6, h1, hw, k, this]
    · simp +contextual (maxSteps := 1000000) (disch := first | omega | (with_reducible first | refine krN ?_ | refine krS ?_ | refine krP ?_ | refine krG ?_); kernel_rfl | refine kr ?_; simp only [go_sem, reduceCtorEq, wc6, h1, hw, k]; done | fail) only [go_sem, seval, -List.reduceReplicate, wc6, h1, hw, k]
  by_cases h3 : -3000 ≤ y ∧ y ≤ 3000
  case neg =>
    rw [cutV, if_neg (fun h => h h1), if_neg (fun h => h h2), if_pos h3]
    by_cases k : -3000 ≤ y
    · have := and2 h3 k
      simp +contextual (maxSteps := 1000000) (disch := first | omega | (with_reducible first | refine krN ?_ | refine krS ?_ | refine krP ?_ | refine krG ?_); kernel_rfl | refine kr ?_; simp only [go_sem, reduceCtorEq, wc6, h1, hw, h2, k, this]; done | fail) only [go_sem, seval, -List.reduceReplicate, wc6, h1, hw, h2, k, this]
    · simp +contextual (maxSteps := 1000000) (disch := first | omega | (with_reducible first | refine krN ?_ | refine krS ?_ | refine krP ?_ | refine krG ?_); kernel_rfl | refine kr ?_; simp only [go_sem, reduceCtorEq, wc6, h1, hw, h2, k]; done | fail) only [go_sem, seval, -List.reduceReplicate, wc6, h1, hw, h2, k]
  rw [cutV, if_neg (fun h => h h1), if_neg (fun h => h h2), if_neg (fun h => h h3)]
  by_cases h4 : (foundV d).2 = 0
  case neg =>
    have h5 := foundV_no h4
    rw [if_pos h4]
    simp +contextual (maxSteps := 1000000) (disch := first | omega | (with_reducible first | refine krN ?_ | refine krS ?_ | refine krP ?_ | refine krG ?_); kernel_rfl | refine kr ?_; simp only [go_sem, reduceCtorEq, wc6, h1, hw, h2, h3, wc20, h4, h5]; done | fail) only [go_sem, seval, -List.reduceReplicate, wc6, h1, hw, h2, h3, wc20, h4, h5]
  obtain ⟨_, hne, hf⟩ := foundV_ok h4
  have hT := tabs_TOk hd
  have hlen : (tabsL d).length ≤ 10000 := by have := tabs_len hd; omega
  rw [if_neg (fun h => h h4)]
  simp +contextual (maxSteps := 1000000) (disch := first | omega | (with_reducible first | refine krN ?_ | refine krS ?_ | refine krP ?_ | refine krG ?_); kernel_rfl | refine kr ?_; simp only [go_sem, reduceCtorEq, wc6, h1, hw, h2, h3, wc20, hf]; done | fail) only [go_sem, seval, -List.reduceReplicate, wc6, h1, hw, h2, h3, wc20, hf]
  generalize tabsL d = l at hne hT hlen
  obtain ⟨wn, hwn⟩ : ∃ n, w.toNat = n := ⟨_, rfl⟩
  have hwn' : w = wn := by omega
  rw [hwn]
  refine wp_loop_to l.length (fun i st => ∃ ex, st = ({ sl := (1, I w) :: (2, I y) :: (11, .bool ((l.take i).all (alwT (1 + wn) y))) :: (12, .bool ((l.take i).all (nevT (1 + wn) y))) :: (40, .lst 100 (l.map tV) false) :: (41, I l.length) :: (42, I i) :: ex, hp := noHeap, nx := 0 } : FS)) ?_ 0 (Nat.zero_le _) ⟨_, rfl⟩
  rintro i st hi ⟨ex, rfl⟩
  by_cases hc : i < l.length
  · have htk := take_snoc hc
    obtain ⟨hg, hB⟩ := hT _ (get!_mem hc)
    have hli := hg.good.len
    have hAs := all_snoc (l := l.take i) (p := alwT (1 + wn) y) (U := l[i]!)
    have hNs := all_snoc (l := l.take i) (p := nevT (1 + wn) y) (U := l[i]!)
    rw [← htk] at hAs hNs
    have hw1 : IntKind.wrap .i64 (1 + w) = ((1 + wn : Nat) : Int) := by rw [wrap_i64 (by omega) (by omega)]; omega
    have h10 : 1 + wn < 10 := by omega
    generalize (l.take i).all (alwT (1 + wn) y) = A at hAs
    generalize (l.take i).all (nevT (1 + wn) y) = N at hNs
    cases A <;> cases N
    all_goals
      rw [Bool.and_comm] at hAs hNs
      simp only [Bool.and_true, Bool.and_false] at hAs hNs
    · simp +contextual (maxSteps := 1000000) (disch := first | omega | (with_reducible first | refine krN ?_ | refine krS ?_ | refine krP ?_ | refine krG ?_); kernel_rfl | refine kr ?_; simp only [go_sem, reduceCtorEq, hc, Int.ofNat_lt, ix_lst, hli, hw1, wc23z, h10, hB, hAs, hNs]; done | fail) only [go_sem, seval, -List.reduceReplicate, hc, Int.ofNat_lt, ix_lst, hli, hw1, wc23z, h10, hB, hAs, hNs]
      exact ⟨_, rfl⟩
    · simp +contextual (maxSteps := 1000000) (disch := first | omega | (with_reducible first | refine krN ?_ | refine krS ?_ | refine krP ?_ | refine krG ?_); kernel_rfl | refine kr ?_; simp only [go_sem, reduceCtorEq, hc, Int.ofNat_lt, ix_lst, hli, hw1, wc23z, h10, hB, hAs, hNs]; done | fail) only [go_sem, seval, -List.reduceReplicate, hc, Int.ofNat_lt, ix_lst, hli, hw1, wc23z, h10, hB, hAs, hNs]
      exact ⟨_, rfl⟩
    · simp +contextual (maxSteps := 1000000) (disch := first | omega | (with_reducible first | refine krN ?_ | refine krS ?_ | refine krP ?_ | refine krG ?_); kernel_rfl | refine kr ?_; simp only [go_sem, reduceCtorEq, hc, Int.ofNat_lt, ix_lst, hli, hw1, wc23z, h10, hB, hAs, hNs]; done | fail) only [go_sem, seval, -List.reduceReplicate, hc, Int.ofNat_lt, ix_lst, hli, hw1, wc23z, h10, hB, hAs, hNs]
      rw [alwT_D]
      exact ⟨_, rfl⟩
    · simp +contextual (maxSteps := 1000000) (disch := first | omega | (with_reducible first | refine krN ?_ | refine krS ?_ | refine krP ?_ | refine krG ?_); kernel_rfl | refine kr ?_; simp only [go_sem, reduceCtorEq, hc, Int.ofNat_lt, ix_lst, hli, hw1, wc23z, h10, hB, hAs, hNs]; done | fail) only [go_sem, seval, -List.reduceReplicate, hc, Int.ofNat_lt, ix_lst, hli, hw1, wc23z, h10, hB, hAs, hNs]
      rw [alwT_D]
      exact ⟨_, rfl⟩
  · have hie : i = l.length := by omega
    subst hie
    simp +contextual (maxSteps := 1000000) (disch := first | omega | (with_reducible first | refine krN ?_ | refine krS ?_ | refine krP ?_ | refine krG ?_); kernel_rfl | refine kr ?_; simp only [go_sem, reduceCtorEq, Int.lt_irrefl, List.take_length]; done | fail) only [go_sem, seval, -List.reduceReplicate, Int.lt_irrefl, List.take_length]
def earV (d : Dt) (a c : Int) : Int × Int :=
  if checkE d ≠ 0 then (0, checkE d) else if ¬ ((0 ≤ a ∧ a ≤ d.stones - 1) ∧ (0 ≤ c ∧ c ≤ d.stones - 1)) then (0, 3)
  else if (foundV d).2 ≠ 0 then (0, (foundV d).2) else (verdT ((tabsL d).all (befT (1 + a.toNat) (1 + c.toNat))) ((tabsL d).all (notT (1 + a.toNat) (1 + c.toNat))), 0)
set_option maxRecDepth 10000 in
set_option maxHeartbeats 4000000 in
theorem ear_to {d : Dt} {a c : Int} {o1 o2 : Option Bool} : Ans Tryd.prog (AA b) 14 [encD o1 o2 d, I a, I c] (fun v => v = .tup [I (earV d a c).1, I (earV d a c).2]) := by
  refine Ans_of Tryd.func14 rfl rfl ?_
  have and2 : ∀ {p q : Prop}, ¬ (p ∧ q) → p → ¬ q := fun h a c => h ⟨a, c⟩
  by_cases h1 : checkE d = 0
  case neg =>
    rw [earV, if_pos h1]
    simp +contextual (maxSteps := 1000000) (disch := first | omega | (with_reducible first | refine krN ?_ | refine krS ?_ | refine krP ?_ | refine krG ?_); kernel_rfl | refine kr ?_; simp only [go_sem, reduceCtorEq, wc6, h1]; done | fail) only [go_sem, seval, -List.reduceReplicate, wc6, h1]
  have hd := checkE_ok.1 h1
  have hs6 := hd.stones
  have hw : IntKind.wrap .i64 (d.stones - 1) = d.stones - 1 := wrap_i64 (by omega) (by omega)
  rw [earV, if_neg (fun h => h h1)]
  by_cases h2 : 0 ≤ a ∧ a ≤ d.stones - 1
  case neg =>
    rw [if_pos (fun h => h2 h.1)]
    by_cases k : 0 ≤ a
    · have := and2 h2 k
      simp +contextual (maxSteps := 1000000) (disch := first | omega | (with_reducible first | refine krN ?_ | refine krS ?_ | refine krP ?_ | refine krG ?_); kernel_rfl | refine kr ?_; simp only [go_sem, reduceCtorEq, wc6, h1, hw, k, this]; done | fail) only [go_sem, seval, -List.reduceReplicate, wc6, h1, hw, k, this]
    · simp +contextual (maxSteps := 1000000) (disch := first | omega | (with_reducible first | refine krN ?_ | refine krS ?_ | refine krP ?_ | refine krG ?_); kernel_rfl | refine kr ?_; simp only [go_sem, reduceCtorEq, wc6, h1, hw, k]; done | fail) only [go_sem, seval, -List.reduceReplicate, wc6, h1, hw, k]
  by_cases h3 : 0 ≤ c ∧ c ≤ d.stones - 1
  case neg =>
    rw [if_pos (fun h => h3 h.2)]
    by_cases k : 0 ≤ c
    · have := and2 h3 k
      simp +contextual (maxSteps := 1000000) (disch := first | omega | (with_reducible first | refine krN ?_ | refine krS ?_ | refine krP ?_ | refine krG ?_); kernel_rfl | refine kr ?_; simp only [go_sem, reduceCtorEq, wc6, h1, hw, h2, k, this]; done | fail) only [go_sem, seval, -List.reduceReplicate, wc6, h1, hw, h2, k, this]
    · simp +contextual (maxSteps := 1000000) (disch := first | omega | (with_reducible first | refine krN ?_ | refine krS ?_ | refine krP ?_ | refine krG ?_); kernel_rfl | refine kr ?_; simp only [go_sem, reduceCtorEq, wc6, h1, hw, h2, k]; done | fail) only [go_sem, seval, -List.reduceReplicate, wc6, h1, hw, h2, k]
  rw [if_neg (fun h => h ⟨h2, h3⟩)]
  by_cases h4 : (foundV d).2 = 0
  case neg =>
    have h5 := foundV_no h4
    rw [if_pos h4]
    simp +contextual (maxSteps := 1000000) (disch := first | omega | (with_reducible first | refine krN ?_ | refine krS ?_ | refine krP ?_ | refine krG ?_); kernel_rfl | refine kr ?_; simp only [go_sem, reduceCtorEq, wc6, h1, hw, h2, h3, wc20, h4, h5]; done | fail) only [go_sem, seval, -List.reduceReplicate, wc6, h1, hw, h2, h3, wc20, h4, h5]
  obtain ⟨_, hne, hf⟩ := foundV_ok h4
  have hT := tabs_TOk hd
  have hlen : (tabsL d).length ≤ 10000 := by have := tabs_len hd; omega
  rw [if_neg (fun h => h h4)]
  simp +contextual (maxSteps := 1000000) (disch := first | omega | (with_reducible first | refine krN ?_ | refine krS ?_ | refine krP ?_ | refine krG ?_); kernel_rfl | refine kr ?_; simp only [go_sem, reduceCtorEq, wc6, h1, hw, h2, h3, wc20, hf]; done | fail) only [go_sem, seval, -List.reduceReplicate, wc6, h1, hw, h2, h3, wc20, hf]
  generalize tabsL d = l at hne hT hlen
  obtain ⟨an, han⟩ : ∃ n, a.toNat = n := ⟨_, rfl⟩
  have han' : a = an := by omega
  obtain ⟨cn, hcn⟩ : ∃ n, c.toNat = n := ⟨_, rfl⟩
  have hcn' : c = cn := by omega
  rw [han, hcn]
  refine wp_loop_to l.length (fun i st => ∃ ex, st = ({ sl := (1, I a) :: (2, I c) :: (11, .bool ((l.take i).all (befT (1 + an) (1 + cn)))) :: (12, .bool ((l.take i).all (notT (1 + an) (1 + cn)))) :: (43, .lst 100 (l.map tV) false) :: (44, I l.length) :: (45, I i) :: ex, hp := noHeap, nx := 0 } : FS)) ?_ 0 (Nat.zero_le _) ⟨_, rfl⟩
  rintro i st hi ⟨ex, rfl⟩
  by_cases hc : i < l.length
  · have htk := take_snoc hc
    obtain ⟨hg, hB⟩ := hT _ (get!_mem hc)
    have hli := hg.good.len
    have hAs := all_snoc (l := l.take i) (p := befT (1 + an) (1 + cn)) (U := l[i]!)
    have hNs := all_snoc (l := l.take i) (p := notT (1 + an) (1 + cn)) (U := l[i]!)
    rw [← htk] at hAs hNs
    have hw1 : IntKind.wrap .i64 (1 + a) = ((1 + an : Nat) : Int) := by rw [wrap_i64 (by omega) (by omega)]; omega
    have hw2 : IntKind.wrap .i64 (1 + c) = ((1 + cn : Nat) : Int) := by rw [wrap_i64 (by omega) (by omega)]; omega
    have ha10 : 1 + an < 10 := by omega
    have hc10 : 1 + cn < 10 := by omega
    generalize (l.take i).all (befT (1 + an) (1 + cn)) = A at hAs
    generalize (l.take i).all (notT (1 + an) (1 + cn)) = N at hNs
    by_cases e1 : 0 < -tb l[i]! (1 + cn) (1 + an)
    all_goals by_cases e2 : tb l[i]! (1 + an) (1 + cn) ≤ 0
    all_goals cases A <;> cases N
    all_goals
      simp only [befT, notT, gt_iff_lt, e1, e2, decide_true, decide_false, Bool.and_true, Bool.and_false, Bool.and_self] at hAs hNs
      simp +contextual (maxSteps := 1000000) (disch := first | omega | (with_reducible first | refine krN ?_ | refine krS ?_ | refine krP ?_ | refine krG ?_); kernel_rfl | refine kr ?_; simp only [go_sem, reduceCtorEq, hc, Int.ofNat_lt, ix_lst, hli, hw1, hw2, wc23, ha10, hc10, hB, hAs, hNs, e1, e2]; done | fail) only [go_sem, seval, -List.reduceReplicate, hc, Int.ofNat_lt, ix_lst, hli, hw1, hw2, wc23, ha10, hc10, hB, hAs, hNs, e1, e2]
    all_goals exact ⟨_, rfl⟩
  · have hie : i = l.length := by omega
    subst hie
    simp +contextual (maxSteps := 1000000) (disch := first | omega | (with_reducible first | refine krN ?_ | refine krS ?_ | refine krP ?_ | refine krG ?_); kernel_rfl | refine kr ?_; simp only [go_sem, reduceCtorEq, Int.lt_irrefl, List.take_length]; done | fail) only [go_sem, seval, -List.reduceReplicate, Int.lt_irrefl, List.take_length]
section
variable {m : Mem} {K : Vl → Mem → Prop}
end
end Go.Proofs
