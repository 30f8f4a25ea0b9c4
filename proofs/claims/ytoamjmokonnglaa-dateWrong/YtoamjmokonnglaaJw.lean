/- What functions of the given program do in the ideal machine (J31, J32, J33), and the plain laws of what they answer; the conditions stand in each theorem. -/
import Derived.Test.YtoamjmokonnglaaJj
import Derived.Test.YtoamjmokonnglaaJn
set_option linter.all false
set_option linter.unusedSectionVars false
set_option linter.unusedSimpArgs false
set_option linter.unusedVariables false
namespace Go.Proofs
open Go Go.Idl Go.Dt
set_option linter.unusedSimpArgs false
variable {b : Nat}
def mL (n m : Nat) : List Nat := (srtL n).filter fun s => (bitsN s).length == m
@[reducible] def setM (m s : Nat) : Vl := SL 1 ((bitsN s).map I) (if m = 1 then some true else none)
def listsV (n m : Nat) : Vl := .lst 1 ((mL n m).map (setM m)) (m == 0)
theorem l35_0_0 {c : Nat} : pureI Try.prog (AA c) (exec Try.prog (AA c) 100 none) 35 [I 0, I 0, I 0] = some (listsV 0 0) := by kernel_rfl
theorem l35_1_0 {c : Nat} : pureI Try.prog (AA c) (exec Try.prog (AA c) 100 none) 35 [I 0, I 1, I 0] = some (listsV 1 0) := by kernel_rfl
theorem l35_1_1 {c : Nat} : pureI Try.prog (AA c) (exec Try.prog (AA c) 100 none) 35 [I 0, I 1, I 1] = some (listsV 1 1) := by kernel_rfl
theorem l35_2_0 {c : Nat} : pureI Try.prog (AA c) (exec Try.prog (AA c) 100 none) 35 [I 0, I 2, I 0] = some (listsV 2 0) := by kernel_rfl
theorem l35_2_1 {c : Nat} : pureI Try.prog (AA c) (exec Try.prog (AA c) 100 none) 35 [I 0, I 2, I 1] = some (listsV 2 1) := by kernel_rfl
theorem l35_2_2 {c : Nat} : pureI Try.prog (AA c) (exec Try.prog (AA c) 100 none) 35 [I 0, I 2, I 2] = some (listsV 2 2) := by kernel_rfl
theorem l35_3_0 {c : Nat} : pureI Try.prog (AA c) (exec Try.prog (AA c) 100 none) 35 [I 0, I 3, I 0] = some (listsV 3 0) := by kernel_rfl
theorem l35_3_1 {c : Nat} : pureI Try.prog (AA c) (exec Try.prog (AA c) 100 none) 35 [I 0, I 3, I 1] = some (listsV 3 1) := by kernel_rfl
theorem l35_3_2 {c : Nat} : pureI Try.prog (AA c) (exec Try.prog (AA c) 100 none) 35 [I 0, I 3, I 2] = some (listsV 3 2) := by kernel_rfl
theorem l35_3_3 {c : Nat} : pureI Try.prog (AA c) (exec Try.prog (AA c) 100 none) 35 [I 0, I 3, I 3] = some (listsV 3 3) := by kernel_rfl
theorem l35_4_0 {c : Nat} : pureI Try.prog (AA c) (exec Try.prog (AA c) 100 none) 35 [I 0, I 4, I 0] = some (listsV 4 0) := by kernel_rfl
theorem l35_4_1 {c : Nat} : pureI Try.prog (AA c) (exec Try.prog (AA c) 100 none) 35 [I 0, I 4, I 1] = some (listsV 4 1) := by kernel_rfl
theorem l35_4_2 {c : Nat} : pureI Try.prog (AA c) (exec Try.prog (AA c) 100 none) 35 [I 0, I 4, I 2] = some (listsV 4 2) := by kernel_rfl
theorem l35_4_3 {c : Nat} : pureI Try.prog (AA c) (exec Try.prog (AA c) 100 none) 35 [I 0, I 4, I 3] = some (listsV 4 3) := by kernel_rfl
theorem l35_4_4 {c : Nat} : pureI Try.prog (AA c) (exec Try.prog (AA c) 100 none) 35 [I 0, I 4, I 4] = some (listsV 4 4) := by kernel_rfl
theorem l35_5_0 {c : Nat} : pureI Try.prog (AA c) (exec Try.prog (AA c) 100 none) 35 [I 0, I 5, I 0] = some (listsV 5 0) := by kernel_rfl
theorem l35_5_1 {c : Nat} : pureI Try.prog (AA c) (exec Try.prog (AA c) 100 none) 35 [I 0, I 5, I 1] = some (listsV 5 1) := by kernel_rfl
theorem l35_5_2 {c : Nat} : pureI Try.prog (AA c) (exec Try.prog (AA c) 100 none) 35 [I 0, I 5, I 2] = some (listsV 5 2) := by kernel_rfl
theorem l35_5_3 {c : Nat} : pureI Try.prog (AA c) (exec Try.prog (AA c) 100 none) 35 [I 0, I 5, I 3] = some (listsV 5 3) := by kernel_rfl
theorem l35_5_4 {c : Nat} : pureI Try.prog (AA c) (exec Try.prog (AA c) 100 none) 35 [I 0, I 5, I 4] = some (listsV 5 4) := by kernel_rfl
theorem l35_5_5 {c : Nat} : pureI Try.prog (AA c) (exec Try.prog (AA c) 100 none) 35 [I 0, I 5, I 5] = some (listsV 5 5) := by kernel_rfl
theorem lists_to {n m : Nat} (hn : n ≤ 5) (hm : m ≤ n) : Ans Try.prog (AA b) 35 [I 0, I n, I m] (fun v => v = listsV n m) := by
  refine ⟨_, ⟨100, ?_⟩, rfl⟩
  have h6 : n = 0 ∨ n = 1 ∨ n = 2 ∨ n = 3 ∨ n = 4 ∨ n = 5 := by omega
  have k6 : m = 0 ∨ m = 1 ∨ m = 2 ∨ m = 3 ∨ m = 4 ∨ m = 5 := by omega
  rcases h6 with rfl | rfl | rfl | rfl | rfl | rfl <;> rcases k6 with rfl | rfl | rfl | rfl | rfl | rfl <;> first | exact absurd hm (by decide) | skip
  · exact l35_0_0
  · exact l35_1_0
  · exact l35_1_1
  · exact l35_2_0
  · exact l35_2_1
  · exact l35_2_2
  · exact l35_3_0
  · exact l35_3_1
  · exact l35_3_2
  · exact l35_3_3
  · exact l35_4_0
  · exact l35_4_1
  · exact l35_4_2
  · exact l35_4_3
  · exact l35_4_4
  · exact l35_5_0
  · exact l35_5_1
  · exact l35_5_2
  · exact l35_5_3
  · exact l35_5_4
  · exact l35_5_5
theorem setM_cl (m s : Nat) : (setM m s).closed = true := closed_SL (closedL_map (fun _ => rfl) _)
theorem listsV_cl (n m : Nat) : (listsV n m).closed = true := closedL_map (setM_cl m) _
theorem wc35 {n m : Nat} (hn : n ≤ 5) (hm : m ≤ n) {mm : Mem} {K : Vl → Mem → Prop} : WC Try.prog (AA b) (.fn (.func 35) [] []) [.v (.int .i64 0), .v (.int .i64 n), .v (.int .i64 m)] mm K = K (listsV n m) mm :=
  WC_closed (by simp only [mkAnn, K35]) (rfAs (xs := [I 0, I n, I m]) rfl) (listsV_cl n m) (lists_to hn hm)
theorem srt_eq {n : Nat} (hn : n ≤ 5) : srtL n = ((List.range (n + 1)).map (mL n)).flatten := by
  have h6 : n = 0 ∨ n = 1 ∨ n = 2 ∨ n = 3 ∨ n = 4 ∨ n = 5 := by omega
  rcases h6 with rfl | rfl | rfl | rfl | rfl | rfl <;> decide
theorem mL_lt {n m : Nat} (hn : n ≤ 5) : ∀ s ∈ mL n m, s < 32 := fun s hs => by
  have h6 : n = 0 ∨ n = 1 ∨ n = 2 ∨ n = 3 ∨ n = 4 ∨ n = 5 := by omega
  have hs := (List.mem_filter.1 hs).1
  have key : ∀ n, n ≤ 5 → ∀ s ∈ srtL n, s < 32 := fun n h => by
    have h6 : n = 0 ∨ n = 1 ∨ n = 2 ∨ n = 3 ∨ n = 4 ∨ n = 5 := by omega
    rcases h6 with rfl | rfl | rfl | rfl | rfl | rfl <;> decide
  exact key n hn s hs
theorem srt_all {n : Nat} (hn : n ≤ 5) : 2 ^ n - 1 ∈ srtL n := by
  have h6 : n = 0 ∨ n = 1 ∨ n = 2 ∨ n = 3 ∨ n = 4 ∨ n = 5 := by omega
  rcases h6 with rfl | rfl | rfl | rfl | rfl | rfl <;> decide
end Go.Proofs
namespace Go.Proofs
open Go Go.Idl Go.Dt
set_option linter.unusedSimpArgs false
variable {b : Nat}
theorem bits_has {s i : Nat} (hi : i < 8) : (bitsN s).contains (i : Int) = decide (s / 2 ^ i % 2 = 1) := by
  rw [Bool.eq_iff_iff, List.contains_iff_mem, decide_eq_true_iff]
  unfold bitsN
  rw [List.mem_filterMap]
  constructor
  · rintro ⟨a, ha, h⟩
    split at h
    · rename_i h2
      have e : (a : Int) = (i : Int) := Option.some.inj h
      have e : a = i := by omega
      subst e; exact h2
    · cases h
  · intro h
    exact ⟨i, List.mem_range.2 hi, by rw [if_pos h]⟩
theorem ap23w {m : Mem} {id n : Nat} {xs : List Vl} {x : Vl} {o : Bool} (ho : m.hp id = .arr 6 xs) (hn : xs.length = n) (hs : n < 100000) : isAppend Try.prog 23 23 (.own id n) (.lst 6 [x] o) m = some (.own id (n + 1), { m with hp := upd m.hp id (.arr 6 (xs ++ [x])) }) :=
  app1_own (by rw [td23]) ho hn (grow_ok rfl rfl (by decide) (by decide) (by omega))
theorem bits_len {s : Nat} : (bitsN s).length ≤ 8 := by
  unfold bitsN
  refine Nat.le_trans (List.length_filterMap_le _ _) ?_
  rw [List.length_range]; exact Nat.le_refl 8
set_option maxRecDepth 10000 in
set_option maxHeartbeats 4000000 in
theorem without_to {d : Dt} (hn8 : d.notes.length ≤ 8) {s : Nat} {o1 o2 o : Option Bool} : Ans Try.prog (AA b) 36 [encD o1 o2 d, SL 1 ((bitsN s).map I) o] (fun v => v = encD o1 (some false) (dropD s d)) := by
  refine Ans_of Try.func36 rfl rfl ?_
  have hl8 := bits_len (s := s)
  have hbh := fun i hi => bits_has (s := s) (i := i) hi
  generalize bitsN s = l at hl8 hbh
  simp +contextual (maxSteps := 1000000) (disch := first | omega | (with_reducible first | refine krN ?_ | refine krS ?_ | refine krP ?_ | refine krG ?_); kernel_rfl | refine kr ?_; simp only [go_sem, reduceCtorEq]; done | fail) only [go_sem, seval, -List.reduceReplicate]
  obtain ⟨Z, hZ⟩ : ∃ Z, Z = Vl.agg [I 0, .nils, .nils] := ⟨_, rfl⟩
  refine wp_loop_to d.notes.length (fun i st => ∃ (ex : List (Nat × Vl)), st = ({ sl := (1, SL 1 (l.map I) o) :: (2, .loc (encD o1 o2 d)) :: (4, .loc Z) :: (5, .loc (.agg [I d.stones, SL 2 (d.eras.map encS) o1, .own 0 (dropNs s 0 (d.notes.take i)).length])) :: (6, I i) :: ex, hp := upd noHeap 0 (.arr 6 ((dropNs s 0 (d.notes.take i)).map encN)), nx := 1 } : FS)) ?_ 0 (Nat.zero_le _) ⟨_, by rw [hZ]; rfl⟩
  rintro i st hi ⟨ex, rfl⟩
  have hkl : (dropNs s 0 (d.notes.take i)).length ≤ i := Nat.le_trans (dropNs_len _ 0) (by rw [List.length_take]; omega)
  by_cases hc : i < d.notes.length
  · have hsu := dropNs_snoc (s := s) (n := d.notes[i]!) (d.notes.take i) 0
    rw [← take_snoc hc, List.length_take, Nat.zero_add, Nat.min_eq_left (Nat.le_of_lt hc)] at hsu
    have hbi := hbh i (by omega)
    generalize dropNs s 0 (d.notes.take i) = ks at hsu hkl
    simp +contextual (maxSteps := 1000000) (disch := first | omega | (with_reducible first | refine krN ?_ | refine krS ?_ | refine krP ?_ | refine krG ?_); kernel_rfl | refine kr ?_; simp only [go_sem, reduceCtorEq, Int.ofNat_lt, hc]; done | fail) only [go_sem, seval, -List.reduceReplicate, Int.ofNat_lt, hc]
    refine wp_loop_to l.length (fun k st => ∃ (ex : List (Nat × Vl)), st = ({ sl := (1, SL 1 (l.map I) o) :: (2, .loc (encD o1 o2 d)) :: (4, .loc Z) :: (5, .loc (.agg [I d.stones, SL 2 (d.eras.map encS) o1, .own 0 ks.length])) :: (6, I i) :: (7, .bool (!(l.take k).contains (i : Int))) :: (8, I k) :: ex, hp := upd noHeap 0 (.arr 6 (ks.map encN)), nx := 1 } : FS)) ?_ 0 (Nat.zero_le _) ⟨_, rfl⟩
    rintro k st hk ⟨ex, rfl⟩
    by_cases hck : k < l.length
    · have htk : (l.take (k + 1)).contains (i : Int) = ((l.take k).contains (i : Int) || decide (l[k]! = i)) := by
        rw [take_snoc hck, Bool.eq_iff_iff]
        simp only [List.contains_eq_mem, List.mem_append, List.mem_singleton, Bool.or_eq_true, decide_eq_true_eq]
        exact or_congr Iff.rfl eq_comm
      cases ht : (l.take k).contains (i : Int) with
      | true =>
        rw [ht] at htk
        simp +contextual (maxSteps := 1000000) (disch := first | omega | (with_reducible first | refine krN ?_ | refine krS ?_ | refine krP ?_ | refine krG ?_); kernel_rfl | refine kr ?_; simp only [go_sem, reduceCtorEq, Int.ofNat_lt, hck, List.length_map]; done | fail) only [go_sem, seval, -List.reduceReplicate, Int.ofNat_lt, hck, List.length_map]
        exact ⟨_, by rw [htk]; rfl⟩
      | false =>
        rw [ht] at htk
        by_cases he : l[k]! = i
        · simp +contextual (maxSteps := 1000000) (disch := first | omega | (with_reducible first | refine krN ?_ | refine krS ?_ | refine krP ?_ | refine krG ?_); kernel_rfl | refine kr ?_; simp only [go_sem, reduceCtorEq, Int.ofNat_lt, hck, List.length_map, ix_map, he]; done | fail) only [go_sem, seval, -List.reduceReplicate, Int.ofNat_lt, hck, List.length_map, ix_map, he]
          exact ⟨_, by rw [htk, decide_eq_true he]; rfl⟩
        · simp +contextual (maxSteps := 1000000) (disch := first | omega | (with_reducible first | refine krN ?_ | refine krS ?_ | refine krP ?_ | refine krG ?_); kernel_rfl | refine kr ?_; simp only [go_sem, reduceCtorEq, Int.ofNat_lt, hck, List.length_map, ix_map, he]; done | fail) only [go_sem, seval, -List.reduceReplicate, Int.ofNat_lt, hck, List.length_map, ix_map, he]
          exact ⟨_, by rw [htk, decide_eq_false he]; rfl⟩
    · have hke : k = l.length := by omega
      subst hke
      rw [List.take_length]
      cases ht : l.contains (i : Int) with
      | true =>
        rw [ht] at hbi
        rw [if_pos (of_decide_eq_true hbi.symm), List.append_nil] at hsu
        simp +contextual (maxSteps := 1000000) (disch := first | omega | (with_reducible first | refine krN ?_ | refine krS ?_ | refine krP ?_ | refine krG ?_); kernel_rfl | refine kr ?_; simp only [go_sem, reduceCtorEq, Int.lt_irrefl, List.length_map]; done | fail) only [go_sem, seval, -List.reduceReplicate, Int.lt_irrefl, List.length_map]
        exact ⟨_, by rw [hsu]⟩
      | false =>
        rw [ht] at hbi
        rw [if_neg (of_decide_eq_false hbi.symm)] at hsu
        have hap : ∀ (x : Vl) (t : Bool), isAppend Try.prog 23 23 (.own 0 ks.length) (.lst 6 [x] t) { lc := [], hp := upd noHeap 0 (.arr 6 (ks.map encN)), nx := 1 } = some (.own 0 (ks.length + 1), { lc := [], hp := upd noHeap 0 (.arr 6 (ks.map encN ++ [x])), nx := 1 }) := fun x t => by
          have h0 : upd noHeap 0 (.arr 6 (ks.map encN)) 0 = .arr 6 (ks.map encN) := upd_same _ _ _
          refine (ap23w (m := { lc := [], hp := upd noHeap 0 (.arr 6 (ks.map encN)), nx := 1 }) h0 (by simp) (by omega)).trans ?_
          simp only [upd_upd]
        simp +contextual (maxSteps := 1000000) (disch := first | omega | (with_reducible first | refine krN ?_ | refine krS ?_ | refine krP ?_ | refine krG ?_); kernel_rfl | refine kr ?_; simp only [go_sem, reduceCtorEq, Int.lt_irrefl, List.length_map, ix_map, hc, hap]; done | fail) only [go_sem, seval, -List.reduceReplicate, Int.lt_irrefl, List.length_map, ix_map, hc, hap]
        exact ⟨_, by rw [hsu, List.length_append, List.map_append]; rfl⟩
  · have hie : i = d.notes.length := by omega
    subst hie
    rw [List.take_length]
    have f2 : reify (upd noHeap 0 (.arr 6 ((dropNs s 0 d.notes).map encN))) (.own 0 (dropNs s 0 d.notes).length) = some (.lst 6 ((dropNs s 0 d.notes).map encN) false, [0]) := reify_flat (.inl (upd_same _ _ _)) rfl fun n => reify_closedV _ (clN n)
    simp +contextual (maxSteps := 1000000) (disch := first | omega | (with_reducible first | refine krN ?_ | refine krS ?_ | refine krP ?_ | refine krG ?_); kernel_rfl | refine kr ?_; simp only [go_sem, reduceCtorEq, Int.lt_irrefl, hZ, f2]; done | fail) only [go_sem, seval, -List.reduceReplicate, Int.lt_irrefl, hZ, f2]
    exact OB_intro (reify_SL (closedL_map clS _)) rfl
theorem wc36 {d : Dt} (hn8 : d.notes.length ≤ 8) {s : Nat} {o1 o2 o : Option Bool} {m : Mem} {K : Vl → Mem → Prop} : WC Try.prog (AA b) (.fn (.func 36) [] []) [.v (encD o1 o2 d), .v (SL 1 ((bitsN s).map I) o)] m K = K (encD o1 (some false) (dropD s d)) m :=
  WC_closed (by simp only [mkAnn, K36]) (rfAs (xs := [encD o1 o2 d, SL 1 ((bitsN s).map I) o]) (by simp only [closedL, clD, clIs]; rfl)) (clD _ _ _) (without_to hn8)
end Go.Proofs
namespace Go.Proofs
open Go Go.Idl Go.Dt
set_option linter.unusedSimpArgs false
variable {b : Nat}
theorem dropNs_all {s : Nat} : ∀ (l : List Nt) (k : Nat), (∀ i, k ≤ i → i < k + l.length → s / 2 ^ i % 2 = 1) → dropNs s k l = []
  | [], _, _ => rfl
  | n :: l, k, h => by
    rw [dropNs, if_pos (h k (Nat.le_refl _) (by simp))]
    exact dropNs_all l (k + 1) fun i h1 h2 => h i (by omega) (by simp; omega)
theorem bits_all : ∀ n, n ≤ 5 → ∀ i, i < n → (2 ^ n - 1) / 2 ^ i % 2 = 1 := fun n h => by
  have h6 : n = 0 ∨ n = 1 ∨ n = 2 ∨ n = 3 ∨ n = 4 ∨ n = 5 := by omega
  rcases h6 with rfl | rfl | rfl | rfl | rfl | rfl <;> decide
theorem none_may {d : Dt} (h : DtOk d) (hn : d.notes = []) : tabsL d ≠ [] := by
  have hl := h.eras_l
  refine (tabs_some h (w := fun v => if 7 ≤ v ∧ v - 7 < d.eras.length then (d.eras[v - 7]!).1 else 0) ⟨rfl, fun v hv => ?_, fun j hj => ?_, fun n hm => by rw [hn] at hm; cases hm⟩).1
  · split
    · rename_i e
      have := h.eras _ (get!_mem e.2)
      unfold SpanOk at this; omega
    · omega
  · rw [if_pos ⟨by omega, by omega⟩, show 7 + j - 7 = j by omega]
    have := h.eras _ (get!_mem hj)
    unfold SpanOk at this; omega
def mayS (d : Dt) (s : Nat) : Bool := !(tabsL (dropD s d)).isEmpty
theorem mayS_err {d : Dt} (h : DtOk d) {s : Nat} : (foundV (dropD s d)).2 = if mayS d s = true then 0 else 9 := by
  have h0 := checkE_ok.2 (dropD_ok (s := s) h)
  unfold foundV mayS
  rw [if_neg (fun k => k h0)]
  cases tabsL (dropD s d) <;> simp
theorem mayS_all {d : Dt} (h : DtOk d) (hn : d.notes.length ≤ 5) : mayS d (2 ^ d.notes.length - 1) = true := by
  have hne := none_may (dropD_ok (s := 2 ^ d.notes.length - 1) h) (dropNs_all _ 0 fun i _ h2 => bits_all _ hn i (by omega))
  unfold mayS
  cases e : tabsL (dropD (2 ^ d.notes.length - 1) d) with
  | nil => exact absurd e hne
  | cons => rfl
theorem range_split {n m : Nat} (h : m ≤ n) : List.range (n + 1) = List.range m ++ m :: (List.range' (m + 1) (n - m)) := by
  rw [List.range_eq_range', List.range_eq_range', show n + 1 = m + (n - m + 1) by omega, ← List.range'_append_1, Nat.zero_add, List.range'_succ]
theorem first_at {d : Dt} (hn : d.notes.length ≤ 5) {m j : Nat} (hm : m ≤ d.notes.length) (hj : j < (mL d.notes.length m).length) (h1 : ∀ k, k < m → ∀ x ∈ mL d.notes.length k, mayS d x = false) (h2 : ∀ i, i < j → mayS d (mL d.notes.length m)[i]! = false) (h3 : mayS d (mL d.notes.length m)[j]! = true) : wrongF d = some (mL d.notes.length m)[j]! := by
  have e : wrongF d = (srtL d.notes.length).find? (mayS d) := rfl
  rw [e, srt_eq hn, range_split hm, List.map_append, List.flatten_append, List.find?_append]
  have hnone : (((List.range m).map (mL d.notes.length)).flatten).find? (mayS d) = none := by
    rw [List.find?_eq_none]
    intro x hx
    obtain ⟨l, hl, hxl⟩ := List.mem_flatten.1 hx
    obtain ⟨k, hk, rfl⟩ := List.mem_map.1 hl
    rw [h1 k (List.mem_range.1 hk) x hxl]; decide
  rw [hnone, Option.none_or, List.map_cons, List.flatten_cons, List.find?_append, find_at hj h3 (fun k hk => h2 k hk)]
  rfl
theorem first_not {d : Dt} (h : DtOk d) (hn : d.notes.length ≤ 5) (h1 : ∀ k, k < d.notes.length + 1 → ∀ x ∈ mL d.notes.length k, mayS d x = false) : False := by
  have h2 := srt_all hn
  rw [srt_eq hn] at h2
  obtain ⟨l, hl, hxl⟩ := List.mem_flatten.1 h2
  obtain ⟨k, hk, rfl⟩ := List.mem_map.1 hl
  have := h1 k (List.mem_range.1 hk) _ hxl
  rw [mayS_all h hn] at this
  cases this
theorem mL_len {n m : Nat} (hn : n ≤ 5) : (mL n m).length ≤ 32 := by
  refine Nat.le_trans (List.length_filter_le _ _) ?_
  rw [(srtL_lt (n := n) (by omega)).1]
  have h6 : n = 0 ∨ n = 1 ∨ n = 2 ∨ n = 3 ∨ n = 4 ∨ n = 5 := by omega
  rcases h6 with rfl | rfl | rfl | rfl | rfl | rfl <;> decide
def movN (n : Nt) (by' : Int) : Nt := if n.kind = 1 then { n with ys := [n.ys[0]! + by'], fl := some true } else { n with lo := n.lo + by', hi := n.hi + by' }
theorem movN_ok {S : Int} {es : List (Int × Int)} {ys fs : List Int} {n : Nt} (k : NMade S es ys fs n) {y : Int} (hy : -20 ≤ y ∧ y ≤ 20) (h3 : n.kind = 3 → 0 ≤ y) : NtOk ⟨S, es, []⟩ (movN n y) := by
  have hb := k.bnd
  have g := k.ok
  by_cases e : n.kind = 1
  · have h1 := g.years e
    have h0 := hb.2.2 _ (get!_mem (xs := n.ys) (i := 0) (by omega))
    unfold movN
    rw [if_pos e]
    exact ⟨g.kind, g.stone, fun _ => ⟨h1.1, h1.2.1, h1.2.2.1, Nat.le_refl 1, (by decide : 1 ≤ 3), fun x hx => by rw [List.mem_singleton.1 hx]; omega, fun i k1 k2 => by have k2 : i < 1 := k2; omega⟩, fun h => absurd e h, fun h => by have h : n.kind = 2 := h; omega, fun h => by have h : n.kind = 3 := h; omega, fun h => by have h : n.kind = 4 := h; omega⟩
  · have h1 := g.span e
    unfold movN
    rw [if_neg e]
    have hso := h1.2
    unfold SpanOk at hso
    exact ⟨g.kind, g.stone, fun h => absurd h e, fun _ => ⟨h1.1, by unfold SpanOk; dsimp only; omega⟩, g.plain, fun h => by have h3 := h3 h; have := g.era h; exact ⟨this.1, this.2.1, by have := this.2.2; dsimp only; omega⟩, g.after⟩
end Go.Proofs
