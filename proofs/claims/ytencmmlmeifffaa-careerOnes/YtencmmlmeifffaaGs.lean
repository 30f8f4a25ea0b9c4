/- What functions of the given program do in the ideal machine (G55, G56), and the plain laws of what they answer; the conditions stand in each theorem. -/
import Derived.Test.YtencmmlmeifffaaGq
import Derived.Test.YtencmmlmeifffaaGr
import Derived.Test.YtencmmlmeifffaaHa
set_option linter.all false
set_option linter.unusedSectionVars false
set_option linter.unusedSimpArgs false
set_option linter.unusedVariables false
namespace Go.Proofs
open Go Go.Idl
set_option linter.unusedSimpArgs false
variable {b : Bool}
def menO (r : Roll) (a c : Nat) : Nat → List Man
  | 0 => []
  | n + 1 => menO r a c n ++ (if n = c then [] else [if n = a then mergeM r.ms[a]! r.ms[c]! else r.ms[n]!])
theorem menO_eq {r : Roll} {a c : Nat} (hac : a ≠ c) : ∀ n, menO r a c n = if a < n then (menTo r c n).set (mpI c a) (mergeM r.ms[a]! r.ms[c]!) else menTo r c n
  | 0 => by rw [if_neg (by omega)]; rfl
  | n + 1 => by
    rw [menO, menO_eq hac n, menTo_succ]
    by_cases hn : n = c
    · rw [if_pos hn, if_pos hn, List.append_nil, List.append_nil]
      by_cases h : a < n
      · rw [if_pos h, if_pos (by omega)]
      · rw [if_neg h, if_neg (by omega)]
    · rw [if_neg hn, if_neg hn]
      by_cases h : a < n
      · rw [if_pos h, if_pos (show a < n + 1 by omega), if_neg (show ¬ n = a by omega), List.set_append_left _ _ (menTo_lt h hac)]
      · rw [if_neg h]
        by_cases e : n = a
        · subst e
          rw [if_pos rfl, if_pos (show n < n + 1 by omega), List.set_append_right _ _ (by rw [menTo_mp hn]; exact Nat.le_refl _), menTo_mp hn, Nat.sub_self]
          rfl
        · rw [if_neg e, if_neg (show ¬ a < n + 1 by omega)]
theorem menO_len {r : Roll} {a c n : Nat} (hac : a ≠ c) : (menO r a c n).length ≤ n := by
  rw [menO_eq hac]
  have := @menTo_len r c n
  split
  · rw [List.length_set, this]; split <;> omega
  · rw [this]; split <;> omega
structure OD where
  ms : List Man
  cs : List Rec
def HO (d : OD) : Nat → Ob := fun i => if i = 0 then .arr 5 (d.ms.map encM) else if i = 1 then .arr 7 (d.cs.map encC) else .dead
section
variable {ms : List Man} {cs : List Rec} {lc : List (Nat × Vl)} {nx n : Nat}
theorem HO_new : upd (upd noHeap 0 (.arr 5 [])) 1 (.arr 7 []) = HO ⟨[], []⟩ := by
  funext i
  unfold upd HO
  by_cases h0 : i = 0
  · subst h0; rfl
  by_cases h1 : i = 1
  · subst h1; rfl
  simp [h0, h1, noHeap]
theorem HO_ms {ms' : List Man} : upd (HO ⟨ms, cs⟩) 0 (.arr 5 (ms'.map encM)) = HO ⟨ms', cs⟩ := by
  funext i; by_cases h : i = 0 <;> simp [upd, HO, h]
theorem HO_cs {cs' : List Rec} : upd (HO ⟨ms, cs⟩) 1 (.arr 7 (cs'.map encC)) = HO ⟨ms, cs'⟩ := by
  funext i; by_cases h : i = 1 <;> simp [upd, HO, h]
theorem HO_0 : HO ⟨ms, cs⟩ 0 = .arr 5 (ms.map encM) := rfl
theorem HO_1 : HO ⟨ms, cs⟩ 1 = .arr 7 (cs.map encC) := rfl
theorem apO0 {x p q u v : Int} {o : Bool} (hn : ms.length = n) (hs : n < 1000) : isAppend Try.prog 26 26 (.own 0 n) (.lst 5 [.agg [.int .i64 x, .int .i64 p, .int .i64 q, .int .i64 u, .int .i64 v]] o) ⟨lc, HO ⟨ms, cs⟩, nx⟩ = some (.own 0 (n + 1), ⟨lc, HO ⟨ms ++ [⟨x, p, q, u, v⟩], cs⟩, nx⟩) := by
  have := app1_own (P := Try.prog) (t := 26) (e := 5) (eb := 40) (ez := .agg [I 0, I 0, I 0, I 0, I 0]) (x := encM ⟨x, p, q, u, v⟩) (b := o) (id := 0) (n := n) (xs := ms.map encM) (m := ⟨lc, HO ⟨ms, cs⟩, nx⟩) (by rw [td26]) HO_0 (by rw [List.length_map]; exact hn) (grow_ok rfl rfl (by decide) (by decide) (by omega))
  rw [show (ms.map encM ++ [encM ⟨x, p, q, u, v⟩]) = (ms ++ [(⟨x, p, q, u, v⟩ : Man)]).map encM by rw [List.map_append]; rfl] at this
  simp only [HO_ms] at this
  exact this
theorem apO1 {k : Bool} {x p q u v w : Int} {o : Bool} (hn : cs.length = n) (hs : n < 1000) : isAppend Try.prog 27 27 (.own 1 n) (.lst 7 [.agg [.bool k, .int .i64 x, .int .i64 p, .int .i64 q, .int .i64 u, .int .i64 v, .int .i64 w]] o) ⟨lc, HO ⟨ms, cs⟩, nx⟩ = some (.own 1 (n + 1), ⟨lc, HO ⟨ms, cs ++ [⟨k, x, p, q, u, v, w⟩]⟩, nx⟩) := by
  have := app1_own (P := Try.prog) (t := 27) (e := 7) (eb := 56) (ez := .agg [.bool false, I 0, I 0, I 0, I 0, I 0, I 0]) (x := encC ⟨k, x, p, q, u, v, w⟩) (b := o) (id := 1) (n := n) (xs := cs.map encC) (m := ⟨lc, HO ⟨ms, cs⟩, nx⟩) (by rw [td27]) HO_1 (by rw [List.length_map]; exact hn) (grow_ok rfl rfl (by decide) (by decide) (by omega))
  rw [show (cs.map encC ++ [encC ⟨k, x, p, q, u, v, w⟩]) = (cs ++ [(⟨k, x, p, q, u, v, w⟩ : Rec)]).map encC by rw [List.map_append]; rfl] at this
  simp only [HO_cs] at this
  exact this
end
section
variable {m : Mem} {K : Vl → Mem → Prop}
theorem other_to {x a c : Nat} (hx : x ≤ 1000) (ha : a ≤ 1000) (hac : a ≠ c) : Ans Try.prog (AA b) 87 [I x, I a, I c] (fun v => v = I (mpF a c x)) := by
  refine Ans_of Try.func87 rfl rfl ?_
  unfold mpF mpI
  by_cases e : x = c
  · subst e
    rw [if_pos rfl]
    by_cases h : x < a
    · rw [if_neg (by omega)]
      have h' : (x : Int) < (a : Int) := by omega
      have h2 : ((a : Int) - 1) = ((a - 1 : Nat) : Int) := by omega
      simp +contextual (maxSteps := 1000000) (disch := first | omega | (with_reducible first | refine krN ?_ | refine krS ?_ | refine krP ?_ | refine krG ?_); kernel_rfl | refine kr ?_; simp only [go_sem, reduceCtorEq, h', h2]; done | fail) only [go_sem, seval, -List.reduceReplicate, h', h2]
    · rw [if_pos (by omega)]
      have h' : ¬ (x : Int) < (a : Int) := by omega
      simp +contextual (maxSteps := 1000000) (disch := first | omega | (with_reducible first | refine krN ?_ | refine krS ?_ | refine krP ?_ | refine krG ?_); kernel_rfl | refine kr ?_; simp only [go_sem, reduceCtorEq, h']; done | fail) only [go_sem, seval, -List.reduceReplicate, h']
  · have e' : ¬ ((x : Int) = (c : Int)) := by omega
    rw [if_neg e]
    by_cases h : c < x
    · rw [if_neg (by omega)]
      have h' : (c : Int) < (x : Int) := by omega
      have h2 : ((x : Int) - 1) = ((x - 1 : Nat) : Int) := by omega
      simp +contextual (maxSteps := 1000000) (disch := first | omega | (with_reducible first | refine krN ?_ | refine krS ?_ | refine krP ?_ | refine krG ?_); kernel_rfl | refine kr ?_; simp only [go_sem, reduceCtorEq, e', h', h2]; done | fail) only [go_sem, seval, -List.reduceReplicate, e', h', h2]
    · rw [if_pos (by omega)]
      have h' : ¬ (c : Int) < (x : Int) := by omega
      simp +contextual (maxSteps := 1000000) (disch := first | omega | (with_reducible first | refine krN ?_ | refine krS ?_ | refine krP ?_ | refine krG ?_); kernel_rfl | refine kr ?_; simp only [go_sem, reduceCtorEq, e', h']; done | fail) only [go_sem, seval, -List.reduceReplicate, e', h']
theorem wc87 {y : Int} {a c : Nat} (hy : 0 ≤ y ∧ y ≤ 1000) (ha : a ≤ 1000) (hac : a ≠ c) : WC Try.prog (AA b) (.fn (.func 87) [] []) [.v (I y), .v (I a), .v (I c)] m K = K (I (mpF a c y.toNat)) m := by
  have e : y = ((y.toNat : Nat) : Int) := by omega
  rw [e]
  exact WC_flat (by simp only [mkAnn, K87]) (rfAs (xs := [I y.toNat, I a, I c]) rfl) (other_to (by omega) ha hac) rfl
end
def Zroll : Vl := Vl.agg [.nils, I 0, I 0, I 0, .nils, .nils, .nils]
def oneV (r : Roll) (a c : Nat) (o1 o2 : Option Bool) : Vl := if mergedIs r a c = true then .tup [encRoll o1 o2 (some false) (some false) (mergedR r a c), .bool true] else .tup [Zroll, .bool false]
set_option maxRecDepth 10000 in
set_option maxHeartbeats 4000000 in
theorem one_to {r : Roll} (hv : Val r) {a c : Nat} (ha : a < r.ms.length) (hc : c < r.ms.length) (hac : a ≠ c) {o1 o2 o3 o4 : Option Bool} : Ans Try.prog (AA b) 71 [encRoll o1 o2 o3 o4 r, I a, I c] (fun v => v = oneV r a c o1 o2) := by
  refine Ans_of Try.func71 rfl rfl ?_
  have hm6 := hv.ms_l
  have hc8 := hv.cs_l
  simp +contextual (maxSteps := 1000000) (disch := first | omega | (with_reducible first | refine krN ?_ | refine krS ?_ | refine krP ?_ | refine krG ?_); kernel_rfl | refine kr ?_; simp only [go_sem, reduceCtorEq, HO_new]; done | fail) only [go_sem, seval, -List.reduceReplicate, HO_new]
  refine wp_loop_to r.ms.length (fun i st => ∃ (ex : List (Nat × Vl)), (a < i → okM r.ms[a]! r.ms[c]! = true) ∧ st = ({ sl := (1, I a) :: (2, I c) :: (3, .loc (encRoll o1 o2 o3 o4 r)) :: (6, .loc (.agg [.nils, I 0, I 0, I 0, .nils, .nils, .nils])) :: (8, .loc (.agg [SL 3 (r.os.map encO) o1, I r.life, I r.plo, I r.phi, SL 1 (r.fs.map encRow) o2, .own 0 (menO r a c i).length, .own 1 0])) :: (9, I i) :: ex, hp := HO ⟨menO r a c i, []⟩, nx := 2 } : FS)) ?_ 0 (Nat.zero_le _) ⟨[], fun h => absurd h (by omega), rfl⟩
  rintro i st hi ⟨ex, hok, rfl⟩
  by_cases hci : i < r.ms.length
  case neg =>
    obtain rfl : i = r.ms.length := by omega
    have hok := hok ha
    have hmo : menO r a c r.ms.length = mergedMs r a c := by rw [menO_eq hac, if_pos ha]; rfl
    rw [hmo]
    simp +contextual (maxSteps := 1000000) (disch := first | omega | (with_reducible first | refine krN ?_ | refine krS ?_ | refine krP ?_ | refine krG ?_); kernel_rfl | refine kr ?_; simp only [go_sem, reduceCtorEq, Int.lt_irrefl]; done | fail) only [go_sem, seval, -List.reduceReplicate, Int.lt_irrefl]
    refine wp_loop_to r.cs.length (fun i st => ∃ (ex : List (Nat × Vl)), (∀ k, k < i → kinOk a c r.cs[k]! = true) ∧ st = ({ sl := (1, I a) :: (2, I c) :: (3, .loc (encRoll o1 o2 o3 o4 r)) :: (6, .loc (.agg [.nils, I 0, I 0, I 0, .nils, .nils, .nils])) :: (8, .loc (.agg [SL 3 (r.os.map encO) o1, I r.life, I r.plo, I r.phi, SL 1 (r.fs.map encRow) o2, .own 0 (mergedMs r a c).length, .own 1 i])) :: (12, I i) :: ex, hp := HO ⟨mergedMs r a c, (r.cs.take i).map (mapRec a c)⟩, nx := 2 } : FS)) ?_ 0 (Nat.zero_le _) ⟨[], fun k h => absurd h (by omega), rfl⟩
    clear hok hmo hci hi ex
    rintro i st hi ⟨ex, hkk, rfl⟩
    by_cases hci : i < r.cs.length
    case neg =>
      obtain rfl : i = r.cs.length := by omega
      rw [List.take_length]
      have r0 : reify (HO ⟨mergedMs r a c, r.cs.map (mapRec a c)⟩) (.own 0 (mergedMs r a c).length) = some (.lst 5 ((mergedMs r a c).map encM) false, [0]) := reify_flat (.inl HO_0) rfl fun _ => rfl
      have r1 : reify (HO ⟨mergedMs r a c, r.cs.map (mapRec a c)⟩) (.own 1 r.cs.length) = some (.lst 7 ((r.cs.map (mapRec a c)).map encC) false, [1]) := reify_flat (.inl HO_1) (List.length_map _) fun _ => rfl
      have hIs : mergedIs r a c = true := by
        unfold mergedIs
        rw [Bool.and_eq_true, List.all_eq_true]
        refine ⟨hok ha, fun x hx => ?_⟩
        obtain ⟨j, hj, rfl⟩ := List.getElem_of_mem hx
        rw [← get!_eq hj]; exact hkk j hj
      have hv1 : oneV r a c o1 o2 = .tup [encRoll o1 o2 (some false) (some false) (mergedR r a c), .bool true] := if_pos hIs
      rw [hv1]
      simp +contextual (maxSteps := 1000000) (disch := first | omega | (with_reducible first | refine krN ?_ | refine krS ?_ | refine krP ?_ | refine krG ?_); kernel_rfl | refine kr ?_; simp only [go_sem, reduceCtorEq, Int.lt_irrefl, r0, r1]; done | fail) only [go_sem, seval, -List.reduceReplicate, Int.lt_irrefl, r0, r1]
      exact OB_intro (rfC (closed_SL (closedL_map clO r.os))) (OB_intro (rfC (closed_SL (closedL_map clRw r.fs))) rfl)
    obtain ⟨m1, m2, m3, m4⟩ := hv.cs_ok _ (get!_mem hci)
    have hgl : ((r.cs.take i).map (mapRec a c)).length = i := by rw [List.length_map, List.length_take]; omega
    have hsn : (r.cs.take (i + 1)).map (mapRec a c) = (r.cs.take i).map (mapRec a c) ++ [mapRec a c r.cs[i]!] := by rw [take_snoc hci, List.map_append]; rfl
    rw [hsn]
    have hnx : kinOk a c r.cs[i]! = true → ∀ k, k < i + 1 → kinOk a c r.cs[k]! = true := fun h k hkl => by
      rcases Nat.lt_succ_iff_lt_or_eq.1 hkl with hkl | rfl
      · exact hkk k hkl
      · exact h
    cases hk : r.cs[i]!.kin with
    | false =>
      have hmr : mapRec a c r.cs[i]! = ⟨false, (mpF a c r.cs[i]!.man.toNat : Int), r.cs[i]!.office, r.cs[i]!.town, r.cs[i]!.child, r.cs[i]!.lo, r.cs[i]!.hi⟩ := by unfold mapRec; rw [if_neg (by rw [hk]; decide), hk]
      rw [hmr]
      simp +contextual (maxSteps := 1000000) (disch := first | omega | (with_reducible first | refine krN ?_ | refine krS ?_ | refine krP ?_ | refine krG ?_); kernel_rfl | refine kr ?_; simp only [go_sem, reduceCtorEq, Int.ofNat_lt, hci, ix_map, encC, hk, wc87, hac, apO1, hgl]; done | fail) only [go_sem, seval, -List.reduceReplicate, Int.ofNat_lt, hci, ix_map, encC, hk, wc87, hac, apO1, hgl]
      exact ⟨[], hnx (by unfold kinOk; rw [hk]; rfl), rfl⟩
    | true =>
      have hmr : mapRec a c r.cs[i]! = ⟨true, (mpF a c r.cs[i]!.man.toNat : Int), r.cs[i]!.office, r.cs[i]!.town, (mpF a c r.cs[i]!.child.toNat : Int), r.cs[i]!.lo, r.cs[i]!.hi⟩ := by unfold mapRec; rw [if_pos hk, hk]
      rw [hmr]
      have h3 := m3 hk
      by_cases he : mpF a c r.cs[i]!.child.toNat = mpF a c r.cs[i]!.man.toNat
      · have hIs : mergedIs r a c = false := by
          unfold mergedIs
          rw [Bool.and_eq_false_iff]
          refine .inr ?_
          rw [List.all_eq_false]
          exact ⟨_, get!_mem hci, by unfold kinOk; rw [hk]; rw [show (!true || decide (mpF a c r.cs[i]!.child.toNat ≠ mpF a c r.cs[i]!.man.toNat)) = false by rw [decide_eq_false (fun h => h he)]; rfl]; decide⟩
        have hv1 : oneV r a c o1 o2 = .tup [Zroll, .bool false] := by unfold oneV; rw [if_neg (by rw [hIs]; decide)]
        rw [hv1]
        simp +contextual (maxSteps := 1000000) (disch := first | omega | (with_reducible first | refine krN ?_ | refine krS ?_ | refine krP ?_ | refine krG ?_); kernel_rfl | refine kr ?_; simp only [go_sem, reduceCtorEq, Int.ofNat_lt, hci, ix_map, encC, hk, wc87, hac, he, apO1, hgl, Zroll]; done | fail) only [go_sem, seval, -List.reduceReplicate, Int.ofNat_lt, hci, ix_map, encC, hk, wc87, hac, he, apO1, hgl, Zroll]
      · have he' : ¬ ((mpF a c r.cs[i]!.child.toNat : Int) = (mpF a c r.cs[i]!.man.toNat : Int)) := by omega
        simp +contextual (maxSteps := 1000000) (disch := first | omega | (with_reducible first | refine krN ?_ | refine krS ?_ | refine krP ?_ | refine krG ?_); kernel_rfl | refine kr ?_; simp only [go_sem, reduceCtorEq, Int.ofNat_lt, hci, ix_map, encC, hk, wc87, hac, he', apO1, hgl]; done | fail) only [go_sem, seval, -List.reduceReplicate, Int.ofNat_lt, hci, ix_map, encC, hk, wc87, hac, he', apO1, hgl]
        exact ⟨[], hnx (by unfold kinOk; rw [hk, decide_eq_true he]; rfl), rfl⟩
  have hgl : (menO r a c i).length ≤ 10 := by have := @menO_len r a c i hac; omega
  have hsu : ∀ M, (if i = a then mergeM r.ms[a]! r.ms[c]! else r.ms[i]!) = M → menO r a c (i + 1) = menO r a c i ++ (if i = c then [] else [M]) := fun M h => by rw [menO, h]
  by_cases e1 : i = a
  · subst e1
    have e2 : ¬ ((i : Int) = (c : Int)) := by omega
    rw [hsu _ (if_pos rfl), if_neg hac]
    cases hko : okM r.ms[i]! r.ms[c]! with
    | true =>
      have hko' := hko
      unfold okM at hko
      simp only [Bool.and_eq_true, decide_eq_true_eq] at hko
      simp +contextual (maxSteps := 1000000) (disch := first | omega | (with_reducible first | refine krN ?_ | refine krS ?_ | refine krP ?_ | refine krG ?_); kernel_rfl | refine kr ?_; simp only [go_sem, reduceCtorEq, Int.ofNat_lt, hci, hc, ix_map, encM, e2, apO0, hgl]; done | fail) only [go_sem, seval, -List.reduceReplicate, Int.ofNat_lt, hci, hc, ix_map, encM, e2, apO0, hgl]
      refine WI_of (fun h => absurd h (by omega)) (fun _ => ⟨[], by rw [List.length_append]; rfl⟩)
    | false =>
      have hm : mergedIs r i c = false := by unfold mergedIs; rw [hko]; rfl
      unfold okM at hko
      rw [Bool.and_eq_false_iff, decide_eq_false_iff_not, decide_eq_false_iff_not] at hko
      have hv1 : oneV r i c o1 o2 = .tup [Zroll, .bool false] := by unfold oneV; rw [if_neg (by rw [hm]; decide)]
      rw [hv1]
      simp +contextual (maxSteps := 1000000) (disch := first | omega | (with_reducible first | refine krN ?_ | refine krS ?_ | refine krP ?_ | refine krG ?_); kernel_rfl | refine kr ?_; simp only [go_sem, reduceCtorEq, Int.ofNat_lt, hci, hc, ix_map, encM, e2, apO0, hgl, Zroll]; done | fail) only [go_sem, seval, -List.reduceReplicate, Int.ofNat_lt, hci, hc, ix_map, encM, e2, apO0, hgl, Zroll]
      exact WI_of (fun _ => trivial) (fun h => absurd h (by omega))
  · have e1' : ¬ ((i : Int) = (a : Int)) := by omega
    rw [hsu _ (if_neg e1)]
    by_cases e2 : i = c
    · subst e2
      rw [if_pos rfl, List.append_nil]
      simp +contextual (maxSteps := 1000000) (disch := first | omega | (with_reducible first | refine krN ?_ | refine krS ?_ | refine krP ?_ | refine krG ?_); kernel_rfl | refine kr ?_; simp only [go_sem, reduceCtorEq, Int.ofNat_lt, hci, ix_map, encM, e1']; done | fail) only [go_sem, seval, -List.reduceReplicate, Int.ofNat_lt, hci, ix_map, encM, e1']
      exact ⟨[], fun h => hok (by omega), rfl⟩
    · have e2' : ¬ ((i : Int) = (c : Int)) := by omega
      rw [if_neg e2]
      simp +contextual (maxSteps := 1000000) (disch := first | omega | (with_reducible first | refine krN ?_ | refine krS ?_ | refine krP ?_ | refine krG ?_); kernel_rfl | refine kr ?_; simp only [go_sem, reduceCtorEq, Int.ofNat_lt, hci, ix_map, encM, e1', e2', apO0, hgl]; done | fail) only [go_sem, seval, -List.reduceReplicate, Int.ofNat_lt, hci, ix_map, encM, e1', e2', apO0, hgl]
      exact ⟨[], fun h => hok (by omega), by rw [List.length_append]; rfl⟩
theorem WF.merged {r : Roll} (hw : WF r) {a c : Nat} (ha : a < r.ms.length) (hc : c < r.ms.length) (hac : a ≠ c) (hf : mergedIs r a c = true) : WF (mergedR r a c) :=
  { toVal := merged_val hw.toVal ha hc hac hf
    names := fun m hm => by
      have hm : m ∈ mergedMs r a c := hm
      obtain ⟨j, hj, rfl⟩ := List.getElem_of_mem hm
      have hl := merged_len (a := a) hc
      have := merged_get ha hc hac (j := j) (by omega)
      rw [get!_eq hj] at this
      rw [this]
      split
      · exact hw.names r.ms[a]! (get!_mem ha)
      · exact hw.names _ (get!_mem (iv_lt (by omega)))
    diag := hw.diag
    symm := hw.symm }
noncomputable def sameX (r : Roll) (p q : Int) : Bool × Int :=
  if checkF r = 0 then
    if 0 ≤ p ∧ p < r.ms.length ∧ 0 ≤ q ∧ q < r.ms.length then
      if p = q then (false, 4) else if (solveF true r).2 = true then (sameB r p.toNat q.toNat, 0) else (false, 9)
    else (false, 3)
  else (false, checkF r)
section
variable {r : Roll} {m : Mem} {K : Vl → Mem → Prop} {o1 o2 o3 o4 : Option Bool}
theorem wc71 (hv : Val r) {a c : Nat} (ha : a < r.ms.length) (hc : c < r.ms.length) (hac : a ≠ c) : WC Try.prog (AA b) (.fn (.func 71) [] []) [.v (encRoll o1 o2 o3 o4 r), .v (I a), .v (I c)] m K = K (oneV r a c o1 o2) m :=
  wcG (args := [encRoll o1 o2 o3 o4 r, I a, I c]) K71.2.2.1 (by show ((encRoll o1 o2 o3 o4 r).closed && true) = true; rw [clRoll]; rfl) (by
    unfold oneV
    split
    · show ((encRoll o1 o2 (some false) (some false) (mergedR r a c)).closed && true) = true
      rw [clRoll]; rfl
    · rfl) (one_to hv ha hc hac)
theorem knownV_flag (hw : WF r) : (knownF r).2 = (solveF true r).2 := by
  rw [(known_solve hw).1]
  have h1 := solve_iff' (enough := false) hw.toVal
  have h2 := solve_iff' (enough := true) hw.toVal
  cases e1 : (solveF false r).2 <;> cases e2 : (solveF true r).2 <;> simp_all
theorem knownV_no (h : (knownF r).2 = false) : knownV r = .tup [.nils, .bool false] := if_neg (by rw [h]; decide)
theorem knownV_yes (h : (knownF r).2 = true) : knownV r = .tup [.lst 2 ((knownF r).1.map encS) false, .bool true] := if_pos h
theorem sameC_to (hn : Narrow20 r) {p q : Int} : Ans Try.prog (AA b) 28 [encRoll o1 o2 o3 o4 r, I p, I q] (fun v => v = .tup [.bool (sameX r p q).1, I (sameX r p q).2]) := by
  obtain ⟨h1, h2, h3, h4⟩ := n20 hn
  by_cases h : checkF r = 0
  case neg =>
    refine Ans_of Try.func28 rfl rfl ?_
    unfold sameX
    rw [if_neg h]
    simp +contextual (maxSteps := 1000000) (disch := first | omega | (with_reducible first | refine krN ?_ | refine krS ?_ | refine krP ?_ | refine krG ?_); kernel_rfl | refine kr ?_; simp only [go_sem, reduceCtorEq, wc24x, h]; done | fail) only [go_sem, seval, -List.reduceReplicate, wc24x, h]
  have hw := checkF_wf h
  have hm6 := hw.ms_l
  have hwm : IntKind.wrap .i64 ((r.ms.length : Int) - 1) = (r.ms.length : Int) - 1 := wrap_i64 (by omega) (by omega)
  by_cases hb : 0 ≤ p ∧ p < r.ms.length ∧ 0 ≤ q ∧ q < r.ms.length
  case neg =>
    have e : sameX r p q = (false, 3) := by unfold sameX; rw [if_pos h, if_neg hb]
    rw [e]
    refine Ans_of Try.func28 rfl rfl ?_
    cases d1 : (decide (0 ≤ p) && decide (p ≤ (r.ms.length : Int) - 1)) with
    | false => simp +contextual (maxSteps := 1000000) (disch := first | omega | (with_reducible first | refine krN ?_ | refine krS ?_ | refine krP ?_ | refine krG ?_); kernel_rfl | refine kr ?_; simp only [go_sem, reduceCtorEq, wc24x, h, hwm, d1]; done | fail) only [go_sem, seval, -List.reduceReplicate, wc24x, h, hwm, d1]
    | true =>
      cases d2 : (decide (0 ≤ q) && decide (q ≤ (r.ms.length : Int) - 1)) with
      | false => simp +contextual (maxSteps := 1000000) (disch := first | omega | (with_reducible first | refine krN ?_ | refine krS ?_ | refine krP ?_ | refine krG ?_); kernel_rfl | refine kr ?_; simp only [go_sem, reduceCtorEq, wc24x, h, hwm, d1, d2]; done | fail) only [go_sem, seval, -List.reduceReplicate, wc24x, h, hwm, d1, d2]
      | true =>
        exfalso
        simp only [Bool.and_eq_true, decide_eq_true_eq] at d1 d2
        exact hb ⟨d1.1, by omega, d2.1, by omega⟩
  have d1 : (decide (0 ≤ p) && decide (p ≤ (r.ms.length : Int) - 1)) = true := by simp only [Bool.and_eq_true, decide_eq_true_eq]; omega
  have d2 : (decide (0 ≤ q) && decide (q ≤ (r.ms.length : Int) - 1)) = true := by simp only [Bool.and_eq_true, decide_eq_true_eq]; omega
  by_cases hpq : p = q
  · have e : sameX r p q = (false, 4) := by unfold sameX; rw [if_pos h, if_pos hb, if_pos hpq]
    rw [e]
    subst hpq
    refine Ans_of Try.func28 rfl rfl ?_
    simp +contextual (maxSteps := 1000000) (disch := first | omega | (with_reducible first | refine krN ?_ | refine krS ?_ | refine krP ?_ | refine krG ?_); kernel_rfl | refine kr ?_; simp only [go_sem, reduceCtorEq, wc24x, h, hwm, d1]; done | fail) only [go_sem, seval, -List.reduceReplicate, wc24x, h, hwm, d1]
  cases hs : (solveF true r).2 with
  | true =>
    have e : sameX r p q = (sameB r p.toNat q.toNat, 0) := by unfold sameX; rw [if_pos h, if_pos hb, if_neg hpq, if_pos hs]
    rw [e]
    have := sameV_to (b := b) hw hs (a := p.toNat) (c := q.toNat) (by omega) (by omega) (by omega) (o1 := o1) (o2 := o2) (o3 := o3) (o4 := o4)
    rw [show ((p.toNat : Nat) : Int) = p by omega, show ((q.toNat : Nat) : Int) = q by omega] at this
    exact this
  | false =>
    have e : sameX r p q = (false, 9) := by unfold sameX; rw [if_pos h, if_pos hb, if_neg hpq, if_neg (by rw [hs]; decide)]
    rw [e]
    have hlen := solveF_len (r := r) (enough := true) hw.toVal
    refine Ans_of Try.func28 rfl rfl ?_
    simp +contextual (maxSteps := 1000000) (disch := first | omega | (with_reducible first | refine krN ?_ | refine krS ?_ | refine krP ?_ | refine krG ?_); kernel_rfl | refine kr ?_; simp only [go_sem, reduceCtorEq, wc24x, h, hwm, hpq, d1, d2, wc69, hw.toVal, hs, hlen, sub_kc_all, put_kc_all, kc_length, List.length_replicate]; done | fail) only [go_sem, seval, -List.reduceReplicate, wc24x, h, hwm, hpq, d1, d2, wc69, hw.toVal, hs, hlen, sub_kc_all, put_kc_all, kc_length, List.length_replicate]
theorem sameR_to (hn : Narrow20 r) {p q : Int} : Ans Try.prog (AA b) 29 [encRoll o1 o2 o3 o4 r, I p, I q] (fun v => v = .tup [.bool (sameX r p q).1, I (sameX r p q).2]) := by
  obtain ⟨h1, h2, h3, h4⟩ := n20 hn
  refine Ans_of Try.func29 rfl rfl ?_
  by_cases h : checkF r = 0
  case neg =>
    unfold sameX
    rw [if_neg h]
    simp +contextual (maxSteps := 1000000) (disch := first | omega | (with_reducible first | refine krN ?_ | refine krS ?_ | refine krP ?_ | refine krG ?_); kernel_rfl | refine kr ?_; simp only [go_sem, reduceCtorEq, wc25x, h]; done | fail) only [go_sem, seval, -List.reduceReplicate, wc25x, h]
  have hw := checkF_wf h
  have hm6 := hw.ms_l
  have hwm : IntKind.wrap .i64 ((r.ms.length : Int) - 1) = (r.ms.length : Int) - 1 := wrap_i64 (by omega) (by omega)
  by_cases hb : 0 ≤ p ∧ p < r.ms.length ∧ 0 ≤ q ∧ q < r.ms.length
  case neg =>
    have e : sameX r p q = (false, 3) := by unfold sameX; rw [if_pos h, if_neg hb]
    rw [e]
    cases d1 : (decide (0 ≤ p) && decide (p ≤ (r.ms.length : Int) - 1)) with
    | false => simp +contextual (maxSteps := 1000000) (disch := first | omega | (with_reducible first | refine krN ?_ | refine krS ?_ | refine krP ?_ | refine krG ?_); kernel_rfl | refine kr ?_; simp only [go_sem, reduceCtorEq, wc25x, h, hwm, wc65, d1]; done | fail) only [go_sem, seval, -List.reduceReplicate, wc25x, h, hwm, wc65, d1]
    | true =>
      cases d2 : (decide (0 ≤ q) && decide (q ≤ (r.ms.length : Int) - 1)) with
      | false => simp +contextual (maxSteps := 1000000) (disch := first | omega | (with_reducible first | refine krN ?_ | refine krS ?_ | refine krP ?_ | refine krG ?_); kernel_rfl | refine kr ?_; simp only [go_sem, reduceCtorEq, wc25x, h, hwm, wc65, d1, d2]; done | fail) only [go_sem, seval, -List.reduceReplicate, wc25x, h, hwm, wc65, d1, d2]
      | true =>
        exfalso
        simp only [Bool.and_eq_true, decide_eq_true_eq] at d1 d2
        exact hb ⟨d1.1, by omega, d2.1, by omega⟩
  have d1 : (decide (0 ≤ p) && decide (p ≤ (r.ms.length : Int) - 1)) = true := by simp only [Bool.and_eq_true, decide_eq_true_eq]; omega
  have d2 : (decide (0 ≤ q) && decide (q ≤ (r.ms.length : Int) - 1)) = true := by simp only [Bool.and_eq_true, decide_eq_true_eq]; omega
  by_cases hpq : p = q
  · have e : sameX r p q = (false, 4) := by unfold sameX; rw [if_pos h, if_pos hb, if_pos hpq]
    rw [e]
    subst hpq
    simp +contextual (maxSteps := 1000000) (disch := first | omega | (with_reducible first | refine krN ?_ | refine krS ?_ | refine krP ?_ | refine krG ?_); kernel_rfl | refine kr ?_; simp only [go_sem, reduceCtorEq, wc25x, h, hwm, wc65, d1]; done | fail) only [go_sem, seval, -List.reduceReplicate, wc25x, h, hwm, wc65, d1]
  cases hs : (solveF true r).2 with
  | false =>
    have e : sameX r p q = (false, 9) := by unfold sameX; rw [if_pos h, if_pos hb, if_neg hpq, if_neg (by rw [hs]; decide)]
    rw [e]
    have hkv := knownV_no ((knownV_flag hw).trans hs)
    simp +contextual (maxSteps := 1000000) (disch := first | omega | (with_reducible first | refine krN ?_ | refine krS ?_ | refine krP ?_ | refine krG ?_); kernel_rfl | refine kr ?_; simp only [go_sem, reduceCtorEq, wc25x, h, hwm, wc65, d1, d2, hpq, wc57, hw, hkv]; done | fail) only [go_sem, seval, -List.reduceReplicate, wc25x, h, hwm, wc65, d1, d2, hpq, wc57, hw, hkv]
  | true =>
    have e : sameX r p q = (sameB r p.toNat q.toNat, 0) := by unfold sameX; rw [if_pos h, if_pos hb, if_neg hpq, if_pos hs]
    rw [e]
    have hkv := knownV_yes ((knownV_flag hw).trans hs)
    obtain ⟨a, rfl⟩ : ∃ a : Nat, p = a := ⟨p.toNat, by omega⟩
    obtain ⟨c, rfl⟩ : ∃ c : Nat, q = c := ⟨q.toNat, by omega⟩
    have ha : a < r.ms.length := by omega
    have hc : c < r.ms.length := by omega
    have hac : a ≠ c := by omega
    have hv := hw.toVal
    rw [Int.toNat_natCast, Int.toNat_natCast]
    by_cases hnm : r.ms[a]!.name = r.ms[c]!.name
    case neg =>
      have hB : sameB r a c = false := by unfold sameB; rw [decide_eq_false hnm, Bool.false_and, Bool.and_false]
      rw [hB]
      simp +contextual (maxSteps := 1000000) (disch := first | omega | (with_reducible first | refine krN ?_ | refine krS ?_ | refine krP ?_ | refine krG ?_); kernel_rfl | refine kr ?_; simp only [go_sem, reduceCtorEq, wc25x, h, hwm, wc65, d1, d2, hpq, wc57, hw, hkv, ix_map, encM, hnm]; done | fail) only [go_sem, seval, -List.reduceReplicate, wc25x, h, hwm, wc65, d1, d2, hpq, wc57, hw, hkv, ix_map, encM, hnm]
    cases hf : mergedIs r a c with
    | false =>
      have hB : sameB r a c = false := by unfold sameB; rw [hf]; rfl
      have ho : oneV r a c o1 o2 = .tup [Zroll, .bool false] := by unfold oneV; rw [if_neg (by rw [hf]; decide)]
      rw [hB]
      simp +contextual (maxSteps := 1000000) (disch := first | omega | (with_reducible first | refine krN ?_ | refine krS ?_ | refine krP ?_ | refine krG ?_); kernel_rfl | refine kr ?_; simp only [go_sem, reduceCtorEq, wc25x, h, hwm, wc65, d1, d2, hpq, wc57, hw, hkv, ix_map, encM, hnm, wc71, hv, ha, hc, hac, ho, Zroll]; done | fail) only [go_sem, seval, -List.reduceReplicate, wc25x, h, hwm, wc65, d1, d2, hpq, wc57, hw, hkv, ix_map, encM, hnm, wc71, hv, ha, hc, hac, ho, Zroll]
    | true =>
      have hB : sameB r a c = (solveF true (mergedR r a c)).2 := by unfold sameB; rw [hf, hnm, decide_eq_true rfl, Bool.true_and, Bool.true_and]
      have ho : oneV r a c o1 o2 = .tup [encRoll o1 o2 (some false) (some false) (mergedR r a c), .bool true] := if_pos hf
      have hwm2 := WF.merged hw ha hc hac hf
      rw [hB]
      cases hs2 : (solveF true (mergedR r a c)).2 with
      | false =>
        have hkv2 := knownV_no ((knownV_flag hwm2).trans hs2)
        simp +contextual (maxSteps := 1000000) (disch := first | omega | (with_reducible first | refine krN ?_ | refine krS ?_ | refine krP ?_ | refine krG ?_); kernel_rfl | refine kr ?_; simp only [go_sem, reduceCtorEq, wc25x, h, hwm, wc65, d1, d2, hpq, wc57, hw, hkv, ix_map, encM, hnm, wc71, hv, ha, hc, hac, ho, hwm2, hkv2]; done | fail) only [go_sem, seval, -List.reduceReplicate, wc25x, h, hwm, wc65, d1, d2, hpq, wc57, hw, hkv, ix_map, encM, hnm, wc71, hv, ha, hc, hac, ho, hwm2, hkv2]
      | true =>
        have hkv2 := knownV_yes ((knownV_flag hwm2).trans hs2)
        simp +contextual (maxSteps := 1000000) (disch := first | omega | (with_reducible first | refine krN ?_ | refine krS ?_ | refine krP ?_ | refine krG ?_); kernel_rfl | refine kr ?_; simp only [go_sem, reduceCtorEq, wc25x, h, hwm, wc65, d1, d2, hpq, wc57, hw, hkv, ix_map, encM, hnm, wc71, hv, ha, hc, hac, ho, hwm2, hkv2]; done | fail) only [go_sem, seval, -List.reduceReplicate, wc25x, h, hwm, wc65, d1, d2, hpq, wc57, hw, hkv, ix_map, encM, hnm, wc71, hv, ha, hc, hac, ho, hwm2, hkv2]
theorem clR3 {p q : Int} : closedL [encRoll o1 o2 o3 o4 r, I p, I q] = true := by show ((encRoll o1 o2 o3 o4 r).closed && true) = true; rw [clRoll]; rfl
theorem wc28x (hn : Narrow20 r) {p q : Int} : WC Try.prog (AA b) (.fn (.func 28) [] []) [.v (encRoll o1 o2 o3 o4 r), .v (I p), .v (I q)] m K = K (.tup [.bool (sameX r p q).1, I (sameX r p q).2]) m := wcG (args := [encRoll o1 o2 o3 o4 r, I p, I q]) K28.2.2.1 clR3 rfl (sameC_to hn)
theorem wc29 (hn : Narrow20 r) {p q : Int} : WC Try.prog (AA b) (.fn (.func 29) [] []) [.v (encRoll o1 o2 o3 o4 r), .v (I p), .v (I q)] m K = K (.tup [.bool (sameX r p q).1, I (sameX r p q).2]) m := wcG (args := [encRoll o1 o2 o3 o4 r, I p, I q]) K29.2.2.1 clR3 rfl (sameR_to hn)
end
end Go.Proofs
namespace Go.Proofs
open Go Go.Idl
set_option linter.unusedSimpArgs false
variable {b : Bool}
set_option maxRecDepth 10000 in
set_option maxHeartbeats 8000000 in
theorem ones4_to {x : Roll} {p q : Int} {ns : List Int} (hx : x.fs.length ≤ 9223372036854775807) (hn : ns.length ≤ 9223372036854775807) {o1 o2 o3 o4 o : Option Bool} : Ans Try.prog (AA true) 4 [encRoll o1 o2 o3 o4 x, I p, I q, SL 1 (ns.map I) o] (fun v => v = .bool true) := by
  refine Ans_of Try.func4 rfl rfl ?_
  simp +contextual (maxSteps := 1000000) (disch := first | omega | (with_reducible first | refine krN ?_ | refine krS ?_ | refine krP ?_ | refine krG ?_); kernel_rfl | refine kr ?_; simp only [go_sem, reduceCtorEq]; done | fail) only [go_sem, seval, -List.reduceReplicate]
  refine wide_wc hx fun t ht => ?_
  cases t with
  | true => simp +contextual (maxSteps := 1000000) (disch := first | omega | (with_reducible first | refine krN ?_ | refine krS ?_ | refine krP ?_ | refine krG ?_); kernel_rfl | refine kr ?_; simp only [go_sem, reduceCtorEq, wc16]; done | fail) only [go_sem, seval, -List.reduceReplicate, wc16]
  | false =>
  have hx20 := ht rfl
  clear ht
  obtain ⟨h1, h2, h3, h4⟩ := n20 hx20
  obtain ⟨n1, n2, n3, n4, n5⟩ := id hx20
  by_cases b1 : 5 < (x.cs.length : Int)
  · by_cases b2 : checkF x = 0
    · simp +contextual (maxSteps := 1000000) (disch := first | omega | (with_reducible first | refine krN ?_ | refine krS ?_ | refine krP ?_ | refine krG ?_); kernel_rfl | refine kr ?_; simp only [go_sem, reduceCtorEq, wc25x, b1, b2, wc16]; done | fail) only [go_sem, seval, -List.reduceReplicate, wc25x, b1, b2, wc16]
    · simp +contextual (maxSteps := 1000000) (disch := first | omega | (with_reducible first | refine krN ?_ | refine krS ?_ | refine krP ?_ | refine krG ?_); kernel_rfl | refine kr ?_; simp only [go_sem, reduceCtorEq, wc25x, b1, b2]; done | fail) only [go_sem, seval, -List.reduceReplicate, wc25x, b1, b2]
      refine wc_heap (by simp only [mkAnn, K18]) rfl (newUrn_to (b := true) hn) ?_
      rintro v hp' nx' ⟨rfl, rfl, u1, u2, rfl⟩
      simp +contextual (maxSteps := 1000000) (disch := first | omega | (with_reducible first | refine krN ?_ | refine krS ?_ | refine krP ?_ | refine krG ?_); kernel_rfl | refine kr ?_; simp only [go_sem, reduceCtorEq]; done | fail) only [go_sem, seval, -List.reduceReplicate]
      refine wc_heap (by simp only [mkAnn, K17]) rfl (rollOf_to (b := true) (s := (u1, u2)) (men := 3) (recs := 4) (by decide) (by decide) (by decide) (by decide)) ?_
      rintro v hp' nx' ⟨s, life, plo, phi, T, F, os, ms, cs, bs, ds, ys, hR, rfl, rfl, rfl⟩
      have hw := hR.wf (by decide) (by decide)
      have hT1 := hR.T_b
      clear hR
      have r1 := rfR1 (s := s) (os := os) (ms := ms) (cs := cs) (T := T) (t := T) (F := F) (x := true) (bs := bs) (ds := ds) (ys := ys) rfl
      have r2 := rfR2 (s := s) (os := os) (ms := ms) (cs := cs) (T := T) (F := F) (x := true) (bs := bs) (ds := ds) (ys := ys)
      have r3 := rfR3 (s := s) (os := os) (ms := ms) (cs := cs) (T := T) (t := T) (F := F) (x := true) (bs := bs) (ds := ds) (ys := ys) rfl
      have r4 := rfR4 (s := s) (os := os) (ms := ms) (cs := cs) (T := T) (t := T) (F := F) (x := true) (bs := bs) (ds := ds) (ys := ys) rfl
      simp +contextual (maxSteps := 1000000) (disch := first | omega | (with_reducible first | refine krN ?_ | refine krS ?_ | refine krP ?_ | refine krG ?_); kernel_rfl | refine kr ?_; simp only [go_sem, reduceCtorEq, r1, r2, r3, r4]; done | fail) only [go_sem, seval, -List.reduceReplicate, r1, r2, r3, r4]
      clear r1 r2 r3 r4
      generalize hhk : killHp _ (HPr _) = hk
      have hk0 := killHp_low hT1.1 hhk
      rw [enc_rollE]
      obtain ⟨R, hRd⟩ : ∃ R, R = rollD life plo phi T F os ms cs := ⟨_, rfl⟩
      rw [← hRd] at hw ⊢
      obtain ⟨nx, hnx⟩ : ∃ nx, nx = 5 + T + 1 + 1 + 1 := ⟨_, rfl⟩
      have hnx0 : 0 < nx := by omega
      rw [← hnx]
      clear hhk hRd hnx hT1
      refine wc_heap (by simp only [mkAnn, K19]) rfl (copy_to (b := true) (r := x) (s := s) (by omega) (by omega) (by omega) (by omega) (fun w h => by
        obtain ⟨j, hj, rfl⟩ := List.getElem_of_mem h
        have := n5 j hj
        rw [get!_eq hj] at this; omega) hnx0 hk0) ?_
      rintro v hp' nx' ⟨rfl, rfl, rfl⟩
      have f1 := rfC1 (h := hk) (n := nx) (s := s) (os := x.os) (ms := x.ms) (cs := x.cs) (fs := x.fs) hnx0 rfl
      have f2 := rfC2 (h := hk) (n := nx) (s := s) (os := x.os) (ms := x.ms) (cs := x.cs) (fs := x.fs) rfl
      have f3 := rfC3 (h := hk) (n := nx) (s := s) (os := x.os) (ms := x.ms) (cs := x.cs) (fs := x.fs) rfl
      have f4 := rfC4 (h := hk) (n := nx) (s := s) (os := x.os) (ms := x.ms) (cs := x.cs) (fs := x.fs) rfl
      simp +contextual (maxSteps := 1000000) (disch := first | omega | (with_reducible first | refine krN ?_ | refine krS ?_ | refine krP ?_ | refine krG ?_); kernel_rfl | refine kr ?_; simp only [go_sem, reduceCtorEq, f1, f2, f3, f4]; done | fail) only [go_sem, seval, -List.reduceReplicate, f1, f2, f3, f4]
      clear f1 f2 f3 f4
      generalize killHp _ (CPr _ _ _) = hk2
      have e2 : Vl.agg [.lst 3 (x.os.map encO) false, I x.life, I x.plo, I x.phi, .lst 1 (x.fs.map encRow) false, .lst 5 (x.ms.map encM) false, .lst 7 (x.cs.map encC) false] = encRoll (some false) (some false) (some false) (some false) x := rfl
      rw [e2]
      simp +contextual (maxSteps := 1000000) (disch := first | omega | (with_reducible first | refine krN ?_ | refine krS ?_ | refine krP ?_ | refine krG ?_); kernel_rfl | refine kr ?_; simp only [go_sem, reduceCtorEq, wc28x, wc29, hx20, bin_neB, bne_self_eq_false, wc27]; done | fail) only [go_sem, seval, -List.reduceReplicate, wc28x, wc29, hx20, bin_neB, bne_self_eq_false, wc27]
      have hR20 := Narrow20.wf hw
      have hm6 := hw.ms_l
      generalize nx + 4 + x.fs.length = nz
      refine wp_loop_to R.ms.length (fun i st => ∃ (ex : List (Nat × Vl)), st = ({ sl := (9, .loc (encRoll (some false) (some false) (some false) (some false) R)) :: (16, I i) :: ex, hp := hk2, nx := nz } : FS)) ?_ 0 (Nat.zero_le _) ⟨[], rfl⟩
      rintro i st hi ⟨ex, rfl⟩
      by_cases hc : i < R.ms.length
      case neg =>
        obtain rfl : i = R.ms.length := by omega
        simp +contextual (maxSteps := 1000000) (disch := first | omega | (with_reducible first | refine krN ?_ | refine krS ?_ | refine krP ?_ | refine krG ?_); kernel_rfl | refine kr ?_; simp only [go_sem, reduceCtorEq, Int.lt_irrefl, wc16]; done | fail) only [go_sem, seval, -List.reduceReplicate, Int.lt_irrefl, wc16]
      simp +contextual (maxSteps := 1000000) (disch := first | omega | (with_reducible first | refine krN ?_ | refine krS ?_ | refine krP ?_ | refine krG ?_); kernel_rfl | refine kr ?_; simp only [go_sem, reduceCtorEq, Int.ofNat_lt, hc]; done | fail) only [go_sem, seval, -List.reduceReplicate, Int.ofNat_lt, hc]
      refine wp_loop_to R.ms.length (fun k st => ∃ (ex : List (Nat × Vl)), st = ({ sl := (9, .loc (encRoll (some false) (some false) (some false) (some false) R)) :: (16, I i) :: (17, I k) :: ex, hp := hk2, nx := nz } : FS)) ?_ 0 (Nat.zero_le _) ⟨[], rfl⟩
      rintro k st hkl ⟨ex, rfl⟩
      by_cases hc2 : k < R.ms.length
      · simp +contextual (maxSteps := 1000000) (disch := first | omega | (with_reducible first | refine krN ?_ | refine krS ?_ | refine krP ?_ | refine krG ?_); kernel_rfl | refine kr ?_; simp only [go_sem, reduceCtorEq, Int.ofNat_lt, hc2, wc28x, wc29, hR20, bin_neB, bne_self_eq_false]; done | fail) only [go_sem, seval, -List.reduceReplicate, Int.ofNat_lt, hc2, wc28x, wc29, hR20, bin_neB, bne_self_eq_false]
        exact ⟨[], rfl⟩
      · obtain rfl : k = R.ms.length := by omega
        simp +contextual (maxSteps := 1000000) (disch := first | omega | (with_reducible first | refine krN ?_ | refine krS ?_ | refine krP ?_ | refine krG ?_); kernel_rfl | refine kr ?_; simp only [go_sem, reduceCtorEq, Int.lt_irrefl]; done | fail) only [go_sem, seval, -List.reduceReplicate, Int.lt_irrefl]
        exact ⟨[], rfl⟩
  · simp +contextual (maxSteps := 1000000) (disch := first | omega | (with_reducible first | refine krN ?_ | refine krS ?_ | refine krP ?_ | refine krG ?_); kernel_rfl | refine kr ?_; simp only [go_sem, reduceCtorEq, b1]; done | fail) only [go_sem, seval, -List.reduceReplicate, b1]
    refine wc_heap (by simp only [mkAnn, K18]) rfl (newUrn_to (b := true) hn) ?_
    rintro v hp' nx' ⟨rfl, rfl, u1, u2, rfl⟩
    simp +contextual (maxSteps := 1000000) (disch := first | omega | (with_reducible first | refine krN ?_ | refine krS ?_ | refine krP ?_ | refine krG ?_); kernel_rfl | refine kr ?_; simp only [go_sem, reduceCtorEq]; done | fail) only [go_sem, seval, -List.reduceReplicate]
    refine wc_heap (by simp only [mkAnn, K17]) rfl (rollOf_to (b := true) (s := (u1, u2)) (men := 3) (recs := 4) (by decide) (by decide) (by decide) (by decide)) ?_
    rintro v hp' nx' ⟨s, life, plo, phi, T, F, os, ms, cs, bs, ds, ys, hR, rfl, rfl, rfl⟩
    have hw := hR.wf (by decide) (by decide)
    have hT1 := hR.T_b
    clear hR
    have r1 := rfR1 (s := s) (os := os) (ms := ms) (cs := cs) (T := T) (t := T) (F := F) (x := true) (bs := bs) (ds := ds) (ys := ys) rfl
    have r2 := rfR2 (s := s) (os := os) (ms := ms) (cs := cs) (T := T) (F := F) (x := true) (bs := bs) (ds := ds) (ys := ys)
    have r3 := rfR3 (s := s) (os := os) (ms := ms) (cs := cs) (T := T) (t := T) (F := F) (x := true) (bs := bs) (ds := ds) (ys := ys) rfl
    have r4 := rfR4 (s := s) (os := os) (ms := ms) (cs := cs) (T := T) (t := T) (F := F) (x := true) (bs := bs) (ds := ds) (ys := ys) rfl
    simp +contextual (maxSteps := 1000000) (disch := first | omega | (with_reducible first | refine krN ?_ | refine krS ?_ | refine krP ?_ | refine krG ?_); kernel_rfl | refine kr ?_; simp only [go_sem, reduceCtorEq, r1, r2, r3, r4]; done | fail) only [go_sem, seval, -List.reduceReplicate, r1, r2, r3, r4]
    clear r1 r2 r3 r4
    generalize hhk : killHp _ (HPr _) = hk
    have hk0 := killHp_low hT1.1 hhk
    rw [enc_rollE]
    obtain ⟨R, hRd⟩ : ∃ R, R = rollD life plo phi T F os ms cs := ⟨_, rfl⟩
    rw [← hRd] at hw ⊢
    obtain ⟨nx, hnx⟩ : ∃ nx, nx = 5 + T + 1 + 1 + 1 := ⟨_, rfl⟩
    have hnx0 : 0 < nx := by omega
    rw [← hnx]
    clear hhk hRd hnx hT1
    refine wc_heap (by simp only [mkAnn, K19]) rfl (copy_to (b := true) (r := x) (s := s) (by omega) (by omega) (by omega) (by omega) (fun w h => by
      obtain ⟨j, hj, rfl⟩ := List.getElem_of_mem h
      have := n5 j hj
      rw [get!_eq hj] at this; omega) hnx0 hk0) ?_
    rintro v hp' nx' ⟨rfl, rfl, rfl⟩
    have f1 := rfC1 (h := hk) (n := nx) (s := s) (os := x.os) (ms := x.ms) (cs := x.cs) (fs := x.fs) hnx0 rfl
    have f2 := rfC2 (h := hk) (n := nx) (s := s) (os := x.os) (ms := x.ms) (cs := x.cs) (fs := x.fs) rfl
    have f3 := rfC3 (h := hk) (n := nx) (s := s) (os := x.os) (ms := x.ms) (cs := x.cs) (fs := x.fs) rfl
    have f4 := rfC4 (h := hk) (n := nx) (s := s) (os := x.os) (ms := x.ms) (cs := x.cs) (fs := x.fs) rfl
    simp +contextual (maxSteps := 1000000) (disch := first | omega | (with_reducible first | refine krN ?_ | refine krS ?_ | refine krP ?_ | refine krG ?_); kernel_rfl | refine kr ?_; simp only [go_sem, reduceCtorEq, f1, f2, f3, f4]; done | fail) only [go_sem, seval, -List.reduceReplicate, f1, f2, f3, f4]
    clear f1 f2 f3 f4
    generalize killHp _ (CPr _ _ _) = hk2
    have e2 : Vl.agg [.lst 3 (x.os.map encO) false, I x.life, I x.plo, I x.phi, .lst 1 (x.fs.map encRow) false, .lst 5 (x.ms.map encM) false, .lst 7 (x.cs.map encC) false] = encRoll (some false) (some false) (some false) (some false) x := rfl
    rw [e2]
    simp +contextual (maxSteps := 1000000) (disch := first | omega | (with_reducible first | refine krN ?_ | refine krS ?_ | refine krP ?_ | refine krG ?_); kernel_rfl | refine kr ?_; simp only [go_sem, reduceCtorEq, wc28x, wc29, hx20, bin_neB, bne_self_eq_false, wc27]; done | fail) only [go_sem, seval, -List.reduceReplicate, wc28x, wc29, hx20, bin_neB, bne_self_eq_false, wc27]
    have hR20 := Narrow20.wf hw
    have hm6 := hw.ms_l
    generalize nx + 4 + x.fs.length = nz
    refine wp_loop_to R.ms.length (fun i st => ∃ (ex : List (Nat × Vl)), st = ({ sl := (9, .loc (encRoll (some false) (some false) (some false) (some false) R)) :: (16, I i) :: ex, hp := hk2, nx := nz } : FS)) ?_ 0 (Nat.zero_le _) ⟨[], rfl⟩
    rintro i st hi ⟨ex, rfl⟩
    by_cases hc : i < R.ms.length
    case neg =>
      obtain rfl : i = R.ms.length := by omega
      simp +contextual (maxSteps := 1000000) (disch := first | omega | (with_reducible first | refine krN ?_ | refine krS ?_ | refine krP ?_ | refine krG ?_); kernel_rfl | refine kr ?_; simp only [go_sem, reduceCtorEq, Int.lt_irrefl, wc16]; done | fail) only [go_sem, seval, -List.reduceReplicate, Int.lt_irrefl, wc16]
    simp +contextual (maxSteps := 1000000) (disch := first | omega | (with_reducible first | refine krN ?_ | refine krS ?_ | refine krP ?_ | refine krG ?_); kernel_rfl | refine kr ?_; simp only [go_sem, reduceCtorEq, Int.ofNat_lt, hc]; done | fail) only [go_sem, seval, -List.reduceReplicate, Int.ofNat_lt, hc]
    refine wp_loop_to R.ms.length (fun k st => ∃ (ex : List (Nat × Vl)), st = ({ sl := (9, .loc (encRoll (some false) (some false) (some false) (some false) R)) :: (16, I i) :: (17, I k) :: ex, hp := hk2, nx := nz } : FS)) ?_ 0 (Nat.zero_le _) ⟨[], rfl⟩
    rintro k st hkl ⟨ex, rfl⟩
    by_cases hc2 : k < R.ms.length
    · simp +contextual (maxSteps := 1000000) (disch := first | omega | (with_reducible first | refine krN ?_ | refine krS ?_ | refine krP ?_ | refine krG ?_); kernel_rfl | refine kr ?_; simp only [go_sem, reduceCtorEq, Int.ofNat_lt, hc2, wc28x, wc29, hR20, bin_neB, bne_self_eq_false]; done | fail) only [go_sem, seval, -List.reduceReplicate, Int.ofNat_lt, hc2, wc28x, wc29, hR20, bin_neB, bne_self_eq_false]
      exact ⟨[], rfl⟩
    · obtain rfl : k = R.ms.length := by omega
      simp +contextual (maxSteps := 1000000) (disch := first | omega | (with_reducible first | refine krN ?_ | refine krS ?_ | refine krP ?_ | refine krG ?_); kernel_rfl | refine kr ?_; simp only [go_sem, reduceCtorEq, Int.lt_irrefl]; done | fail) only [go_sem, seval, -List.reduceReplicate, Int.lt_irrefl]
      exact ⟨[], rfl⟩
end Go.Proofs
