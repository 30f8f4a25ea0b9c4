/- What functions of the given program do in the ideal machine (J15), and the plain laws of what they answer; the conditions stand in each theorem. -/
import Derived.Test.YtoamjmokonnglaaDoorJg
set_option linter.all false
set_option linter.unusedSectionVars false
set_option linter.unusedSimpArgs false
set_option linter.unusedVariables false
namespace Go.Proofs
open Go Go.Idl Go.Dt
set_option linter.unusedSimpArgs false
variable {b : Nat}
theorem cmp_to {a c : Int} : Ans Tryd.prog (AA b) 43 [I a, I c] (fun v => v = I (cmpI a c)) := by
  refine Ans_of Tryd.func43 rfl rfl ?_
  have hn : ∀ (m : Mem) (K : Vl → Mem → Prop) (x : Int), WC Tryd.prog (AA b) (.fn (.func 66) [] []) [.v (.int .i64 x)] m K = K (.bool false) m := fun m K x =>
    WC_flat (by simp only [mkAnn, K66]) rfl (by
      refine Ans_of (args := [I x]) Tryd.func66 rfl rfl ?_
      simp +contextual (maxSteps := 1000000) (disch := first | omega | (with_reducible first | refine krN ?_ | refine krS ?_ | refine krP ?_ | refine krG ?_); kernel_rfl | refine kr ?_; simp only [go_sem, reduceCtorEq]; done | fail) only [go_sem, seval, -List.reduceReplicate]) rfl
  by_cases h1 : a < c
  · rw [cmpI, if_pos h1]
    simp +contextual (maxSteps := 1000000) (disch := first | omega | (with_reducible first | refine krN ?_ | refine krS ?_ | refine krP ?_ | refine krG ?_); kernel_rfl | refine kr ?_; simp only [go_sem, reduceCtorEq, hn, h1]; done | fail) only [go_sem, seval, -List.reduceReplicate, hn, h1]
  · by_cases h2 : c < a
    · rw [cmpI, if_neg h1, if_pos h2]
      simp +contextual (maxSteps := 1000000) (disch := first | omega | (with_reducible first | refine krN ?_ | refine krS ?_ | refine krP ?_ | refine krG ?_); kernel_rfl | refine kr ?_; simp only [go_sem, reduceCtorEq, hn, h1, h2]; done | fail) only [go_sem, seval, -List.reduceReplicate, hn, h1, h2]
    · rw [cmpI, if_neg h1, if_neg h2]
      simp +contextual (maxSteps := 1000000) (disch := first | omega | (with_reducible first | refine krN ?_ | refine krS ?_ | refine krP ?_ | refine krG ?_); kernel_rfl | refine kr ?_; simp only [go_sem, reduceCtorEq, hn, h1, h2]; done | fail) only [go_sem, seval, -List.reduceReplicate, hn, h1, h2]
theorem or_to {a c : Int} {o : Bool} : Ans Tryd.prog (AA b) 42 [.lst 1 [I a, I c] o] (fun v => v = I (if a ≠ 0 then a else c)) := by
  refine Ans_of Tryd.func42 rfl rfl ?_
  have ix0 : ∀ m, indexAddrV (.slice 1 8 (.int .i64 0)) (.v (.lst 1 [.int .i64 a, .int .i64 c] o)) (.int .i64 0) m = some (.v (.fp (I a) 0), m) := fun m => rfl
  have ix1 : ∀ m, indexAddrV (.slice 1 8 (.int .i64 0)) (.v (.lst 1 [.int .i64 a, .int .i64 c] o)) (.int .i64 1) m = some (.v (.fp (I c) 0), m) := fun m => rfl
  simp +contextual (maxSteps := 1000000) (disch := first | omega | (with_reducible first | refine krN ?_ | refine krS ?_ | refine krP ?_ | refine krG ?_); kernel_rfl | refine kr ?_; simp only [go_sem, reduceCtorEq]; done | fail) only [go_sem, seval, -List.reduceReplicate]
  refine wp_loop_to 2 (fun i st => ∃ ex, (i = 1 → a = 0) ∧ (i = 2 → a = 0 ∧ c = 0) ∧ st = ({ sl := (3, I 0) :: (6, .lst 1 [I a, I c] o) :: (7, I 2) :: (8, I i) :: ex, hp := noHeap, nx := 0 } : FS)) ?_ 0 (Nat.zero_le _) ⟨_, fun h => by omega, fun h => by omega, rfl⟩
  rintro i st hi ⟨ex, k1, k2, rfl⟩
  have h3 : i = 0 ∨ i = 1 ∨ i = 2 := by omega
  rcases h3 with rfl | rfl | rfl
  · by_cases h : a = 0
    · subst h
      simp +contextual (maxSteps := 1000000) (disch := first | omega | (with_reducible first | refine krN ?_ | refine krS ?_ | refine krP ?_ | refine krG ?_); kernel_rfl | refine kr ?_; simp only [go_sem, reduceCtorEq, ix0]; done | fail) only [go_sem, seval, -List.reduceReplicate, ix0]
      exact ⟨_, rfl⟩
    · rw [if_pos h]
      simp +contextual (maxSteps := 1000000) (disch := first | omega | (with_reducible first | refine krN ?_ | refine krS ?_ | refine krP ?_ | refine krG ?_); kernel_rfl | refine kr ?_; simp only [go_sem, reduceCtorEq, ix0, h]; done | fail) only [go_sem, seval, -List.reduceReplicate, ix0, h]
  · have ha := k1 rfl
    subst ha
    rw [if_neg (fun h => h rfl)]
    by_cases h : c = 0
    · subst h
      simp +contextual (maxSteps := 1000000) (disch := first | omega | (with_reducible first | refine krN ?_ | refine krS ?_ | refine krP ?_ | refine krG ?_); kernel_rfl | refine kr ?_; simp only [go_sem, reduceCtorEq, ix1]; done | fail) only [go_sem, seval, -List.reduceReplicate, ix1]
      exact ⟨_, rfl⟩
    · simp +contextual (maxSteps := 1000000) (disch := first | omega | (with_reducible first | refine krN ?_ | refine krS ?_ | refine krP ?_ | refine krG ?_); kernel_rfl | refine kr ?_; simp only [go_sem, reduceCtorEq, ix1, h]; done | fail) only [go_sem, seval, -List.reduceReplicate, ix1, h]
  · obtain ⟨rfl, rfl⟩ := k2 rfl
    simp +contextual (maxSteps := 1000000) (disch := first | omega | (with_reducible first | refine krN ?_ | refine krS ?_ | refine krP ?_ | refine krG ?_); kernel_rfl | refine kr ?_; simp only [go_sem, reduceCtorEq]; done | fail) only [go_sem, seval, -List.reduceReplicate]
section
variable {m : Mem} {K : Vl → Mem → Prop}
theorem wc43 {a c : Int} : WC Tryd.prog (AA b) (.fn (.func 43) [] []) [.v (.int .i64 a), .v (.int .i64 c)] m K = K (I (cmpI a c)) m := WC_flat (by simp only [mkAnn, K43]) rfl cmp_to rfl
theorem wc42 {a c : Int} {o : Bool} : WC Tryd.prog (AA b) (.fn (.func 42) [] []) [.v (.lst 1 [.int .i64 a, .int .i64 c] o)] m K = K (I (if a ≠ 0 then a else c)) m := WC_flat (by simp only [mkAnn, K42]) (rfAs (xs := [.lst 1 [I a, I c] o]) rfl) or_to rfl
end
theorem cmpLs_nil {y : List Int} : cmpLs [] y = if 0 < y.length then -1 else 0 := by cases y <;> simp [cmpLs]
theorem cmps_to {x y : List Int} {o1 o2 : Option Bool} (hl : x.length ≤ 1000) : Ans Tryd.prog (AA b) 44 [SL 1 (x.map I) o1, SL 1 (y.map I) o2] (fun v => v = I (cmpLs x y)) := by
  refine Ans_of Tryd.func44 rfl rfl ?_
  obtain ⟨E, hE⟩ : ∃ E, cmpLs x y = E := ⟨_, rfl⟩
  rw [hE]
  simp +contextual (maxSteps := 1000000) (disch := first | omega | (with_reducible first | refine krN ?_ | refine krS ?_ | refine krP ?_ | refine krG ?_); kernel_rfl | refine kr ?_; simp only [go_sem, reduceCtorEq]; done | fail) only [go_sem, seval, -List.reduceReplicate]
  refine wp_loop_to x.length (fun i st => ∃ ex, cmpLs (x.drop i) (y.drop i) = E ∧ i ≤ y.length ∧ st = ({ sl := (0, SL 1 (x.map I) o1) :: (1, SL 1 (y.map I) o2) :: (9, SL 1 (x.map I) o1) :: (10, I x.length) :: (11, I i) :: ex, hp := noHeap, nx := 0 } : FS)) ?_ 0 (Nat.zero_le _) ⟨_, by rw [List.drop_zero, List.drop_zero]; exact hE, Nat.zero_le _, rfl⟩
  rintro i st hi ⟨ex, hI, hy, rfl⟩
  by_cases hc : i < x.length
  · have hdx : x.drop i = x[i]! :: x.drop (i + 1) := by rw [get!_eq hc]; exact (List.getElem_cons_drop hc).symm
    by_cases hcy : i < y.length
    · have hdy : y.drop i = y[i]! :: y.drop (i + 1) := by rw [get!_eq hcy]; exact (List.getElem_cons_drop hcy).symm
      have hcy' : ¬ (y.length : Int) ≤ i := by omega
      rw [hdx, hdy, cmpLs] at hI
      by_cases k : cmpI x[i]! y[i]! = 0
      · rw [if_neg (fun h => h k)] at hI
        simp +contextual (maxSteps := 1000000) (disch := first | omega | (with_reducible first | refine krN ?_ | refine krS ?_ | refine krP ?_ | refine krG ?_); kernel_rfl | refine kr ?_; simp only [go_sem, reduceCtorEq, Int.ofNat_lt, hc, hcy, hcy', ix_map, wc43, k]; done | fail) only [go_sem, seval, -List.reduceReplicate, Int.ofNat_lt, hc, hcy, hcy', ix_map, wc43, k]
        exact ⟨_, hI, by omega, rfl⟩
      · rw [if_pos k] at hI
        rw [← hI]
        simp +contextual (maxSteps := 1000000) (disch := first | omega | (with_reducible first | refine krN ?_ | refine krS ?_ | refine krP ?_ | refine krG ?_); kernel_rfl | refine kr ?_; simp only [go_sem, reduceCtorEq, Int.ofNat_lt, hc, hcy, hcy', ix_map, wc43, k]; done | fail) only [go_sem, seval, -List.reduceReplicate, Int.ofNat_lt, hc, hcy, hcy', ix_map, wc43, k]
    · have hcy' : (y.length : Int) ≤ i := by omega
      rw [hdx, show y.drop i = [] from List.drop_of_length_le (by omega)] at hI
      have hI : (1 : Int) = E := hI
      rw [← hI]
      simp +contextual (maxSteps := 1000000) (disch := first | omega | (with_reducible first | refine krN ?_ | refine krS ?_ | refine krP ?_ | refine krG ?_); kernel_rfl | refine kr ?_; simp only [go_sem, reduceCtorEq, Int.ofNat_lt, hc, hcy', ix_map]; done | fail) only [go_sem, seval, -List.reduceReplicate, Int.ofNat_lt, hc, hcy', ix_map]
  · have hie : i = x.length := by omega
    subst hie
    rw [List.drop_length, cmpLs_nil, List.length_drop] at hI
    by_cases k : x.length < y.length
    · have k' : (x.length : Int) < y.length := by omega
      rw [if_pos (by omega)] at hI
      rw [← hI]
      simp +contextual (maxSteps := 1000000) (disch := first | omega | (with_reducible first | refine krN ?_ | refine krS ?_ | refine krP ?_ | refine krG ?_); kernel_rfl | refine kr ?_; simp only [go_sem, reduceCtorEq, Int.lt_irrefl, k']; done | fail) only [go_sem, seval, -List.reduceReplicate, Int.lt_irrefl, k']
    · have k' : ¬ (x.length : Int) < y.length := by omega
      rw [if_neg (by omega)] at hI
      rw [← hI]
      simp +contextual (maxSteps := 1000000) (disch := first | omega | (with_reducible first | refine krN ?_ | refine krS ?_ | refine krP ?_ | refine krG ?_); kernel_rfl | refine kr ?_; simp only [go_sem, reduceCtorEq, Int.lt_irrefl, k']; done | fail) only [go_sem, seval, -List.reduceReplicate, Int.lt_irrefl, k']
section
variable {m : Mem} {K : Vl → Mem → Prop}
theorem wc44s {n k : Nat} : WC Tryd.prog (AA b) (.fn (.func 44) [] []) [.v (setV n), .v (setV k)] m K = K (I (cmpLs (bitsN n) (bitsN k))) m :=
  WC_closed (by simp only [mkAnn, K44]) (rfAs (xs := [setV n, setV k]) (by simp only [closedL, clSet, Bool.and_self])) rfl (cmps_to (by have := @bitsTo_len n 8; show (bitsTo n 8).length ≤ 1000; omega))
end
theorem slot_set {n t : Nat} : slotV t (setV n) = .v (setV n) := SL_slot
theorem first_to {a c : Nat} (ha : a < 256) (hc : c < 256) : Ans Tryd.prog (AA 0) 30 [U a, U c] (fun v => v = I (firstN a c)) := by
  refine Ans_of Tryd.func30 rfl rfl ?_
  simp +contextual (maxSteps := 1000000) (disch := first | omega | (with_reducible first | refine krN ?_ | refine krS ?_ | refine krP ?_ | refine krG ?_); kernel_rfl | refine kr ?_; simp only [go_sem, reduceCtorEq, wc41_0, wc33_0, ha, hc, wc43, wc44s, wc42, slot_set]; done | fail) only [go_sem, seval, -List.reduceReplicate, wc41_0, wc33_0, ha, hc, wc43, wc44s, wc42, slot_set]
  rfl
def funcOk (fn : Func) : Bool := (fn.name != "runtime.NumGoroutine") && (match fn.body with | some c => codeOk fn.ntmps c | none => true)
theorem funcs_ok : (Tryd.prog.funcs.toList.all funcOk) = true := by kernel_rfl
theorem prog_ok : ProgOk Tryd.prog where
  mixed := by kernel_rfl
  name g fn hg _ := by
    have := List.all_eq_true.1 funcs_ok fn (by rw [Array.mem_toList_iff]; exact Array.mem_of_getElem? hg)
    simp only [funcOk, Bool.and_eq_true, bne_iff_ne, ne_eq] at this
    exact this.1
  slots g fn c hg hb := by
    have := List.all_eq_true.1 funcs_ok fn (by rw [Array.mem_toList_iff]; exact Array.mem_of_getElem? hg)
    simp only [funcOk, hb, Bool.and_eq_true] at this
    exact this.2
theorem ext_0 : ExtOk Tryd.prog (AA 0) := .mk (fun g h args r hg => by
  have : extT 0 g = some h := hg
  unfold extT at this
  split at this
  · simp at this
  · split at this <;> simp at this) (fun g k h => nomatch h)
theorem pcall_of {A : Ann} (hA : ExtOk Tryd.prog A) {g : FuncId} {args : List Vl} {v : Vl} (h : Pures Tryd.prog A g args v) : PCall Tryd.prog g args v := by
  obtain ⟨k, h⟩ := h
  exact pure_calls prog_ok hA (exec_ok prog_ok hA k) h
theorem firstX_call {args : List Vl} {r : Vl} (h : firstX args = some r) : PCall Tryd.prog 30 args r := by
  unfold firstX at h
  split at h
  · rename_i a c
    split at h
    · rename_i hc
      cases h
      obtain ⟨A, rfl⟩ := Int.eq_ofNat_of_zero_le hc.1
      obtain ⟨C, rfl⟩ := Int.eq_ofNat_of_zero_le hc.2.2.1
      obtain ⟨v, h1, rfl⟩ := first_to (a := A) (c := C) (by omega) (by omega)
      exact pcall_of ext_0 h1
    · cases h
  · cases h
theorem ext_1 : ExtOk Tryd.prog (AA 1) := .mk (fun g h args r hg hr => by
  have hq : extT 1 g = some h := hg
  clear hg
  unfold extT at hq
  split at hq
  · rename_i e
    subst e
    rw [if_neg (by decide)] at hq
    cases hq
    exact firstX_call hr
  · split at hq <;> simp at hq) (fun g k h => nomatch h)
end Go.Proofs
