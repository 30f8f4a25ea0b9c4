/- What functions of the given program do in the ideal machine (J14), and the plain laws of what they answer; the conditions stand in each theorem. -/
import Derived.Test.YtoamjmokonnglaaDoorJf
set_option linter.all false
set_option linter.unusedSectionVars false
set_option linter.unusedSimpArgs false
set_option linter.unusedVariables false
namespace Go.Proofs
open Go Go.Idl Go.Dt
set_option linter.unusedSimpArgs false
variable {b : Nat}
def setV (n : Nat) : Vl := SL 1 ((bitsN n).map I) none
noncomputable def is62 (c n i : Nat) : Bool := match pureI Tryd.prog (AA c) (exec Tryd.prog (AA c) 100 none) 31 [.int .u64 n, .int .i64 i] with
  | some (.bool t) => t == decide (n / 2 ^ i % 2 = 1)
  | _ => false
noncomputable def is90 (n : Nat) : Bool := match pureI Tryd.prog (AA 0) (exec Tryd.prog (AA 0) 100 none) 41 [.int .u64 n] with
  | some (.int .i64 k) => k == (bitsN n).length
  | _ => false
theorem all62 {c : Nat} : ((List.range 256).all fun n => (List.range 8).all fun i => is62 c n i) = true := by kernel_rfl
theorem all90 : ((List.range 256).all is90) = true := by kernel_rfl
theorem has62 {n i : Nat} (hn : n < 256) (hi : i < 8) : Ans Tryd.prog (AA b) 31 [U n, I i] (fun v => v = .bool (decide (n / 2 ^ i % 2 = 1))) := by
  have h := List.all_eq_true.1 (List.all_eq_true.1 (all62 (c := b)) n (List.mem_range.2 hn)) i (List.mem_range.2 hi)
  unfold is62 at h
  split at h
  · rename_i t e
    exact ⟨_, ⟨100, e⟩, by rw [eq_of_beq h]⟩
  · cases h
theorem many90 {n : Nat} (hn : n < 256) : Ans Tryd.prog (AA 0) 41 [U n] (fun v => v = I (bitsN n).length) := by
  have h := List.all_eq_true.1 all90 n (List.mem_range.2 hn)
  unfold is90 at h
  split at h
  · rename_i k e
    exact ⟨_, ⟨100, e⟩, by rw [eq_of_beq h]⟩
  · cases h
section
variable {m : Mem} {K : Vl → Mem → Prop}
theorem wc31_0 {n i : Nat} (hn : n < 256) (hi : i < 8) : WC Tryd.prog (AA b) (.fn (.func 31) [] []) [.v (.int .u64 n), .v (.int .i64 (i : Int))] m K = K (.bool (decide (n / 2 ^ i % 2 = 1))) m := WC_flat (by simp only [mkAnn, K31]) rfl (has62 hn hi) rfl
theorem wc41_0 {n : Nat} (hn : n < 256) : WC Tryd.prog (AA 0) (.fn (.func 41) [] []) [.v (.int .u64 n)] m K = K (I (bitsN n).length) m := WC_flat rfl rfl (many90 hn) rfl
end
theorem ap26_nils {m : Mem} {x : Vl} {o : Bool} : isAppend Tryd.prog 27 27 .nils (.lst 1 [x] o) m = some (.own m.nx 1, { m with hp := upd m.hp m.nx (.arr 1 [x]), nx := m.nx + 1 }) := app1_nils (by rw [td27]) rfl
theorem ap26_own {m : Mem} {id n : Nat} {xs : List Vl} {x : Vl} {o : Bool} (ho : m.hp id = .arr 1 xs) (hn : xs.length = n) (hs : n < 100000) : isAppend Tryd.prog 27 27 (.own id n) (.lst 1 [x] o) m = some (.own id (n + 1), { m with hp := upd m.hp id (.arr 1 (xs ++ [x])) }) :=
  app1_own (by rw [td27]) ho hn (grow_ok rfl rfl (by decide) (by decide) (by omega))
def bitsTo (n k : Nat) : List Int := (List.range k).filterMap fun (i : Nat) => if n / 2 ^ i % 2 = 1 then some (i : Int) else none
theorem bitsTo_succ {n k : Nat} : bitsTo n (k + 1) = bitsTo n k ++ if n / 2 ^ k % 2 = 1 then [(k : Int)] else [] := by
  unfold bitsTo
  rw [List.range_succ, List.filterMap_append]
  congr 1
  by_cases h : n / 2 ^ k % 2 = 1 <;> simp [h, List.filterMap_cons]
theorem bitsTo_len {n k : Nat} : (bitsTo n k).length ≤ k := by
  have := List.length_filterMap_le (fun (i : Nat) => if n / 2 ^ i % 2 = 1 then some (i : Int) else none) (List.range k)
  simpa [bitsTo] using this
def IS (l : List Int) (hp : Nat → Ob) (v : Vl) (nx : Nat) : Prop := (l = [] ∧ v = .nils ∧ nx = 0) ∨ (l ≠ [] ∧ v = .own 0 l.length ∧ nx = 1 ∧ hp 0 = .arr 1 (l.map I))
theorem IS.step {l : List Int} {hp : Nat → Ob} {v : Vl} {nx : Nat} (h : IS l hp v nx) (hl : l.length < 1000) (x : Int) (t : Bool) (lc : List (Nat × Vl)) : ∃ v' hp' nx', isAppend Tryd.prog 27 27 v (.lst 1 [.int .i64 x] t) { lc := lc, hp := hp, nx := nx } = some (v', { lc := lc, hp := hp', nx := nx' }) ∧ IS (l ++ [x]) hp' v' nx' := by
  rcases h with ⟨rfl, rfl, rfl⟩ | ⟨h1, rfl, rfl, h2⟩
  · exact ⟨_, _, _, ap26_nils, .inr ⟨by simp, rfl, rfl, upd_same _ _ _⟩⟩
  · refine ⟨_, _, _, ap26_own h2 (by simp) (by omega), .inr ⟨by simp, by simp, rfl, by show upd hp 0 _ 0 = _; rw [upd_same, List.map_append]; rfl⟩⟩
theorem IS.slot {l : List Int} {hp : Nat → Ob} {v : Vl} {nx : Nat} (h : IS l hp v nx) (t : Nat) : slotV t v = .v v := by
  rcases h with ⟨_, rfl, _⟩ | ⟨_, rfl, _⟩ <;> rfl
theorem IS.reify {l : List Int} {hp : Nat → Ob} {v : Vl} {nx : Nat} (h : IS l hp v nx) : ∃ ks, Go.Idl.reify hp v = some (SL 1 (l.map I) none, ks) := by
  rcases h with ⟨rfl, rfl, _⟩ | ⟨h1, rfl, _, h2⟩
  · exact ⟨_, rfl⟩
  · refine ⟨[0], (reify_flat (.inl h2) rfl fun _ => rfl).trans ?_⟩
    cases l with
    | nil => exact absurd rfl h1
    | cons x l => rfl
theorem list64 {n : Nat} (hn : n < 256) : Ans Tryd.prog (AA b) 33 [U n] (fun v => v = setV n) := by
  refine Ans_of Tryd.func33 rfl rfl ?_
  simp +contextual (maxSteps := 1000000) (disch := first | omega | (with_reducible first | refine krN ?_ | refine krS ?_ | refine krP ?_ | refine krG ?_); kernel_rfl | refine kr ?_; simp only [go_sem, reduceCtorEq]; done | fail) only [go_sem, seval, -List.reduceReplicate]
  refine wp_loop_to 8 (fun i st => ∃ (hp : Nat → Ob) (v : Vl) (nx : Nat) (ex : List (Nat × Vl)), IS (bitsTo n i) hp v nx ∧ st = ({ sl := (0, U n) :: (3, v) :: (5, I i) :: ex, hp := hp, nx := nx } : FS)) ?_ 0 (Nat.zero_le _) ⟨noHeap, _, 0, _, .inl ⟨rfl, rfl, rfl⟩, rfl⟩
  rintro i st hi ⟨hp, v, nx, ex, hI, rfl⟩
  have hsl := hI.slot
  by_cases hc : i < 8
  · have hc' : (i : Int) < 8 := by omega
    by_cases hb : n / 2 ^ i % 2 = 1
    · obtain ⟨v', hp', nx', e, hI'⟩ := hI.step (by have := @bitsTo_len n i; omega) i true []
      have hsl' := hI'.slot
      simp +contextual (maxSteps := 1000000) (disch := first | omega | (with_reducible first | refine krN ?_ | refine krS ?_ | refine krP ?_ | refine krG ?_); kernel_rfl | refine kr ?_; simp only [go_sem, reduceCtorEq, hc', hc, hn, wc31_0, hb, e, hsl, hsl']; done | fail) only [go_sem, seval, -List.reduceReplicate, hc', hc, hn, wc31_0, hb, e, hsl, hsl']
      exact ⟨hp', v', nx', _, by rw [bitsTo_succ, if_pos hb]; exact hI', rfl⟩
    · simp +contextual (maxSteps := 1000000) (disch := first | omega | (with_reducible first | refine krN ?_ | refine krS ?_ | refine krP ?_ | refine krG ?_); kernel_rfl | refine kr ?_; simp only [go_sem, reduceCtorEq, hc', hc, hn, wc31_0, hb, hsl]; done | fail) only [go_sem, seval, -List.reduceReplicate, hc', hc, hn, wc31_0, hb, hsl]
      exact ⟨hp, v, nx, _, by rw [bitsTo_succ, if_neg hb, List.append_nil]; exact hI, rfl⟩
  · have hie : i = 8 := by omega
    subst hie
    obtain ⟨ks, hrf⟩ := hI.reify
    simp +contextual (maxSteps := 1000000) (disch := first | omega | (with_reducible first | refine krN ?_ | refine krS ?_ | refine krP ?_ | refine krG ?_); kernel_rfl | refine kr ?_; simp only [go_sem, reduceCtorEq, hsl, hrf]; done | fail) only [go_sem, seval, -List.reduceReplicate, hsl, hrf]
    rfl
theorem clSet (n : Nat) : (setV n).closed = true := closed_SL (closedL_map clI _)
section
variable {m : Mem} {K : Vl → Mem → Prop}
theorem wc33_0 {n : Nat} (hn : n < 256) : WC Tryd.prog (AA b) (.fn (.func 33) [] []) [.v (.int .u64 n)] m K = K (setV n) m := WC_closed (by simp only [mkAnn, K33]) rfl (clSet n) (list64 hn)
end
end Go.Proofs
