/- What functions of the given program do in the ideal machine (J3, J4), and the plain laws of what they answer; the conditions stand in each theorem. -/
import Derived.Test.YtoamjmokonnglaaDoorDb
set_option linter.all false
set_option linter.unusedSectionVars false
set_option linter.unusedSimpArgs false
set_option linter.unusedVariables false
namespace Go.Proofs
open Go Go.Idl Go.Dt
set_option linter.unusedSimpArgs false
variable {b : Nat}
@[reducible] def tV (T : List Int) : Vl := .agg (T.map I)
theorem tb_get {T : List Int} (h : T.length = 100) {a b : Nat} (ha : a < 10) (hb : b < 10) : (T.map I)[a * 10 + b]? = some (I (tb T a b)) := by
  unfold tb
  rw [List.getElem?_map, List.getD_eq_getElem?_getD, show a * 10 + b = 10 * a + b by omega, List.getElem?_eq_getElem (by omega)]
  rfl
theorem sub_T {T : List Int} (h : T.length = 100) {a b : Nat} (ha : a < 10) (hb : b < 10) : sub false 1 (a * 10 + b) (.agg (T.map I)) = some (.int .i64 (tb T a b)) := by
  unfold sub
  simp only [Vl.size, Vl.cells, List.length_map, h]
  rw [if_pos (by omega), if_neg (by decide), if_pos trivial, List.head?_drop, tb_get h ha hb]
theorem put_T {T : List Int} (h : T.length = 100) {a b : Nat} (ha : a < 10) (hb : b < 10) {x : Int} : put (a * 10 + b) (.int .i64 x) (.agg (T.map I)) = some (.agg ((T.set (10 * a + b) x).map I)) := by
  unfold put
  simp only [Vl.size, Vl.cells, List.length_map, h]
  rw [if_pos (show a * 10 + b + [Vl.int IntKind.i64 x].length ≤ 100 by simp only [List.length_cons, List.length_nil]; omega), List.map_set, List.set_eq_take_append_cons_drop, if_pos (by rw [List.length_map, h]; omega), show a * 10 + b = 10 * a + b by omega]
  simp
theorem sub_T_all {T : List Int} (h : T.length = 100) : sub true 100 0 (.agg (T.map I)) = some (.agg (T.map I)) := by
  unfold sub
  simp only [Vl.size, Vl.cells, List.length_map, h]
  rw [if_pos (by omega), if_pos trivial, List.drop_zero, List.take_of_length_le (by rw [List.length_map, h]; omega)]
theorem put_T_all {T U : List Int} (h : T.length = 100) (h' : U.length = 100) : put 0 (.agg (U.map I)) (.agg (T.map I)) = some (.agg (U.map I)) := by
  unfold put
  simp only [Vl.size, Vl.cells, List.length_map, h, h']
  rw [if_pos (by omega), List.take_zero, List.drop_of_length_le (by rw [List.length_map, h]; omega)]
  simp
theorem zero_T : Vl.agg (List.replicate 100 (.int .i64 0)) = .agg ((List.replicate 100 (0 : Int)).map I) := rfl
theorem len_zT : (List.replicate 100 (0 : Int)).length = 100 := List.length_replicate
theorem flatL_T (T : List Int) : flatL (T.map I) = true := by
  induction T with
  | nil => rfl
  | cons a l ih => simp only [List.map_cons, flatL, ih]; rfl
theorem closedL_T (T : List Int) : closedL (T.map I) = true := by
  induction T with
  | nil => rfl
  | cons a l ih => simp only [List.map_cons, closedL, ih]; rfl
theorem ent_set {k a b : Nat} {T : List Int} : T.set (10 * a + b) (min (tb T a b) (tb T a k + tb T k b)) = entL k T a b := rfl
theorem mid_bndL {T : List Int} (h : T.length = 100) (hb : Bnd 1073741824 T) {k a b : Nat} (hk : k < 10) (ha : a < 10) (hb' : b ≤ 10) : (rowL k a b (pivL k a (passL k T))).length = 100 ∧ Bnd 303305489096114176 (rowL k a b (pivL k a (passL k T))) := by
  have e := agree_row (agree_piv (agree_pass (agree_tb h) k (by omega)) hk a (by omega)) hk ha b hb'
  refine ⟨e.1, fun x y hx hy => ?_⟩
  rw [e.2 x y hx hy]
  have := mid_bnd (t := tb T) (M := 1073741824) (U := 1073741824) (by omega) hb hk ha hb' hx hy
  omega
theorem reifyLs_T {hp : Nat → Ob} (T : List Int) : reifyLs hp (T.map I) = some (T.map I, []) := by
  unfold reifyLs
  induction T with
  | nil => rfl
  | cons a l ih => simp only [List.map_cons, reifyL, ih]; rfl
attribute [go_sem] reifyLs_T sub_T put_T sub_T_all put_T_all zero_T len_zT List.length_map List.length_replicate
set_option maxRecDepth 10000 in
set_option maxHeartbeats 4000000 in
theorem further_to {T : List Int} (h : T.length = 100) (hb : Bnd 1073741824 T) : Ans Tryd.prog (AA b) 67 [tV T] (fun v => v = tV (passL 10 T)) := by
  refine Ans_of Tryd.func67 rfl rfl ?_
  simp +contextual (maxSteps := 1000000) (disch := first | omega | (with_reducible first | refine krN ?_ | refine krS ?_ | refine krP ?_ | refine krG ?_); kernel_rfl | refine kr ?_; simp only [go_sem, reduceCtorEq, h]; done | fail) only [go_sem, seval, -List.reduceReplicate, h]
  obtain ⟨Z, hZ⟩ : ∃ Z : List Int, Z = List.replicate 100 0 := ⟨_, rfl⟩
  have hZ1 : Z.length = 100 := by rw [hZ, len_zT]
  rw [← hZ]
  clear hZ
  refine wp_loop_to 10 (fun k st => ∃ ex, st = ({ sl := (1, .loc (tV (passL k T))) :: (2, .loc (tV Z)) :: (6, I k) :: ex, hp := noHeap, nx := 0 } : FS)) ?_ 0 (Nat.zero_le _) ⟨_, rfl⟩
  rintro k st hk ⟨ex, rfl⟩
  have hA := (agree_pass (agree_tb h) k hk).1
  by_cases hc : k < 10
  · have hc' : (k : Int) < 10 := by omega
    simp +contextual (maxSteps := 1000000) (disch := first | omega | (with_reducible first | refine krN ?_ | refine krS ?_ | refine krP ?_ | refine krG ?_); kernel_rfl | refine kr ?_; simp only [go_sem, reduceCtorEq, h, hA, hc']; done | fail) only [go_sem, seval, -List.reduceReplicate, h, hA, hc']
    refine wp_loop_to 10 (fun a st => ∃ ex, st = ({ sl := (1, .loc (tV (pivL k a (passL k T)))) :: (2, .loc (tV Z)) :: (3, I k) :: (6, I k) :: (9, I a) :: ex, hp := noHeap, nx := 0 } : FS)) ?_ 0 (Nat.zero_le _) ⟨_, rfl⟩
    rintro a st ha ⟨ex, rfl⟩
    by_cases hca : a < 10
    · have hca' : (a : Int) < 10 := by omega
      simp +contextual (maxSteps := 1000000) (disch := first | omega | (with_reducible first | refine krN ?_ | refine krS ?_ | refine krP ?_ | refine krG ?_); kernel_rfl | refine kr ?_; simp only [go_sem, reduceCtorEq, hca']; done | fail) only [go_sem, seval, -List.reduceReplicate, hca']
      refine wp_loop_to 10 (fun j st => ∃ ex, st = ({ sl := (1, .loc (tV (rowL k a j (pivL k a (passL k T))))) :: (2, .loc (tV Z)) :: (3, I k) :: (4, I a) :: (6, I k) :: (9, I a) :: (12, I j) :: ex, hp := noHeap, nx := 0 } : FS)) ?_ 0 (Nat.zero_le _) ⟨_, rfl⟩
      rintro j st hj ⟨ex, rfl⟩
      obtain ⟨hL, hB⟩ := mid_bndL h hb hc hca hj
      have hsucc : ∀ R, R = rowL k a j (pivL k a (passL k T)) → entL k R a j = rowL k a (j + 1) (pivL k a (passL k T)) := fun R e => by rw [e]; rfl
      have hlast : ∀ R, R = rowL k a j (pivL k a (passL k T)) → j = 10 → R = pivL k (a + 1) (passL k T) := fun R e e2 => by subst e2; exact e
      generalize hR : rowL k a j (pivL k a (passL k T)) = R at hL hB
      by_cases hcj : j < 10
      · have hcj' : (j : Int) < 10 := by omega
        have b1 := hB a k hca hc
        have b2 := hB k j hc hcj
        have hw : IntKind.wrap .i64 (tb R a k + tb R k j) = tb R a k + tb R k j := wrap_i64 (by omega) (by omega)
        simp +contextual (maxSteps := 1000000) (disch := first | omega | (with_reducible first | refine krN ?_ | refine krS ?_ | refine krP ?_ | refine krG ?_); kernel_rfl | refine kr ?_; simp only [go_sem, reduceCtorEq, hcj', hL, hca', hc', hca, hc, hcj, hw, ent_set, indexAddr_arr, Nat.mul_one]; done | fail) only [go_sem, seval, -List.reduceReplicate, hcj', hL, hca', hc', hca, hc, hcj, hw, ent_set, indexAddr_arr, Nat.mul_one]
        rw [hsucc R hR.symm]
        exact ⟨_, rfl⟩
      · have hcj' : ¬ (j : Int) < 10 := by omega
        simp +contextual (maxSteps := 1000000) (disch := first | omega | (with_reducible first | refine krN ?_ | refine krS ?_ | refine krP ?_ | refine krG ?_); kernel_rfl | refine kr ?_; simp only [go_sem, reduceCtorEq, hcj']; done | fail) only [go_sem, seval, -List.reduceReplicate, hcj']
        rw [hlast R hR.symm (by omega)]
        exact ⟨hca, _, rfl⟩
    · have hca' : ¬ (a : Int) < 10 := by omega
      simp +contextual (maxSteps := 1000000) (disch := first | omega | (with_reducible first | refine krN ?_ | refine krS ?_ | refine krP ?_ | refine krG ?_); kernel_rfl | refine kr ?_; simp only [go_sem, reduceCtorEq, hca']; done | fail) only [go_sem, seval, -List.reduceReplicate, hca']
      have e : a = 10 := by omega
      subst e
      exact ⟨hc, _, rfl⟩
  · have hc' : ¬ (k : Int) < 10 := by omega
    have e : k = 10 := by omega
    subst e
    simp +contextual (maxSteps := 1000000) (disch := first | omega | (with_reducible first | refine krN ?_ | refine krS ?_ | refine krP ?_ | refine krG ?_); kernel_rfl | refine kr ?_; simp only [go_sem, reduceCtorEq, hc', hA, hZ1]; done | fail) only [go_sem, seval, -List.reduceReplicate, hc', hA, hZ1]
end Go.Proofs
namespace Go.Proofs
open Go Go.Idl Go.Dt
set_option linter.unusedSimpArgs false
variable {b : Nat}
theorem eqCells_T : ∀ {U T : List Int}, U.length = T.length → eqCells (List.replicate T.length CK.i) (U.map I) (T.map I) = some (decide (U = T))
  | [], [], _ => rfl
  | x :: U, y :: T, h => by
    have ih := eqCells_T (U := U) (T := T) (by simpa using h)
    show (eqCells (List.replicate T.length CK.i) (U.map I) (T.map I)).map (fun s => decide (x = y) && s) = _
    rw [ih]
    by_cases e1 : x = y <;> by_cases e2 : U = T <;> simp [e1, e2]
theorem eq_T {U T : List Int} (hU : U.length = 100) (hT : T.length = 100) {z : Vl} {k : TK} : binOpV { ok := true, agg := true, size := 100, zero := z, flat := some (List.replicate 100 CK.i), k := k } .eql (.agg (U.map I)) (.agg (T.map I)) = some (.bool (decide (U = T))) := by
  have := eqCells_T (hU.trans hT.symm)
  rw [hT] at this
  show (eqCells _ _ _).map _ = _
  rw [this]; rfl
theorem psL_ex (T : List Int) : ∃ U, passL 10 T = U := ⟨_, rfl⟩
noncomputable def psL (T : List Int) : List Int := Classical.choose (psL_ex T)
theorem psL_eq (T : List Int) : passL 10 T = psL T := Classical.choose_spec (psL_ex T)
theorem flat_T (T : List Int) : (tV T).flat = true := flatL_T T
theorem flat_T2 (T : List Int) (t : Bool) : (Vl.tup [tV T, .bool t]).flat = true := by show (flatL (T.map I) && _) = true; rw [flatL_T]; rfl
section
variable {m : Mem} {K : Vl → Mem → Prop}
theorem wc67 {T : List Int} (h : T.length = 100) (hb : Bnd 1073741824 T) : WC Tryd.prog (AA b) (.fn (.func 67) [] []) [.v (.agg (T.map I))] m K = K (tV (psL T)) m :=
  WC_flat (by simp only [mkAnn, K67]) (rfAs (xs := [tV T]) (by simp only [closedL, Vl.closed, closedL_T, Bool.and_self])) (by rw [← psL_eq]; exact further_to h hb) (flat_T _)
end
set_option maxRecDepth 10000 in
set_option maxHeartbeats 4000000 in
theorem closed_to {T : List Int} (h : T.length = 100) (hb : Bnd 1073741824 T) : Ans Tryd.prog (AA b) 51 [tV T] (fun v => v = .tup [tV (clsL T).1, .bool (clsL T).2]) := by
  refine Ans_of Tryd.func51 rfl rfl ?_
  simp +contextual (maxSteps := 1000000) (disch := first | omega | (with_reducible first | refine krN ?_ | refine krS ?_ | refine krP ?_ | refine krG ?_); kernel_rfl | refine kr ?_; simp only [go_sem, reduceCtorEq, h]; done | fail) only [go_sem, seval, -List.reduceReplicate, h]
  obtain ⟨Z, hZ⟩ : ∃ Z : List Int, Z = List.replicate 100 0 := ⟨_, rfl⟩
  have hZ1 : Z.length = 100 := by rw [hZ, len_zT]
  rw [← hZ]
  clear hZ
  refine wp_loop_to 1 (fun i st => ∃ (U : List Int) (ex : List (Nat × Vl)), ((i = 0 ∧ U = T) ∨ (i = 1 ∧ negD T = false ∧ U = psL T ∧ U ≠ T)) ∧ U.length = 100 ∧ (negD U = false → Bnd 1073741824 U) ∧ st = ({ sl := (1, .loc (tV U)) :: (2, .loc (tV Z)) :: ex, hp := noHeap, nx := 0 } : FS)) ?_ 0 (Nat.zero_le _) ⟨T, _, .inl ⟨rfl, rfl⟩, h, fun _ => hb, rfl⟩
  rintro i st hi ⟨U, ex, hU, hL, hB, rfl⟩
  have hneg : negD U = true → clsL T = (U, false) := fun e => by
    rcases hU with ⟨_, rfl⟩ | ⟨_, h1, rfl, h3⟩
    · rw [clsL, if_pos e]
    · rw [clsL_eq (psL_eq _), if_neg (by rw [h1]; decide), if_neg h3, if_pos e]
  have hpos : negD U = false → psL U = U → clsL T = (U, true) := fun e e2 => by
    rcases hU with ⟨_, rfl⟩ | ⟨_, h1, rfl, h3⟩
    · rw [clsL_eq (psL_eq _), if_neg (by rw [e]; decide), if_pos e2]
    · rw [clsL_eq (psL_eq _), if_neg (by rw [h1]; decide), if_neg h3, if_neg (by rw [e]; decide)]
  simp +contextual (maxSteps := 1000000) (disch := first | omega | (with_reducible first | refine krN ?_ | refine krS ?_ | refine krP ?_ | refine krG ?_); kernel_rfl | refine kr ?_; simp only [go_sem, reduceCtorEq]; done | fail) only [go_sem, seval, -List.reduceReplicate]
  refine wp_loop_to 10 (fun a st => ∃ ex, (∀ x, x < a → 0 ≤ tb U x x) ∧ st = ({ sl := (1, .loc (tV U)) :: (2, .loc (tV Z)) :: (6, I a) :: ex, hp := noHeap, nx := 0 } : FS)) ?_ 0 (Nat.zero_le _) ⟨_, fun x hx => absurd hx (by omega), rfl⟩
  rintro a st ha ⟨ex, hx, rfl⟩
  by_cases hc : a < 10
  · have hc' : (a : Int) < 10 := by omega
    by_cases hn : tb U a a < 0
    · have hn2 : negD U = true := by
        cases e : negD U with
        | true => rfl
        | false => have := negD_false.1 e a hc; omega
      have hcl := hneg hn2
      simp +contextual (maxSteps := 1000000) (disch := first | omega | (with_reducible first | refine krN ?_ | refine krS ?_ | refine krP ?_ | refine krG ?_); kernel_rfl | refine kr ?_; simp only [go_sem, reduceCtorEq, hc', hc, hL, hZ1, indexAddr_arr, Nat.mul_one, hn, hcl]; done | fail) only [go_sem, seval, -List.reduceReplicate, hc', hc, hL, hZ1, indexAddr_arr, Nat.mul_one, hn, hcl]
    · simp +contextual (maxSteps := 1000000) (disch := first | omega | (with_reducible first | refine krN ?_ | refine krS ?_ | refine krP ?_ | refine krG ?_); kernel_rfl | refine kr ?_; simp only [go_sem, reduceCtorEq, hc', hc, hL, indexAddr_arr, Nat.mul_one, hn]; done | fail) only [go_sem, seval, -List.reduceReplicate, hc', hc, hL, indexAddr_arr, Nat.mul_one, hn]
      refine ⟨_, fun x h1 => ?_, rfl⟩
      by_cases e : x = a
      · subst e; omega
      · exact hx x (by omega)
  · have hc' : ¬ (a : Int) < 10 := by omega
    have e : a = 10 := by omega
    subst e
    have hn : negD U = false := negD_false.2 fun x h1 => hx x h1
    have hB' := hB hn
    have hpl := (passL_facts hL (psL_eq _)).1
    have heq := fun (z : Vl) (k : TK) => eq_T (U := psL U) (T := U) hpl hL (z := z) (k := k)
    by_cases e2 : psL U = U
    · have hcl := hpos hn e2
      rw [e2] at heq
      simp +contextual (maxSteps := 1000000) (disch := first | omega | (with_reducible first | refine krN ?_ | refine krS ?_ | refine krP ?_ | refine krG ?_); kernel_rfl | refine kr ?_; simp only [go_sem, reduceCtorEq, hc', hL, hZ1, wc67, hB', e2, heq, hcl]; done | fail) only [go_sem, seval, -List.reduceReplicate, hc', hL, hZ1, wc67, hB', e2, heq, hcl]
    · have hi0 : i = 0 := by
        rcases hU with ⟨h1, _⟩ | ⟨_, h1, rfl, h3⟩
        · exact h1
        · exact absurd (by rw [← psL_eq, ← psL_eq]; exact pass_twice h (by rw [psL_eq]; exact hn)) e2
      subst hi0
      have hUT : U = T := by
        rcases hU with ⟨_, h1⟩ | ⟨h1, _⟩
        · exact h1
        · omega
      subst hUT
      simp +contextual (maxSteps := 1000000) (disch := first | omega | (with_reducible first | refine krN ?_ | refine krS ?_ | refine krP ?_ | refine krG ?_); kernel_rfl | refine kr ?_; simp only [go_sem, reduceCtorEq, hc', hL, wc67, hB', heq, e2, hpl]; done | fail) only [go_sem, seval, -List.reduceReplicate, hc', hL, wc67, hB', heq, e2, hpl]
      refine ⟨psL U, _, .inr ⟨hn, rfl, e2⟩, hpl, fun e3 => ?_, rfl⟩
      obtain ⟨f1, f2, f3, f4⟩ := passL_facts hL (psL_eq _)
      exact good_low ⟨f1, f3 (negD_false.1 e3), negD_false.1 e3⟩ fun x y hx hy => Int.le_trans (f4 x y hx hy) (hB' x y hx hy).2
section
variable {m : Mem} {K : Vl → Mem → Prop}
theorem wc51 {T : List Int} (h : T.length = 100) (hb : Bnd 1073741824 T) : WC Tryd.prog (AA b) (.fn (.func 51) [] []) [.v (.agg (T.map I))] m K = K (.tup [tV (clsL T).1, .bool (clsL T).2]) m :=
  WC_flat (by simp only [mkAnn, K51]) (rfAs (xs := [tV T]) (by simp only [closedL, Vl.closed, closedL_T, Bool.and_self])) (closed_to h hb) (flat_T2 _ _)
end
theorem within_to {T : List Int} (h : T.length = 100) {id nx : Nat} {hp : Nat → Ob} {a c : Nat} (ha : a < 10) (hc : c < 10) {lo hi : Int} (hlo : -100000 ≤ lo ∧ lo ≤ 100000) (hb : hp id = .box (tV T)) :
    HAns Tryd.prog (AA b) 47 [.bp id 0, I a, I c, Sp lo hi] hp nx (fun v hp' nx' => v = .tup [] ∧ hp' = upd hp id (.box (tV (withinL T a c lo hi))) ∧ nx' = nx) := by
  refine HAns_of Tryd.func47 rfl ?_
  have hac : (a : Int) < 10 := by omega
  have hcc : (c : Int) < 10 := by omega
  simp +contextual (maxSteps := 1000000) (disch := first | omega | (with_reducible first | refine krN ?_ | refine krS ?_ | refine krP ?_ | refine krG ?_); kernel_rfl | refine kr ?_; simp only [go_sem, reduceCtorEq, h, hb, indexAddr_arr, Nat.mul_one, hac, hcc, ha, hc, List.length_set, Int.zero_sub]; done | fail) only [go_sem, seval, -List.reduceReplicate, h, hb, indexAddr_arr, Nat.mul_one, hac, hcc, ha, hc, List.length_set, Int.zero_sub]
  rfl
section
variable {m : Mem} {K : Vl → Mem → Prop}
theorem wc47 {T : List Int} (h : T.length = 100) {id : Nat} {a c : Nat} (ha : a < 10) (hc : c < 10) {lo hi : Int} (hlo : -100000 ≤ lo ∧ lo ≤ 100000) (hb : m.hp id = .box (.agg (T.map I))) :
    WC Tryd.prog (AA b) (.fn (.func 47) [] []) [.v (.bp id 0), .v (.int .i64 (a : Int)), .v (.int .i64 (c : Int)), .v (.agg [.int .i64 lo, .int .i64 hi])] m K = K (.tup []) { m with hp := upd m.hp id (.box (tV (withinL T a c lo hi))) } :=
  WC_heap (by simp only [mkAnn, K47]) rfl (within_to h ha hc hlo hb)
end
theorem of_to {T : List Int} (h : T.length = 100) {a c : Nat} (ha : a < 10) (hc : c < 10) (hB : Bnd 1073741824 T) : Ans Tryd.prog (AA b) 23 [tV T, I a, I c] (fun v => v = Sp (-tb T c a) (tb T a c)) := by
  refine Ans_of Tryd.func23 rfl rfl ?_
  have hac : (a : Int) < 10 := by omega
  have hcc : (c : Int) < 10 := by omega
  have b1 := hB c a hc ha
  simp +contextual (maxSteps := 1000000) (disch := first | omega | (with_reducible first | refine krN ?_ | refine krS ?_ | refine krP ?_ | refine krG ?_); kernel_rfl | refine kr ?_; simp only [go_sem, reduceCtorEq, h, indexAddr_arr, Nat.mul_one, hac, hcc, ha, hc, Int.zero_sub]; done | fail) only [go_sem, seval, -List.reduceReplicate, h, indexAddr_arr, Nat.mul_one, hac, hcc, ha, hc, Int.zero_sub]
section
variable {m : Mem} {K : Vl → Mem → Prop}
theorem wc23 {T : List Int} (h : T.length = 100) {a c : Nat} (ha : a < 10) (hc : c < 10) (hB : Bnd 1073741824 T) : WC Tryd.prog (AA b) (.fn (.func 23) [] []) [.v (.agg (T.map I)), .v (.int .i64 (a : Int)), .v (.int .i64 (c : Int))] m K = K (Sp (-tb T c a) (tb T a c)) m :=
  WC_flat (by simp only [mkAnn, K23]) (rfAs (xs := [tV T, I a, I c]) (by simp only [closedL, Vl.closed, closedL_T, Bool.and_self])) (of_to h ha hc hB) rfl
end
def blTo : Nat → List Int
  | 0 => List.replicate 100 0
  | n + 1 => (blTo n).set n (blankF n)
theorem blTo_len : ∀ n, (blTo n).length = 100
  | 0 => List.length_replicate
  | n + 1 => by rw [blTo, List.length_set]; exact blTo_len n
theorem blTo_get : ∀ (n i : Nat), i < 100 → (blTo n)[i]? = some (if i < n then blankF i else 0)
  | 0, i, h => by
    show (List.replicate 100 (0 : Int))[i]? = _
    rw [List.getElem?_replicate, if_pos h, if_neg (by omega)]
  | n + 1, i, h => by
    rw [blTo, List.getElem?_set, blTo_get n i h, blTo_len]
    by_cases e : n = i
    · subst e; rw [if_pos rfl, if_pos h, if_pos (by omega)]
    · rw [if_neg e]
      congr 1
      by_cases e2 : i < n
      · rw [if_pos e2, if_pos (by omega)]
      · rw [if_neg e2, if_neg (by omega)]
theorem blTo_all : blTo 100 = blankL := by
  apply List.ext_getElem?
  intro i
  by_cases h : i < 100
  · rw [blTo_get 100 i h, if_pos h]
    unfold blankL
    rw [List.getElem?_map, List.getElem?_range h]; rfl
  · rw [List.getElem?_eq_none (by rw [blTo_len]; omega), List.getElem?_eq_none (by rw [blank_len]; omega)]
theorem blTo_set {a c : Nat} (hc : c < 10) : (blTo (10 * a + c)).set (10 * a + c) (if a = c then 0 else if a = 0 ∨ c = 0 then 3000 else 1073741824) = blTo (10 * a + (c + 1)) := by
  rw [show 10 * a + (c + 1) = 10 * a + c + 1 by omega, blTo]
  congr 1
  unfold blankF
  rw [show (10 * a + c) / 10 = a by omega, show (10 * a + c) % 10 = c by omega]
set_option maxRecDepth 10000 in
set_option maxHeartbeats 4000000 in
theorem blank_to : Ans Tryd.prog (AA b) 46 [] (fun v => v = tV blankL) := by
  refine Ans_of Tryd.func46 rfl rfl ?_
  simp +contextual (maxSteps := 1000000) (disch := first | omega | (with_reducible first | refine krN ?_ | refine krS ?_ | refine krP ?_ | refine krG ?_); kernel_rfl | refine kr ?_; simp only [go_sem, reduceCtorEq]; done | fail) only [go_sem, seval, -List.reduceReplicate]
  obtain ⟨Z, hZ⟩ : ∃ Z : List Int, Z = List.replicate 100 0 := ⟨_, rfl⟩
  have hZ1 : Z.length = 100 := by rw [hZ, len_zT]
  have hZ2 : blTo 0 = Z := by rw [hZ]; rfl
  rw [← hZ]
  clear hZ
  refine wp_loop_to 10 (fun a st => ∃ ex, st = ({ sl := (0, .loc (tV Z)) :: (1, .loc (tV (blTo (10 * a)))) :: (4, I a) :: ex, hp := noHeap, nx := 0 } : FS)) ?_ 0 (Nat.zero_le _) ⟨_, by rw [Nat.mul_zero, hZ2]; rfl⟩
  rintro a st ha ⟨ex, rfl⟩
  by_cases hc : a < 10
  · have hc' : (a : Int) < 10 := by omega
    simp +contextual (maxSteps := 1000000) (disch := first | omega | (with_reducible first | refine krN ?_ | refine krS ?_ | refine krP ?_ | refine krG ?_); kernel_rfl | refine kr ?_; simp only [go_sem, reduceCtorEq, hc']; done | fail) only [go_sem, seval, -List.reduceReplicate, hc']
    refine wp_loop_to 10 (fun c st => ∃ ex, st = ({ sl := (0, .loc (tV Z)) :: (1, .loc (tV (blTo (10 * a + c)))) :: (2, I a) :: (4, I a) :: (7, I c) :: ex, hp := noHeap, nx := 0 } : FS)) ?_ 0 (Nat.zero_le _) ⟨_, rfl⟩
    rintro c st hc2 ⟨ex, rfl⟩
    have hL := blTo_len (10 * a + c)
    have hsucc : ∀ x, c < 10 → x = (if a = c then 0 else if a = 0 ∨ c = 0 then 3000 else 1073741824) → (blTo (10 * a + c)).set (10 * a + c) x = blTo (10 * a + (c + 1)) := fun x h1 h2 => by rw [h2]; exact blTo_set h1
    have hlast : c = 10 → blTo (10 * a + c) = blTo (10 * (a + 1)) := fun e => by subst e; rfl
    generalize blTo (10 * a + c) = R at hL hsucc hlast
    by_cases hcc : c < 10
    · have hcc' : (c : Int) < 10 := by omega
      by_cases e1 : a = c
      · have e1' : (a : Int) = c := by omega
        have hs := hsucc 0 hcc (by rw [if_pos e1])
        simp +contextual (maxSteps := 1000000) (disch := first | omega | (with_reducible first | refine krN ?_ | refine krS ?_ | refine krP ?_ | refine krG ?_); kernel_rfl | refine kr ?_; simp only [go_sem, reduceCtorEq, hcc', hcc, hc', hc, hL, indexAddr_arr, Nat.mul_one, e1', hs]; done | fail) only [go_sem, seval, -List.reduceReplicate, hcc', hcc, hc', hc, hL, indexAddr_arr, Nat.mul_one, e1', hs]
        subst e1
        exact ⟨_, by rw [hs]⟩
      · have e1' : ¬ (a : Int) = c := by omega
        by_cases e2 : a = 0 ∨ c = 0
        · have hs := hsucc 3000 hcc (by rw [if_neg e1, if_pos e2])
          have e1'' : ¬ (c : Int) = a := by omega
          rcases e2 with e2 | e2
          · subst e2
            have e5 : ¬ (0 : Int) = c := by omega
            have p0 := put_T hL (a := 0) (b := c) (by omega) hcc (x := 3000)
            rw [hs, Nat.zero_mul, Nat.zero_add] at p0
            simp +contextual (maxSteps := 1000000) (disch := first | omega | (with_reducible first | refine krN ?_ | refine krS ?_ | refine krP ?_ | refine krG ?_); kernel_rfl | refine kr ?_; simp only [go_sem, reduceCtorEq, hcc', hcc, hL, indexAddr_arr, Nat.mul_one, e5, e1'', Nat.zero_mul, p0]; done | fail) only [go_sem, seval, -List.reduceReplicate, hcc', hcc, hL, indexAddr_arr, Nat.mul_one, e5, e1'', Nat.zero_mul, p0]
            exact ⟨_, rfl⟩
          · have e3 : ¬ (a : Int) = 0 := by omega
            subst e2
            have p0 := put_T hL (a := a) (b := 0) hc hcc (x := 3000)
            rw [hs, Nat.add_zero] at p0
            simp +contextual (maxSteps := 1000000) (disch := first | omega | (with_reducible first | refine krN ?_ | refine krS ?_ | refine krP ?_ | refine krG ?_); kernel_rfl | refine kr ?_; simp only [go_sem, reduceCtorEq, hc', hc, hL, indexAddr_arr, Nat.mul_one, e1', e1'', e3, p0]; done | fail) only [go_sem, seval, -List.reduceReplicate, hc', hc, hL, indexAddr_arr, Nat.mul_one, e1', e1'', e3, p0]
            exact ⟨_, rfl⟩
        · have hs := hsucc 1073741824 hcc (by rw [if_neg e1, if_neg e2])
          have e3 : ¬ (a : Int) = 0 := by omega
          have e4 : ¬ (c : Int) = 0 := by omega
          simp +contextual (maxSteps := 1000000) (disch := first | omega | (with_reducible first | refine krN ?_ | refine krS ?_ | refine krP ?_ | refine krG ?_); kernel_rfl | refine kr ?_; simp only [go_sem, reduceCtorEq, hcc', hcc, hc', hc, hL, indexAddr_arr, Nat.mul_one, e1', e3, e4]; done | fail) only [go_sem, seval, -List.reduceReplicate, hcc', hcc, hc', hc, hL, indexAddr_arr, Nat.mul_one, e1', e3, e4]
          rw [hs]
          exact ⟨_, rfl⟩
    · have hcc' : ¬ (c : Int) < 10 := by omega
      simp +contextual (maxSteps := 1000000) (disch := first | omega | (with_reducible first | refine krN ?_ | refine krS ?_ | refine krP ?_ | refine krG ?_); kernel_rfl | refine kr ?_; simp only [go_sem, reduceCtorEq, hcc']; done | fail) only [go_sem, seval, -List.reduceReplicate, hcc']
      rw [hlast (by omega)]
      exact ⟨hc, _, rfl⟩
  · have hc' : ¬ (a : Int) < 10 := by omega
    have e : a = 10 := by omega
    subst e
    have hL := blTo_len (10 * 10)
    have he : blTo (10 * 10) = blankL := blTo_all
    generalize blTo (10 * 10) = R at hL he
    simp +contextual (maxSteps := 1000000) (disch := first | omega | (with_reducible first | refine krN ?_ | refine krS ?_ | refine krP ?_ | refine krG ?_); kernel_rfl | refine kr ?_; simp only [go_sem, reduceCtorEq, hc', hL, hZ1]; done | fail) only [go_sem, seval, -List.reduceReplicate, hc', hL, hZ1]
    rw [he]
section
variable {m : Mem} {K : Vl → Mem → Prop}
theorem wc46 : WC Tryd.prog (AA b) (.fn (.func 46) [] []) [] m K = K (tV blankL) m :=
  WC_flat (by simp only [mkAnn, K46]) rfl blank_to (flat_T _)
end
end Go.Proofs
