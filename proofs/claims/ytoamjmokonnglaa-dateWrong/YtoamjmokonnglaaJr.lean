/- What functions of the given program do in the ideal machine (J41, J42), and the plain laws of what they answer; the conditions stand in each theorem. -/
import Derived.Test.YtoamjmokonnglaaJq
set_option linter.all false
set_option linter.unusedSectionVars false
set_option linter.unusedSimpArgs false
set_option linter.unusedVariables false
namespace Go.Proofs
open Go Go.Idl Go.Dt
set_option linter.unusedSimpArgs false
variable {b : Nat}
@[reducible] def rowK (K : Tb) (n a : Nat) : Vl := .lst 1 ((List.range n).map fun b => I (K a b)) false
@[reducible] def kV (n : Nat) (K : Tb) : Vl := .agg [.lst 1 ((List.range n).map (rowK K n)) false]
theorem rowK_cl {K : Tb} {n a : Nat} : (rowK K n a).closed = true := closedL_map (fun _ => rfl) _
theorem kV_cl {n : Nat} {K : Tb} : (kV n K).closed = true := by
  show (closedL _ && true) = true
  rw [closedL_map (fun _ => rowK_cl)]; rfl
theorem sub_rowK {K : Tb} {n a : Nat} : sub false 1 0 (rowK K n a) = some (rowK K n a) := sub_1 rfl
theorem ix_rowK {K : Tb} {n a k eb : Nat} {ez : Vl} {kd : IntKind} {m : Mem} (h : k < n) : indexAddrV (.slice 1 eb ez) (.v (rowK K n a)) (.int kd (k : Int)) m = some (.v (.fp (I (K a k)) 0), m) := ix_rng h (by decide)
attribute [go_sem] sub_rowK
def mayB (n : Nat) (K : Tb) : Bool := (List.range n).all fun a => decide (0 ≤ K a a)
theorem mayB_iff {n : Nat} {K : Tb} : mayB n K = true ↔ Diag n K := by
  unfold mayB Diag
  rw [List.all_eq_true]
  constructor
  · intro h a ha; exact of_decide_eq_true (h a (List.mem_range.2 ha))
  · intro h a ha; exact decide_eq_true (h a (List.mem_range.1 ha))
def UB (n : Nat) (K : Tb) : Prop := ∀ a b, a < n → b < n → K a b ≤ 1073741824
theorem good_lb {n : Nat} {K : Tb} (g : GoodK n K) (u : UB n K) {a b : Nat} (ha : a < n) (hb : b < n) : -1073741824 ≤ K a b := by
  have := g.clos b a a hb ha ha
  have := g.zero a ha
  have := u b a hb ha
  omega
theorem more_ub {n a b : Nat} {K : Tb} {c : Int} (u : UB n K) : UB n (more K a b c) := fun x y hx hy => by
  have := u x y hx hy
  unfold more; omega
theorem may_to {n : Nat} {K : Tb} (hn : n ≤ 10) : Ans Try.prog (AA b) 84 [kV n K] (fun v => v = .bool (mayB n K)) := by
  refine Ans_of Try.func84 rfl rfl ?_
  simp +contextual (maxSteps := 1000000) (disch := first | omega | (with_reducible first | refine krN ?_ | refine krS ?_ | refine krP ?_ | refine krG ?_); kernel_rfl | refine kr ?_; simp only [go_sem, reduceCtorEq]; done | fail) only [go_sem, seval, -List.reduceReplicate]
  refine wp_loop_to n (fun i st => ∃ (ex : List (Nat × Vl)), (∀ j, j < i → 0 ≤ K j j) ∧ st = ({ sl := (1, .loc (kV n K)) :: (3, I i) :: ex, hp := noHeap, nx := 0 } : FS)) ?_ 0 (Nat.zero_le _) ⟨_, fun j h => absurd h (Nat.not_lt_zero _), rfl⟩
  rintro i st hi ⟨ex, hno, rfl⟩
  by_cases hc : i < n
  · by_cases he : K i i < 0
    · simp +contextual (maxSteps := 1000000) (disch := first | omega | (with_reducible first | refine krN ?_ | refine krS ?_ | refine krP ?_ | refine krG ?_); kernel_rfl | refine kr ?_; simp only [go_sem, reduceCtorEq, Int.ofNat_lt, hc, ix_rng, ix_rowK, List.length_map, List.length_range, he]; done | fail) only [go_sem, seval, -List.reduceReplicate, Int.ofNat_lt, hc, ix_rng, ix_rowK, List.length_map, List.length_range, he]
      cases h : mayB n K with
      | false => rfl
      | true => have := mayB_iff.1 h i hc; omega
    · simp +contextual (maxSteps := 1000000) (disch := first | omega | (with_reducible first | refine krN ?_ | refine krS ?_ | refine krP ?_ | refine krG ?_); kernel_rfl | refine kr ?_; simp only [go_sem, reduceCtorEq, Int.ofNat_lt, hc, ix_rng, ix_rowK, List.length_map, List.length_range, he]; done | fail) only [go_sem, seval, -List.reduceReplicate, Int.ofNat_lt, hc, ix_rng, ix_rowK, List.length_map, List.length_range, he]
      refine ⟨_, fun j hj => ?_, rfl⟩
      by_cases h : j < i
      · exact hno j h
      · obtain rfl : j = i := by omega
        omega
  · have hie : i = n := by omega
    subst hie
    simp +contextual (maxSteps := 1000000) (disch := first | omega | (with_reducible first | refine krN ?_ | refine krS ?_ | refine krP ?_ | refine krG ?_); kernel_rfl | refine kr ?_; simp only [go_sem, reduceCtorEq, Int.lt_irrefl, List.length_map, List.length_range]; done | fail) only [go_sem, seval, -List.reduceReplicate, Int.lt_irrefl, List.length_map, List.length_range]
    rw [mayB_iff.2 hno]
section
variable {m : Mem} {Q : Vl → Mem → Prop}
theorem wc84 {n : Nat} {K : Tb} (hn : n ≤ 10) : WC Try.prog (AA b) (.fn (.func 84) [] []) [.v (kV n K)] m Q = Q (.bool (mayB n K)) m :=
  WC_flat (by simp only [mkAnn, K84]) (rfAs (xs := [kV n K]) (by simp only [closedL, kV_cl]; rfl)) (may_to hn) rfl
end
theorem ap62w {m : Mem} {id n : Nat} {xs : List Vl} {x : Vl} {o : Bool} (ho : m.hp id = .arr 1 xs) (hn : xs.length = n) (hs : n < 100000) : isAppend Try.prog 62 62 (.own id n) (.lst 1 [x] o) m = some (.own id (n + 1), { m with hp := upd m.hp id (.arr 1 (xs ++ [x])) }) :=
  app1_own (by rw [td62]) ho hn (grow_ok rfl rfl (by decide) (by decide) (by omega))
set_option maxRecDepth 10000 in
set_option maxHeartbeats 4000000 in
theorem atMost_to {n a c : Nat} {K : Tb} {y : Int} (hn : n ≤ 10) (ha : a < n) (hcn : c < n) (hb : ∀ i j, i < n → j < n → -1073741824 ≤ K i j ∧ K i j ≤ 1073741824) (hy : -10000 ≤ y ∧ y ≤ 10000) : Ans Try.prog (AA b) 103 [kV n K, I a, I c, I y] (fun v => v = kV n (more K a c y)) := by
  refine Ans_of Try.func103 rfl rfl ?_
  simp +contextual (maxSteps := 1000000) (disch := first | omega | (with_reducible first | refine krN ?_ | refine krS ?_ | refine krP ?_ | refine krG ?_); kernel_rfl | refine kr ?_; simp only [go_sem, reduceCtorEq]; done | fail) only [go_sem, seval, -List.reduceReplicate]
  refine wp_loop_to n (fun i st => ∃ (h : Nat → Ob) (nq : Nat) (ex : List (Nat × Vl)), 0 < nq ∧ h 0 = .arr 1 ((List.range i).map (rowK (more K a c y) n)) ∧ st = ({ sl := (1, I a) :: (2, I c) :: (3, I y) :: (4, .loc (kV n K)) :: (8, .loc (.agg [.nils])) :: (9, .loc (.agg [.own 0 i])) :: (10, I i) :: ex, hp := h, nx := nq } : FS)) ?_ 0 (Nat.zero_le _) ⟨_, 1, _, by decide, upd_same _ _ _, rfl⟩
  rintro i st hi ⟨h, nq, ex, hq, p0, rfl⟩
  by_cases hc : i < n
  · simp +contextual (maxSteps := 1000000) (disch := first | omega | (with_reducible first | refine krN ?_ | refine krS ?_ | refine krP ?_ | refine krG ?_); kernel_rfl | refine kr ?_; simp only [go_sem, reduceCtorEq, Int.ofNat_lt, hc, List.length_map, List.length_range]; done | fail) only [go_sem, seval, -List.reduceReplicate, Int.ofNat_lt, hc, List.length_map, List.length_range]
    refine wp_loop_to n (fun j st => ∃ (h : Nat → Ob) (ex : List (Nat × Vl)), h 0 = .arr 1 ((List.range i).map (rowK (more K a c y) n)) ∧ h nq = .arr 1 ((List.range j).map fun j => I (more K a c y i j)) ∧ st = ({ sl := (1, I a) :: (2, I c) :: (3, I y) :: (4, .loc (kV n K)) :: (8, .loc (.agg [.nils])) :: (9, .loc (.agg [.own 0 i])) :: (10, I i) :: (11, .own nq j) :: (12, I j) :: ex, hp := h, nx := nq + 1 } : FS)) ?_ 0 (Nat.zero_le _) ⟨_, _, by rw [upd_ne _ _ (by omega)]; exact p0, upd_same _ _ _, rfl⟩
    clear p0 h
    rintro j st hj ⟨h, ex, p0, p1, rfl⟩
    by_cases hcj : j < n
    · have b1 := hb i j hc hcj
      have b2 := hb i a hc ha
      have b3 := hb c j hcn hcj
      have hw1 : IntKind.wrap .i64 (K i a + y) = K i a + y := wrap_i64 (by omega) (by omega)
      have hw2 : IntKind.wrap .i64 (K i a + y + K c j) = K i a + y + K c j := wrap_i64 (by omega) (by omega)
      have hap := fun (x : Vl) (t : Bool) (n' : Nat) => ap26b (m := ⟨[], h, n'⟩) (x := x) (o := t) p1 (by rw [List.length_map, List.length_range]) (by omega)
      simp +contextual (maxSteps := 1000000) (disch := first | omega | (with_reducible first | refine krN ?_ | refine krS ?_ | refine krP ?_ | refine krG ?_); kernel_rfl | refine kr ?_; simp only [go_sem, reduceCtorEq, Int.ofNat_lt, hc, hcj, ha, hcn, ix_rng, ix_rowK, List.length_map, List.length_range, hw1, hw2, hap]; done | fail) only [go_sem, seval, -List.reduceReplicate, Int.ofNat_lt, hc, hcj, ha, hcn, ix_rng, ix_rowK, List.length_map, List.length_range, hw1, hw2, hap]
      refine ⟨_, _, ?_, ?_, rfl⟩
      · rw [upd_ne _ _ (by omega)]; exact p0
      · rw [upd_same, List.map_append]; rfl
    · have hje : j = n := by omega
      subst hje
      have f1 : reify h (.own nq j) = some (rowK (more K a c y) j i, [nq]) := reify_flat (.inl p1) (by rw [List.length_range]) fun _ => rfl
      have p3 : killHp [nq] h 0 = .arr 1 ((List.range i).map (rowK (more K a c y) j)) := by rw [killHp_one, upd_ne _ _ (by omega)]; exact p0
      have e3 : ∃ h2, h2 = killHp [nq] h := ⟨_, rfl⟩
      obtain ⟨h2, e3⟩ := e3
      rw [← e3] at p3
      have hap := fun (x : Vl) (t : Bool) (n' : Nat) => ap62w (m := ⟨[], h2, n'⟩) (x := x) (o := t) p3 (by rw [List.length_map, List.length_range]) (by omega)
      simp +contextual (maxSteps := 1000000) (disch := first | omega | (with_reducible first | refine krN ?_ | refine krS ?_ | refine krP ?_ | refine krG ?_); kernel_rfl | refine kr ?_; simp only [go_sem, reduceCtorEq, hc, Int.lt_irrefl, f1, ← e3, hap, List.length_map, List.length_range]; done | fail) only [go_sem, seval, -List.reduceReplicate, hc, Int.lt_irrefl, f1, ← e3, hap, List.length_map, List.length_range]
      refine ⟨_, nq + 1, _, by omega, ?_, rfl⟩
      rw [upd_same, List.map_append]; rfl
  · have hie : i = n := by omega
    subst hie
    have f1 : reify h (.own 0 i) = some (.lst 1 ((List.range i).map (rowK (more K a c y) i)) false, [0]) := reify_flat (.inl p0) (by rw [List.length_range]) fun n => reify_closedV _ rowK_cl
    simp +contextual (maxSteps := 1000000) (disch := first | omega | (with_reducible first | refine krN ?_ | refine krS ?_ | refine krP ?_ | refine krG ?_); kernel_rfl | refine kr ?_; simp only [go_sem, reduceCtorEq, Int.lt_irrefl, f1, List.length_map, List.length_range]; done | fail) only [go_sem, seval, -List.reduceReplicate, Int.lt_irrefl, f1, List.length_map, List.length_range]
    exact OB_intro (reify_lst (closedL_map (fun _ => rowK_cl) _)) rfl
section
variable {m : Mem} {Q : Vl → Mem → Prop}
theorem wc103 {n a c : Nat} {K : Tb} {y : Int} (hn : n ≤ 10) (ha : a < n) (hcn : c < n) (hb : ∀ i j, i < n → j < n → -1073741824 ≤ K i j ∧ K i j ≤ 1073741824) (hy : -10000 ≤ y ∧ y ≤ 10000) : WC Try.prog (AA b) (.fn (.func 103) [] []) [.v (kV n K), .v (.int .i64 (a : Int)), .v (.int .i64 (c : Int)), .v (.int .i64 y)] m Q = Q (kV n (more K a c y)) m :=
  WC_closed (by simp only [mkAnn, K103]) (rfAs (xs := [kV n K, I a, I c, I y]) (by simp only [closedL, kV_cl]; rfl)) kV_cl (atMost_to hn ha hcn hb hy)
end
def withK (n : Nat) (K : Tb) (a c : Nat) (lo hi : Int) : Tb :=
  let K1 := if mayB n K then more K a c hi else K
  if mayB n K1 then more K1 c a (-lo) else K1
theorem withK_ref {n a c : Nat} {K : Tb} {lo hi : Int} : withK n K a c lo hi = refWith n K a c lo hi := by
  have hf : ∀ T : Tb, ¬ Diag n T → mayB n T = false := fun T h => by
    cases e : mayB n T with
    | false => rfl
    | true => exact absurd (mayB_iff.1 e) h
  unfold withK refWith
  dsimp only
  by_cases h1 : Diag n K
  · rw [if_pos (mayB_iff.2 h1), if_pos h1]
    by_cases h2 : Diag n (more K a c hi)
    · rw [if_pos (mayB_iff.2 h2), if_pos h2]
    · rw [hf _ h2, if_neg h2]; rfl
  · rw [hf _ h1, if_neg h1]
    show (if mayB n K = true then more K c a (-lo) else K) = _
    rw [hf _ h1, if_neg h1]; rfl
theorem withK_ub {n a c : Nat} {K : Tb} {lo hi : Int} (u : UB n K) : UB n (withK n K a c lo hi) := by
  unfold withK
  dsimp only
  repeat' split
  all_goals first | exact more_ub (more_ub u) | exact more_ub u | exact u
set_option maxRecDepth 10000 in
set_option maxHeartbeats 4000000 in
theorem with_to {n a c : Nat} {K : Tb} {lo hi : Int} (hn : n ≤ 10) (ha : a < n) (hcn : c < n) (g : GoodK n K) (u : UB n K) (hlo : -10000 ≤ lo ∧ lo ≤ 10000) (hhi : -10000 ≤ hi ∧ hi ≤ 10000) : Ans Try.prog (AA b) 83 [kV n K, I a, I c, Sp lo hi] (fun v => v = kV n (withK n K a c lo hi)) := by
  refine Ans_of Try.func83 rfl rfl ?_
  have h1 : mayB n K = true := mayB_iff.2 g.diag
  have w1 := fun (m : Mem) (Q : Vl → Mem → Prop) => wc103 (b := b) (n := n) (a := a) (c := c) (K := K) (y := hi) hn ha hcn (fun i j hi hj => ⟨good_lb g u hi hj, u i j hi hj⟩) hhi (m := m) (Q := Q)
  have hw : (0 : Int) - lo = -lo := by omega
  unfold withK
  simp only [h1, if_true]
  cases h2 : mayB n (more K a c hi) with
  | true =>
    have g1 := more_good g ha hcn (mayB_iff.1 h2)
    have u1 := more_ub (a := a) (b := c) (c := hi) u
    have w2 := fun (m : Mem) (Q : Vl → Mem → Prop) => wc103 (b := b) (n := n) (a := c) (c := a) (K := more K a c hi) (y := -lo) hn hcn ha (fun i j hi hj => ⟨good_lb g1 u1 hi hj, u1 i j hi hj⟩) (by omega) (m := m) (Q := Q)
    simp +contextual (maxSteps := 1000000) (disch := first | omega | (with_reducible first | refine krN ?_ | refine krS ?_ | refine krP ?_ | refine krG ?_); kernel_rfl | refine kr ?_; simp only [go_sem, reduceCtorEq, wc84, hn, h1, w1, h2, w2, hw]; done | fail) only [go_sem, seval, -List.reduceReplicate, wc84, hn, h1, w1, h2, w2, hw]
    exact OB_intro (reify_lst (closedL_map (fun _ => rowK_cl) _)) rfl
  | false =>
    simp +contextual (maxSteps := 1000000) (disch := first | omega | (with_reducible first | refine krN ?_ | refine krS ?_ | refine krP ?_ | refine krG ?_); kernel_rfl | refine kr ?_; simp only [go_sem, reduceCtorEq, wc84, hn, h1, w1, h2]; done | fail) only [go_sem, seval, -List.reduceReplicate, wc84, hn, h1, w1, h2]
    exact OB_intro (reify_lst (closedL_map (fun _ => rowK_cl) _)) rfl
section
variable {m : Mem} {Q : Vl → Mem → Prop}
theorem wc83 {n a c : Nat} {K : Tb} {lo hi : Int} (hn : n ≤ 10) (ha : a < n) (hcn : c < n) (g : GoodK n K) (u : UB n K) (hlo : -10000 ≤ lo ∧ lo ≤ 10000) (hhi : -10000 ≤ hi ∧ hi ≤ 10000) : WC Try.prog (AA b) (.fn (.func 83) [] []) [.v (kV n K), .v (.int .i64 (a : Int)), .v (.int .i64 (c : Int)), .v (.agg [.int .i64 lo, .int .i64 hi])] m Q = Q (kV n (withK n K a c lo hi)) m :=
  WC_closed (by simp only [mkAnn, K83]) (rfAs (xs := [kV n K, I a, I c, Sp lo hi]) (by simp only [closedL, kV_cl]; rfl)) kV_cl (with_to hn ha hcn g u hlo hhi)
theorem wc83z {n c : Nat} {K : Tb} {lo hi : Int} (hn : n ≤ 10) (hcn : c < n) (g : GoodK n K) (u : UB n K) (hlo : -10000 ≤ lo ∧ lo ≤ 10000) (hhi : -10000 ≤ hi ∧ hi ≤ 10000) : WC Try.prog (AA b) (.fn (.func 83) [] []) [.v (kV n K), .v (.int .i64 0), .v (.int .i64 (c : Int)), .v (.agg [.int .i64 lo, .int .i64 hi])] m Q = Q (kV n (withK n K 0 c lo hi)) m := wc83 (a := 0) hn (Nat.lt_of_le_of_lt (Nat.zero_le _) hcn) hcn g u hlo hhi
theorem st76_to {x : Int} : Ans Try.prog (AA b) 76 [I x] (fun v => v = I (IntKind.wrap .i64 (1 + x))) := by
  refine Ans_of Try.func76 rfl rfl ?_
  simp +contextual (maxSteps := 1000000) (disch := first | omega | (with_reducible first | refine krN ?_ | refine krS ?_ | refine krP ?_ | refine krG ?_); kernel_rfl | refine kr ?_; simp only [go_sem, reduceCtorEq]; done | fail) only [go_sem, seval, -List.reduceReplicate]
theorem wc76 {x : Int} : WC Try.prog (AA b) (.fn (.func 76) [] []) [.v (.int .i64 x)] m Q = Q (I (IntKind.wrap .i64 (1 + x))) m := WC_flat (by simp only [mkAnn, K76]) rfl st76_to rfl
theorem er79_to {d : Dt} {x : Int} {o1 o2 : Option Bool} : Ans Try.prog (AA b) 79 [encD o1 o2 d, I x] (fun v => v = I (IntKind.wrap .i64 (IntKind.wrap .i64 (1 + d.stones) + x))) := by
  refine Ans_of Try.func79 rfl rfl ?_
  simp +contextual (maxSteps := 1000000) (disch := first | omega | (with_reducible first | refine krN ?_ | refine krS ?_ | refine krP ?_ | refine krG ?_); kernel_rfl | refine kr ?_; simp only [go_sem, reduceCtorEq]; done | fail) only [go_sem, seval, -List.reduceReplicate]
theorem wc79 {d : Dt} {x : Int} {o1 o2 : Option Bool} : WC Try.prog (AA b) (.fn (.func 79) [] []) [.v (encD o1 o2 d), .v (.int .i64 x)] m Q = Q (I (IntKind.wrap .i64 (IntKind.wrap .i64 (1 + d.stones) + x))) m := WC_closed (by simp only [mkAnn, K79]) (rfAs (xs := [encD o1 o2 d, I x]) (by simp only [closedL, clD]; rfl)) rfl er79_to
end
end Go.Proofs
namespace Go.Proofs
open Go Go.Idl Go.Dt
set_option linter.unusedSimpArgs false
variable {b : Nat}
def M0 : Tb := fun a c => if a = c then 0 else 1073741824
theorem M0_good {n : Nat} : GoodK n M0 := ⟨fun k a c _ _ _ => by unfold M0; split <;> split <;> split <;> omega, fun a _ => if_pos rfl⟩
theorem M0_ub {n : Nat} : UB n M0 := fun a c _ _ => by unfold M0; split <;> omega
def ptsR (d : Dt) : Nat := 1 + d.stones.toNat + d.eras.length
structure Base (d : Dt) (u : Nat → Int) : Prop where
  stones : ∀ j : Nat, (j : Int) < d.stones → -3000 ≤ u (1 + j) ∧ u (1 + j) ≤ 3000
  eras : ∀ j, j < d.eras.length → (d.eras[j]!).1 ≤ u (1 + d.stones.toNat + j) ∧ u (1 + d.stones.toNat + j) ≤ (d.eras[j]!).2
def wit (d : Dt) (x : Nat) : Int := if 1 + d.stones.toNat ≤ x then (d.eras[x - (1 + d.stones.toNat)]!).1 else 0
theorem base_bnd {d : Dt} (h : DtOk d) {u : Nat → Int} (u0 : u 0 = 0) (hb : Base d u) {x : Nat} (hx : x < ptsR d) : -3000 ≤ u x ∧ u x ≤ 3000 := by
  unfold ptsR at hx
  have h6 := h.stones
  by_cases h0 : x = 0
  · subst h0; omega
  · by_cases h1 : x < 1 + d.stones.toNat
    · obtain ⟨j, rfl⟩ : ∃ j, x = 1 + j := ⟨x - 1, by omega⟩
      exact hb.stones j (by omega)
    · obtain ⟨j, rfl⟩ : ∃ j, x = 1 + d.stones.toNat + j := ⟨x - (1 + d.stones.toNat), by omega⟩
      have := hb.eras j (by omega)
      have := h.eras _ (get!_mem (i := j) (by omega))
      unfold SpanOk at this; omega
theorem base_M0 {d : Dt} (h : DtOk d) {u : Nat → Int} (u0 : u 0 = 0) (hb : Base d u) : Sat (ptsR d) M0 u := fun a c ha hc => by
  have := base_bnd h u0 hb ha
  have := base_bnd h u0 hb hc
  unfold M0
  split
  · rename_i e; subst e; omega
  · omega
theorem wit0 {d : Dt} : wit d 0 = 0 := if_neg (by omega)
theorem wit_base {d : Dt} (h : DtOk d) : Base d (wit d) where
  stones j hj := by
    have h6 := h.stones
    unfold wit
    rw [if_neg (by omega)]; omega
  eras j hj := by
    have := h.eras _ (get!_mem hj)
    unfold SpanOk at this
    unfold wit
    rw [if_pos (by omega), show 1 + d.stones.toNat + j - (1 + d.stones.toNat) = j by omega]; omega
theorem withK_sat {n a c : Nat} {K : Tb} {lo hi : Int} (g : GoodK n K) (ha : a < n) (hc : c < n) {w : Nat → Int} (h1 : Sat n K w) (h2 : lo ≤ w c - w a ∧ w c - w a ≤ hi) : GoodK n (withK n K a c lo hi) ∧ ∀ v, Sat n (withK n K a c lo hi) v ↔ Sat n K v ∧ lo ≤ v c - v a ∧ v c - v a ≤ hi := by
  rw [withK_ref]
  refine refWith_may g ha hc (Classical.byContradiction fun hd => refWith_not g ha hc hd w ⟨h1, h2⟩)
structure BG (d : Dt) (K : Tb) : Prop where
  good : GoodK (ptsR d) K
  ub : UB (ptsR d) K
  sat : ∀ u, u 0 = 0 → (Sat (ptsR d) K u ↔ Base d u)
set_option maxRecDepth 10000 in
set_option maxHeartbeats 4000000 in
theorem begin_to {d : Dt} (hd : DtOk d) {o1 o2 : Option Bool} : Ans Try.prog (AA b) 66 [encD o1 o2 d] (fun v => ∃ K, v = kV (ptsR d) K ∧ BG d K) := by
  have hst := hd.stones
  have hel := hd.eras_l
  have hw1 : IntKind.wrap .i64 (1 + d.stones) = 1 + d.stones := wrap_i64 (by omega) (by omega)
  have hw2 : IntKind.wrap .i64 (1 + d.stones + d.eras.length) = (ptsR d : Int) := by unfold ptsR; rw [wrap_i64 (by omega) (by omega)]; omega
  have hn : ptsR d ≤ 10 := by unfold ptsR; omega
  have hnd : ptsR d = 1 + d.stones.toNat + d.eras.length := rfl
  generalize hN : ptsR d = n at hw2 hn hnd ⊢
  refine Ans_of Try.func66 rfl rfl ?_
  simp +contextual (maxSteps := 1000000) (disch := first | omega | (with_reducible first | refine krN ?_ | refine krS ?_ | refine krP ?_ | refine krG ?_); kernel_rfl | refine kr ?_; simp only [go_sem, reduceCtorEq, wc79, hw1, hw2]; done | fail) only [go_sem, seval, -List.reduceReplicate, wc79, hw1, hw2]
  refine wp_loop_to n (fun a st => ∃ (h : Nat → Ob) (nq : Nat) (ex : List (Nat × Vl)), 0 < nq ∧ h 0 = .arr 1 ((List.range a).map (rowK M0 n)) ∧ st = ({ sl := (1, .loc (encD o1 o2 d)) :: (2, .loc (.agg [.nils])) :: (3, .loc (.agg [.own 0 a])) :: (4, I n) :: (5, I a) :: ex, hp := h, nx := nq } : FS)) ?_ 0 (Nat.zero_le _) ⟨_, 1, _, by decide, upd_same _ _ _, rfl⟩
  rintro a st ha ⟨h, nq, ex, hq, p0, rfl⟩
  by_cases hc : a < n
  · have hms := makeSlice_nat (n := n) (esz := 1) (eb := 8) (z := .int .i64 0) (m := ⟨[], h, nq⟩) (by omega) (by omega) rfl rfl (by decide)
    simp +contextual (maxSteps := 1000000) (disch := first | omega | (with_reducible first | refine krN ?_ | refine krS ?_ | refine krP ?_ | refine krG ?_); kernel_rfl | refine kr ?_; simp only [go_sem, reduceCtorEq, Int.ofNat_lt, hc, hms]; done | fail) only [go_sem, seval, -List.reduceReplicate, Int.ofNat_lt, hc, hms]
    refine wp_loop_to n (fun c st => ∃ (h : Nat → Ob) (R : List Int) (ex : List (Nat × Vl)), R.length = n ∧ (∀ j, j < n → R[j]! = if j < c ∧ a ≠ j then 1073741824 else 0) ∧ h 0 = .arr 1 ((List.range a).map (rowK M0 n)) ∧ h nq = .arr 1 (R.map I) ∧
      st = ({ sl := (1, .loc (encD o1 o2 d)) :: (2, .loc (.agg [.nils])) :: (3, .loc (.agg [.own 0 a])) :: (4, I n) :: (5, I a) :: (6, .own nq n) :: (7, I c) :: ex, hp := h, nx := nq + 1 } : FS)) ?_ 0 (Nat.zero_le _) ⟨_, List.replicate n 0, _, List.length_replicate .., fun j hj => by rw [if_neg (by omega), get!_eq (by rw [List.length_replicate]; exact hj), List.getElem_replicate], by rw [upd_ne _ _ (by omega)]; exact p0, by rw [upd_same, List.map_replicate], rfl⟩
    clear p0 hms h
    rintro c st hcn ⟨h, R, ex, R1, R2, p0, p1, rfl⟩
    by_cases hcc : c < n
    · by_cases hac : (a : Int) = c
      · simp +contextual (maxSteps := 1000000) (disch := first | omega | (with_reducible first | refine krN ?_ | refine krS ?_ | refine krP ?_ | refine krG ?_); kernel_rfl | refine kr ?_; simp only [go_sem, reduceCtorEq, Int.ofNat_lt, hcc, hac]; done | fail) only [go_sem, seval, -List.reduceReplicate, Int.ofNat_lt, hcc, hac]
        refine ⟨_, R, _, R1, fun j hj => ?_, p0, p1, rfl⟩
        rw [R2 j hj]
        by_cases h : j < c
        · by_cases h2 : a ≠ j
          · rw [if_pos ⟨h, h2⟩, if_pos ⟨by omega, h2⟩]
          · rw [if_neg (fun k => h2 k.2), if_neg (fun k => h2 k.2)]
        · rw [if_neg (by omega), if_neg (by omega)]
      · have x1 := fun (n' : Nat) (lc : List (Nat × Vl)) (eb : Nat) (ez : Vl) => ixM (lc := lc) (n' := n') (eb := eb) (ez := ez) (kd := .i64) (i := (c : Int)) p1 R1 (by omega) (by omega) (by decide)
        have x3 := fun (n' : Nat) (lc : List (Nat × Vl)) => wrM (lc := lc) (n' := n') (off := 0) (v := I 1073741824) (y := 1073741824) p1 R1 hcc rfl
        simp +contextual (maxSteps := 1000000) (disch := first | omega | (with_reducible first | refine krN ?_ | refine krS ?_ | refine krP ?_ | refine krG ?_); kernel_rfl | refine kr ?_; simp only [go_sem, reduceCtorEq, Int.ofNat_lt, hcc, hac, x1, x3]; done | fail) only [go_sem, seval, -List.reduceReplicate, Int.ofNat_lt, hcc, hac, x1, x3]
        refine ⟨_, R.set c 1073741824, _, by rw [List.length_set]; exact R1, fun j hj => ?_, by rw [upd_ne _ _ (by omega)]; exact p0, upd_same _ _ _, rfl⟩
        rw [get!_set (by omega)]
        by_cases h : c = j
        · subst h
          rw [if_pos rfl, if_pos ⟨by omega, by omega⟩]
        · rw [if_neg h, R2 j hj]
          by_cases h3 : j < c ∧ a ≠ j
          · rw [if_pos h3, if_pos ⟨by omega, h3.2⟩]
          · rw [if_neg h3, if_neg (fun k => h3 ⟨by omega, k.2⟩)]
    · have hce : c = n := by omega
      subst hce
      have hR : R = (List.range c).map (M0 a) := by
        apply List.ext_getElem (by rw [List.length_map, List.length_range]; exact R1)
        intro j h1 h2
        rw [List.getElem_map, List.getElem_range, ← get!_eq h1, R2 j (by omega)]
        unfold M0
        by_cases e : a = j
        · rw [if_pos e, if_neg (fun k => k.2 e)]
        · rw [if_neg e, if_pos ⟨by omega, e⟩]
      rw [hR, List.map_map] at p1
      have f1 : reify h (.own nq c) = some (rowK M0 c a, [nq]) := reify_flat (f := fun b => I (M0 a b)) (.inl p1) (by rw [List.length_range]) fun _ => rfl
      have p3 : killHp [nq] h 0 = .arr 1 ((List.range a).map (rowK M0 c)) := by rw [killHp_one, upd_ne _ _ (by omega)]; exact p0
      have e3 : ∃ h2, h2 = killHp [nq] h := ⟨_, rfl⟩
      obtain ⟨h2, e3⟩ := e3
      rw [← e3] at p3
      have hap := fun (x : Vl) (t : Bool) (n' : Nat) => ap62w (m := ⟨[], h2, n'⟩) (x := x) (o := t) p3 (by rw [List.length_map, List.length_range]) (by omega)
      simp +contextual (maxSteps := 1000000) (disch := first | omega | (with_reducible first | refine krN ?_ | refine krS ?_ | refine krP ?_ | refine krG ?_); kernel_rfl | refine kr ?_; simp only [go_sem, reduceCtorEq, hc, Int.lt_irrefl, f1, ← e3, hap]; done | fail) only [go_sem, seval, -List.reduceReplicate, hc, Int.lt_irrefl, f1, ← e3, hap]
      refine ⟨_, nq + 1, _, by omega, ?_, rfl⟩
      rw [upd_same, List.map_append]; rfl
  have hie : a = n := by omega
  subst hie
  have f1 : reify h (.own 0 a) = some (.lst 1 ((List.range a).map (rowK M0 a)) false, [0]) := reify_flat (.inl p0) (by rw [List.length_range]) fun n => reify_closedV _ rowK_cl
  simp +contextual (maxSteps := 1000000) (disch := first | omega | (with_reducible first | refine krN ?_ | refine krS ?_ | refine krP ?_ | refine krG ?_); kernel_rfl | refine kr ?_; simp only [go_sem, reduceCtorEq, Int.lt_irrefl, f1]; done | fail) only [go_sem, seval, -List.reduceReplicate, Int.lt_irrefl, f1]
  generalize killHp _ h = h2
  clear p0 f1 hc ha
  obtain ⟨S, hS⟩ := Int.eq_ofNat_of_zero_le (show 0 ≤ d.stones by omega)
  have hSt : d.stones.toNat = S := by omega
  have hw0 := wit_base hd
  have hwM := base_M0 hd wit0 hw0
  rw [hN] at hwM
  have w83 := fun (K : Tb) (y : Nat) (lo hi : Int) (hy : y < a) (g : GoodK a K) (u : UB a K) (h1 : -10000 ≤ lo ∧ lo ≤ 10000) (h2 : -10000 ≤ hi ∧ hi ≤ 10000) (m : Mem) (Q : Vl → Mem → Prop) => wc83z (b := b) (n := a) (c := y) (K := K) hn hy g u h1 h2 (m := m) (Q := Q)
  refine wp_loop_to S (fun i st => ∃ (K : Tb) (ex : List (Nat × Vl)), GoodK a K ∧ UB a K ∧ (∀ u, u 0 = 0 → (Sat a K u ↔ Sat a M0 u ∧ ∀ j, j < i → -3000 ≤ u (1 + j) ∧ u (1 + j) ≤ 3000)) ∧
    st = ({ sl := (1, .loc (encD o1 o2 d)) :: (2, .loc (.agg [.nils])) :: (3, .loc (kV a K)) :: (8, I i) :: ex, hp := h2, nx := nq } : FS)) ?_ 0 (Nat.zero_le _) ⟨M0, _, M0_good, M0_ub, fun u _ => ⟨fun h => ⟨h, fun j h => absurd h (Nat.not_lt_zero _)⟩, fun h => h.1⟩, rfl⟩
  clear ex
  rintro i st hi ⟨K, ex, g, u, hK, rfl⟩
  by_cases hc : i < S
  · have hc' : (i : Int) < d.stones := by omega
    have hw3 : IntKind.wrap .i64 (1 + (i : Int)) = ((1 + i : Nat) : Int) := by rw [wrap_i64 (by omega) (by omega)]; omega
    obtain ⟨g', hs'⟩ := withK_sat (lo := -3000) (hi := 3000) g (show 0 < a by omega) (show 1 + i < a by omega) ((hK (wit d) wit0).2 ⟨hwM, fun j hj => hw0.stones j (by omega)⟩) (by have := hw0.stones i hc'; have := wit0 (d := d); omega)
    have w := w83 K (1 + i) (-3000) 3000 (by omega) g u (by omega) (by omega)
    simp +contextual (maxSteps := 1000000) (disch := first | omega | (with_reducible first | refine krN ?_ | refine krS ?_ | refine krP ?_ | refine krG ?_); kernel_rfl | refine kr ?_; simp only [go_sem, reduceCtorEq, hc, hc', wc76, hw3, w]; done | fail) only [go_sem, seval, -List.reduceReplicate, hc, hc', wc76, hw3, w]
    refine ⟨_, _, g', withK_ub u, fun v v0 => ?_, rfl⟩
    rw [hs', hK v v0, v0]
    constructor
    · rintro ⟨⟨h1, h2⟩, h3, h4⟩
      refine ⟨h1, fun j hj => ?_⟩
      by_cases h : j < i
      · exact h2 j h
      · obtain rfl : j = i := by omega
        omega
    · rintro ⟨h1, h2⟩
      have := h2 i (by omega)
      exact ⟨⟨h1, fun j hj => h2 j (by omega)⟩, by omega, by omega⟩
  have hie : i = S := by omega
  subst hie
  have hc' : ¬ (i : Int) < d.stones := by omega
  simp +contextual (maxSteps := 1000000) (disch := first | omega | (with_reducible first | refine krN ?_ | refine krS ?_ | refine krP ?_ | refine krG ?_); kernel_rfl | refine kr ?_; simp only [go_sem, reduceCtorEq, hc']; done | fail) only [go_sem, seval, -List.reduceReplicate, hc']
  refine wp_loop_to d.eras.length (fun q st => ∃ (K : Tb) (ex : List (Nat × Vl)), GoodK a K ∧ UB a K ∧ (∀ u, u 0 = 0 → (Sat a K u ↔ (Sat a M0 u ∧ ∀ j, j < i → -3000 ≤ u (1 + j) ∧ u (1 + j) ≤ 3000) ∧ ∀ j, j < q → (d.eras[j]!).1 ≤ u (1 + i + j) ∧ u (1 + i + j) ≤ (d.eras[j]!).2)) ∧
    st = ({ sl := (1, .loc (encD o1 o2 d)) :: (2, .loc (.agg [.nils])) :: (3, .loc (kV a K)) :: (9, I q) :: ex, hp := h2, nx := nq } : FS)) ?_ 0 (Nat.zero_le _) ⟨K, _, g, u, fun v v0 => (hK v v0).trans ⟨fun h => ⟨h, fun j h => absurd h (Nat.not_lt_zero _)⟩, fun h => h.1⟩, rfl⟩
  clear hK g u K hi hc
  rintro q st hq ⟨K, ex, g, u, hK, rfl⟩
  by_cases hc : q < d.eras.length
  · have hso := hd.eras _ (get!_mem hc)
    unfold SpanOk at hso
    have hw3 : IntKind.wrap .i64 (1 + d.stones + (q : Int)) = ((1 + i + q : Nat) : Int) := by rw [wrap_i64 (by omega) (by omega)]; omega
    have hwe := hw0.eras q hc
    rw [hSt] at hwe
    obtain ⟨g', hs'⟩ := withK_sat (lo := (d.eras[q]!).1) (hi := (d.eras[q]!).2) g (show 0 < a by omega) (show 1 + i + q < a by omega) ((hK (wit d) wit0).2 ⟨⟨hwM, fun j hj => hw0.stones j (by omega)⟩, fun j hj => by have := hw0.eras j (by omega); rwa [hSt] at this⟩) (by have := wit0 (d := d); omega)
    have w := w83 K (1 + i + q) (d.eras[q]!).1 (d.eras[q]!).2 (by omega) g u (by omega) (by omega)
    simp +contextual (maxSteps := 1000000) (disch := first | omega | (with_reducible first | refine krN ?_ | refine krS ?_ | refine krP ?_ | refine krG ?_); kernel_rfl | refine kr ?_; simp only [go_sem, reduceCtorEq, Int.ofNat_lt, hc, ix_map, wc79, hw1, hw3, w]; done | fail) only [go_sem, seval, -List.reduceReplicate, Int.ofNat_lt, hc, ix_map, wc79, hw1, hw3, w]
    refine ⟨_, _, g', withK_ub u, fun v v0 => ?_, rfl⟩
    rw [hs', hK v v0, v0]
    constructor
    · rintro ⟨⟨h1, h2⟩, h3, h4⟩
      refine ⟨h1, fun j hj => ?_⟩
      by_cases h : j < q
      · exact h2 j h
      · obtain rfl : j = q := by omega
        omega
    · rintro ⟨h1, h2⟩
      have := h2 q (by omega)
      exact ⟨⟨h1, fun j hj => h2 j (by omega)⟩, by omega, by omega⟩
  have hqe : q = d.eras.length := by omega
  subst hqe
  simp +contextual (maxSteps := 1000000) (disch := first | omega | (with_reducible first | refine krN ?_ | refine krS ?_ | refine krP ?_ | refine krG ?_); kernel_rfl | refine kr ?_; simp only [go_sem, reduceCtorEq, Int.lt_irrefl]; done | fail) only [go_sem, seval, -List.reduceReplicate, Int.lt_irrefl]
  refine OB_intro (reify_lst (closedL_map (fun _ => rowK_cl) _)) ⟨K, rfl, ⟨by rw [hN]; exact g, by rw [hN]; exact u, fun v v0 => ?_⟩⟩
  rw [hN, hK v v0]
  constructor
  · rintro ⟨⟨_, h1⟩, h2⟩
    exact ⟨fun j hj => h1 j (by omega), fun j hj => by rw [hSt]; exact h2 j hj⟩
  · intro h
    refine ⟨⟨by rw [← hN]; exact base_M0 hd v0 h, fun j hj => h.stones j (by omega)⟩, fun j hj => ?_⟩
    have := h.eras j hj
    rwa [hSt] at this
end Go.Proofs
