/- What functions of the given program do in the ideal machine (G50, G51, G52), and the plain laws of what they answer; the conditions stand in each theorem. -/
import Derived.Test.YtencmmlmeifffaaGo
import Derived.Test.YtencmmlmeifffaaGl
set_option linter.all false
set_option linter.unusedSectionVars false
set_option linter.unusedSimpArgs false
set_option linter.unusedVariables false
namespace Go.Proofs
open Go Go.Idl
set_option linter.unusedSimpArgs false
variable {b : Bool}
theorem chRow_succ {r : Roll} {i k : Nat} (h : i + 1 ≤ k) : chRow r i (k + 1) = chRow r i k ++ chPair r i k := by
  unfold chRow
  rw [show k + 1 - (i + 1) = (k - (i + 1)) + 1 by omega, List.range_succ, List.map_append, List.flatten_append]
  simp only [List.map_cons, List.map_nil, List.flatten_cons, List.flatten_nil, List.append_nil]
  rw [show i + 1 + (k - (i + 1)) = k by omega]
theorem chRow_start {r : Roll} {i : Nat} : chRow r i (i + 1) = [] := by unfold chRow; simp
theorem refChTo_succ {r : Roll} {i : Nat} : refChTo r (i + 1) = refChTo r i ++ chRow r i r.cs.length := by
  unfold refChTo
  rw [List.range_succ, List.map_append, List.flatten_append]
  simp
theorem chPair_len {r : Roll} {i k : Nat} : (chPair r i k).length ≤ 1 := by
  unfold chPair
  split
  · simp
  · split
    · simp
    · split <;> simp
theorem chRow_len {r : Roll} {i n : Nat} : (chRow r i n).length ≤ n := by
  unfold chRow
  have : ∀ m, (((List.range m).map fun k => chPair r i (i + 1 + k)).flatten).length ≤ m := fun m => by
    induction m with
    | zero => simp
    | succ m ih =>
      rw [List.range_succ, List.map_append, List.flatten_append, List.length_append]
      have := @chPair_len r i (i + 1 + m)
      simp only [List.map_cons, List.map_nil, List.flatten_cons, List.flatten_nil, List.append_nil]
      omega
  have := this (n - (i + 1)); omega
theorem refChTo_len {r : Roll} {n : Nat} : (refChTo r n).length ≤ r.cs.length * n := by
  induction n with
  | zero => simp [refChTo]
  | succ n ih => rw [refChTo_succ, List.length_append, Nat.mul_succ]; have := @chRow_len r n r.cs.length; omega
theorem mapR_cl {hp : Nat → Ob} : ∀ {xs : List Vl}, closedL xs = true → mapR (reifyF (reifyF closedV hp) hp) xs = some (xs, [])
  | [], _ => rfl
  | x :: xs, h => by
    have h : (x.closed && closedL xs) = true := h
    rw [Bool.and_eq_true] at h
    rw [mapR, reify_closedV x h.1, mapR_cl h.2]; rfl
theorem rfCl {hp : Nat → Ob} {id e n : Nat} {xs : List Vl} (hn : xs.length = n) (hc : closedL xs = true) : reify (upd hp id (.arr e xs)) (.own id n) = some (.lst e xs false, [id]) := by
  unfold reify reifyF
  rw [upd_same]
  simp only [hn, if_true]
  rw [mapR_cl hc]; rfl
section
variable {m : Mem} {k : Nat} {gs : List Vl} {o : Bool}
theorem apCh {x : Vl} (h0 : m.hp 0 = .arr 1 gs) (hn : gs.length = k) (hs : k ≤ 100000) : isAppend Try.prog 114 114 (.own 0 k) (.lst 1 [x] o) m = some (.own 0 (k + 1), { m with hp := upd m.hp 0 (.arr 1 (gs ++ [x])) }) :=
  app1_own (by rw [td114]) h0 hn (grow_ok rfl rfl (by decide) (by decide) (by omega))
theorem apAl {x y z : Vl} : isAppend Try.prog 135 135 (.lst 1 [x, y] true) (.lst 1 [z] o) m = some (.own m.nx 3, { m with hp := upd m.hp m.nx (.arr 1 [x, y, z]), nx := m.nx + 1 }) := by
  unfold isAppend appendV
  rw [td135]
  simp only [Mem.elems, if_true, Option.bind_some, List.length_cons, List.length_nil]
  have hg : okGrow 24 1 .nils (0 + 1 + 1 + (0 + 1)) = true := grow_ok rfl rfl (by decide) (by decide) (by decide)
  rw [hg]
  rfl
end
set_option maxRecDepth 10000 in
set_option maxHeartbeats 4000000 in
theorem refCh_to {r : Roll} (hw : WF r) {o1 o2 o3 o4 : Option Bool} : Ans Try.prog (AA b) 78 [encRoll o1 o2 o3 o4 r] (fun v => ∃ wos : List (List (List Rule) × Bool), wos.map Prod.fst = refCh r ∧ v = .lst 1 (wos.map encWO) false) := by
  refine Ans_of Try.func78 rfl rfl ?_
  obtain ⟨hm1, hm6⟩ := hw.ms_l
  have hc8 := hw.cs_l
  simp +contextual (maxSteps := 1000000) (disch := first | omega | (with_reducible first | refine krN ?_ | refine krS ?_ | refine krP ?_ | refine krG ?_); kernel_rfl | refine kr ?_; simp only [go_sem, reduceCtorEq]; done | fail) only [go_sem, seval, -List.reduceReplicate]
  refine wp_loop_to r.cs.length (fun i st => ∃ (hp : Nat → Ob) (nx : Nat) (wos : List (List (List Rule) × Bool)) (ex : List (Nat × Vl)), wos.map Prod.fst = refChTo r i ∧ hp 0 = .arr 1 (wos.map encWO) ∧ 0 < nx ∧ st = ({ sl := (1, .loc (encRoll o1 o2 o3 o4 r)) :: (3, .own 0 wos.length) :: (4, I i) :: ex, hp := hp, nx := nx } : FS)) ?_ 0 (Nat.zero_le _) ⟨_, _, [], [], rfl, upd_same _ _ _, by decide, rfl⟩
  rintro i st hi ⟨hp, nx, wos, ex, hwo, h0, hnx, rfl⟩
  by_cases hc : i < r.cs.length
  case neg =>
    obtain rfl : i = r.cs.length := by omega
    simp +contextual (maxSteps := 1000000) (disch := first | omega | (with_reducible first | refine krN ?_ | refine krS ?_ | refine krP ?_ | refine krG ?_); kernel_rfl | refine kr ?_; simp only [go_sem, reduceCtorEq, Int.lt_irrefl]; done | fail) only [go_sem, seval, -List.reduceReplicate, Int.lt_irrefl]
    exact OB_intro (reify_flat (.inl h0) rfl fun x => reify_closedV _ (clWO x)) ⟨wos, hwo, rfl⟩
  have hw1 : IntKind.wrap .i64 ((i : Int) + 1) = ((i + 1 : Nat) : Int) := by rw [wrap_i64 (by omega) (by omega)]; omega
  simp +contextual (maxSteps := 1000000) (disch := first | omega | (with_reducible first | refine krN ?_ | refine krS ?_ | refine krP ?_ | refine krG ?_); kernel_rfl | refine kr ?_; simp only [go_sem, reduceCtorEq, Int.ofNat_lt, hc, hw1]; done | fail) only [go_sem, seval, -List.reduceReplicate, Int.ofNat_lt, hc, hw1]
  refine wp_loop_to r.cs.length (fun k st => ∃ (hp : Nat → Ob) (nx : Nat) (wos : List (List (List Rule) × Bool)) (ex : List (Nat × Vl)), i + 1 ≤ k ∧ wos.map Prod.fst = refChTo r i ++ chRow r i k ∧ hp 0 = .arr 1 (wos.map encWO) ∧ 0 < nx ∧ st = ({ sl := (1, .loc (encRoll o1 o2 o3 o4 r)) :: (3, .own 0 wos.length) :: (4, I i) :: (5, I k) :: ex, hp := hp, nx := nx } : FS)) ?_ (i + 1) (by omega) ⟨hp, nx, wos, [], Nat.le_refl _, by rw [chRow_start, List.append_nil]; exact hwo, h0, hnx, rfl⟩
  clear h0 hnx hwo wos nx hp ex
  rintro k st hkl ⟨hp, nx, wos, ex, hik, hwo, h0, hnx, rfl⟩
  by_cases hc2 : k < r.cs.length
  case neg =>
    obtain rfl : k = r.cs.length := by omega
    simp +contextual (maxSteps := 1000000) (disch := first | omega | (with_reducible first | refine krN ?_ | refine krS ?_ | refine krP ?_ | refine krG ?_); kernel_rfl | refine kr ?_; simp only [go_sem, reduceCtorEq, Int.lt_irrefl]; done | fail) only [go_sem, seval, -List.reduceReplicate, Int.lt_irrefl]
    exact ⟨_, _, wos, _, by rw [refChTo_succ]; exact hwo, h0, hnx, rfl⟩
  have hwl : wos.length ≤ 1000 := by
    have := congrArg List.length hwo
    rw [List.length_map, List.length_append] at this
    have h1 := @refChTo_len r i
    have h2 := @chRow_len r i k
    have h3 : r.cs.length * i ≤ 8 * 8 := Nat.mul_le_mul (by omega) (by omega)
    omega
  rw [chRow_succ hik, ← List.append_assoc, ← hwo]
  have hap : ∀ (lc : List (Nat × Vl)) (hp' : Nat → Ob) (n : Nat) (x : Vl) (o : Bool), hp' 0 = .arr 1 (wos.map encWO) → isAppend Try.prog 114 114 (.own 0 wos.length) (.lst 1 [x] o) ⟨lc, hp', n⟩ = some (.own 0 (wos.length + 1), ⟨lc, upd hp' 0 (.arr 1 (wos.map encWO ++ [x])), n⟩) := fun lc hp' n x o h => apCh h (List.length_map encWO) (by omega)
  have hdone : ∀ (hp' : Nat → Ob) (n : Nat) (w : List (List Rule)) (o : Bool) (sl : List (Nat × Vl)), chPair r i k = [w] → 0 < n → sl = (1, .loc (encRoll o1 o2 o3 o4 r)) :: (3, .own 0 (wos.length + 1)) :: (4, I i) :: (5, I ((k + 1 : Nat) : Int)) :: [] →
      ∃ (hp'' : Nat → Ob) (nx : Nat) (wos' : List (List (List Rule) × Bool)) (ex : List (Nat × Vl)), i ≤ k ∧ wos'.map Prod.fst = wos.map Prod.fst ++ chPair r i k ∧ hp'' 0 = .arr 1 (wos'.map encWO) ∧ 0 < nx ∧ ({ sl := sl, hp := upd hp' 0 (.arr 1 (wos.map encWO ++ [encWO (w, o)])), nx := n } : FS) = { sl := (1, .loc (encRoll o1 o2 o3 o4 r)) :: (3, .own 0 wos'.length) :: (4, I i) :: (5, I ((k + 1 : Nat) : Int)) :: ex, hp := hp'', nx := nx } := fun hp' n w o sl h hn hsl => by
    subst hsl
    refine ⟨_, n, wos ++ [(w, o)], [], by omega, by rw [h, List.map_append]; rfl, ?_, hn, by rw [List.length_append]; rfl⟩
    rw [upd_same, List.map_append]; rfl
  have hnone : chPair r i k = [] → ∀ sl, sl = (1, .loc (encRoll o1 o2 o3 o4 r)) :: (3, .own 0 wos.length) :: (4, I i) :: (5, I ((k + 1 : Nat) : Int)) :: [] → ∃ (hp'' : Nat → Ob) (nx' : Nat) (wos' : List (List (List Rule) × Bool)) (ex : List (Nat × Vl)), i ≤ k ∧ wos'.map Prod.fst = wos.map Prod.fst ++ chPair r i k ∧ hp'' 0 = .arr 1 (wos'.map encWO) ∧ 0 < nx' ∧ ({ sl := sl, hp := hp, nx := nx } : FS) = { sl := (1, .loc (encRoll o1 o2 o3 o4 r)) :: (3, .own 0 wos'.length) :: (4, I i) :: (5, I ((k + 1 : Nat) : Int)) :: ex, hp := hp'', nx := nx' } := fun h sl hsl => by
    subst hsl
    exact ⟨_, nx, wos, [], by omega, by rw [h, List.append_nil], h0, hnx, rfl⟩
  cases k1 : r.cs[i]!.kin with
  | true =>
    simp +contextual (maxSteps := 1000000) (disch := first | omega | (with_reducible first | refine krN ?_ | refine krS ?_ | refine krP ?_ | refine krG ?_); kernel_rfl | refine kr ?_; simp only [go_sem, reduceCtorEq, Int.ofNat_lt, hc, hc2, ix_map, encC, k1]; done | fail) only [go_sem, seval, -List.reduceReplicate, Int.ofNat_lt, hc, hc2, ix_map, encC, k1]
    exact hnone (by unfold chPair; rw [if_pos (.inl k1)]) _ rfl
  | false =>
  cases k2 : r.cs[k]!.kin with
  | true =>
    simp +contextual (maxSteps := 1000000) (disch := first | omega | (with_reducible first | refine krN ?_ | refine krS ?_ | refine krP ?_ | refine krG ?_); kernel_rfl | refine kr ?_; simp only [go_sem, reduceCtorEq, Int.ofNat_lt, hc, hc2, ix_map, encC, k1, k2]; done | fail) only [go_sem, seval, -List.reduceReplicate, Int.ofNat_lt, hc, hc2, ix_map, encC, k1, k2]
    exact hnone (by unfold chPair; rw [if_pos (.inr (.inl k2))]) _ rfl
  | false =>
  by_cases hman : r.cs[i]!.man = r.cs[k]!.man
  case neg =>
    simp +contextual (maxSteps := 1000000) (disch := first | omega | (with_reducible first | refine krN ?_ | refine krS ?_ | refine krP ?_ | refine krG ?_); kernel_rfl | refine kr ?_; simp only [go_sem, reduceCtorEq, Int.ofNat_lt, hc, hc2, ix_map, encC, k1, k2, hman]; done | fail) only [go_sem, seval, -List.reduceReplicate, Int.ofNat_lt, hc, hc2, ix_map, encC, k1, k2, hman]
    exact hnone (by unfold chPair; rw [if_pos (.inr (.inr hman))]) _ rfl
  have hnk : ¬ (r.cs[i]!.kin = true ∨ r.cs[k]!.kin = true ∨ r.cs[i]!.man ≠ r.cs[k]!.man) := by rw [k1, k2]; rintro (h | h | h); cases h; cases h; exact h hman
  obtain ⟨b1, b2, b3, b4, _⟩ := (hw.cs_ok _ (get!_mem hc)).2.2.2 k1
  obtain ⟨d1, d2, d3, d4, _⟩ := (hw.cs_ok _ (get!_mem hc2)).2.2.2 k2
  have hrow : (r.fs[r.cs[i]!.town.toNat]!).length = r.fs.length := hw.fs_ok _ (get!_mem (by omega))
  by_cases ho : 0 ≤ r.cs[i]!.office ∧ r.cs[i]!.office = r.cs[k]!.office
  · obtain ⟨ho1, ho2⟩ := ho
    have ho3 : 0 ≤ r.cs[k]!.office := by omega
    cases hfar : (r.fs[r.cs[i]!.town.toNat]!)[r.cs[k]!.town.toNat]! with
    | true =>
      have hch : chPair r i k = [[[⟨2 * r.ms.length + i, 2 * r.ms.length + k, r.os[r.cs[i]!.office.toNat]!.again⟩], [⟨2 * r.ms.length + k, 2 * r.ms.length + i, r.os[r.cs[i]!.office.toNat]!.again⟩]]] := by
        unfold chPair; rw [if_neg hnk, if_pos ⟨ho1, ho2⟩, if_pos hfar]; rfl
      simp +contextual (maxSteps := 1000000) (disch := first | omega | (with_reducible first | refine krN ?_ | refine krS ?_ | refine krP ?_ | refine krG ?_); kernel_rfl | refine kr ?_; simp only [go_sem, reduceCtorEq, Int.ofNat_lt, hc, hc2, ix_map, encC, encO, encRow, k1, k2, hman, ho1, ho2, ho3, hrow, hfar, wc96, hap, h0]; done | fail) only [go_sem, seval, -List.reduceReplicate, Int.ofNat_lt, hc, hc2, ix_map, encC, encO, encRow, k1, k2, hman, ho1, ho2, ho3, hrow, hfar, wc96, hap, h0]
      simp only [ho2] at hch
      have := hdone hp nx _ true _ hch hnx rfl
      simp only [encWO, encAlt, encR, List.map_cons, List.map_nil, Int.natCast_add, Int.natCast_mul, Int.cast_ofNat_Int] at this
      exact this
    | false =>
      have hch : chPair r i k = [[[⟨2 * r.ms.length + i, 2 * r.ms.length + k, r.os[r.cs[i]!.office.toNat]!.again⟩], [⟨2 * r.ms.length + k, 2 * r.ms.length + i, r.os[r.cs[i]!.office.toNat]!.again⟩], [⟨2 * r.ms.length + i, 2 * r.ms.length + k, 0⟩, ⟨2 * r.ms.length + k, 2 * r.ms.length + i, 0⟩]]] := by
        unfold chPair; rw [if_neg hnk, if_pos ⟨ho1, ho2⟩, if_neg (by rw [hfar]; decide)]; rfl
      have hup : ∀ x, (upd hp nx x) 0 = .arr 1 (wos.map encWO) := fun x => by rw [upd_ne _ _ (by omega)]; exact h0
      simp +contextual (maxSteps := 1000000) (disch := first | omega | (with_reducible first | refine krN ?_ | refine krS ?_ | refine krP ?_ | refine krG ?_); kernel_rfl | refine kr ?_; simp only [go_sem, reduceCtorEq, Int.ofNat_lt, hc, hc2, ix_map, encC, encO, encRow, k1, k2, hman, ho1, ho2, ho3, hrow, hfar, wc96, wc93, apAl, hap, h0, rfCl, closedL, Vl.closed, List.length_cons, List.length_nil, killHp_one, upd_same, froOb_arr, Int.neg_zero, hup]; done | fail) only [go_sem, seval, -List.reduceReplicate, Int.ofNat_lt, hc, hc2, ix_map, encC, encO, encRow, k1, k2, hman, ho1, ho2, ho3, hrow, hfar, wc96, wc93, apAl, hap, h0, rfCl, closedL, Vl.closed, List.length_cons, List.length_nil, killHp_one, upd_same, froOb_arr, Int.neg_zero, hup]
      simp only [ho2] at hch
      have := fun x => hdone (upd hp nx x) (nx + 1) _ false _ hch (by omega) rfl
      simp only [encWO, encAlt, encR, List.map_cons, List.map_nil, Int.natCast_add, Int.natCast_mul, Int.cast_ofNat_Int] at this
      exact this _
  · cases hfar : (r.fs[r.cs[i]!.town.toNat]!)[r.cs[k]!.town.toNat]! with
    | true =>
      have hch : chPair r i k = [[[⟨2 * r.ms.length + i, 2 * r.ms.length + k, 1⟩], [⟨2 * r.ms.length + k, 2 * r.ms.length + i, 1⟩]]] := by
        unfold chPair; rw [if_neg hnk, if_neg ho, if_pos hfar]
      simp +contextual (maxSteps := 1000000) (disch := first | omega | (with_reducible first | refine krN ?_ | refine krS ?_ | refine krP ?_ | refine krG ?_); kernel_rfl | refine kr ?_; simp only [go_sem, reduceCtorEq, Int.ofNat_lt, hc, hc2, ix_map, encC, encO, encRow, k1, k2, hman, ho, hrow, hfar, wc96, hap, h0]; done | fail) only [go_sem, seval, -List.reduceReplicate, Int.ofNat_lt, hc, hc2, ix_map, encC, encO, encRow, k1, k2, hman, ho, hrow, hfar, wc96, hap, h0]
      have := hdone hp nx _ true _ hch hnx rfl
      simp only [encWO, encAlt, encR, List.map_cons, List.map_nil, Int.natCast_add, Int.natCast_mul, Int.cast_ofNat_Int] at this
      exact this
    | false =>
      have hch : chPair r i k = [] := by
        unfold chPair; rw [if_neg hnk, if_neg ho, if_neg (by rw [hfar]; decide)]
      simp +contextual (maxSteps := 1000000) (disch := first | omega | (with_reducible first | refine krN ?_ | refine krS ?_ | refine krP ?_ | refine krG ?_); kernel_rfl | refine kr ?_; simp only [go_sem, reduceCtorEq, Int.ofNat_lt, hc, hc2, ix_map, encC, encO, encRow, k1, k2, hman, ho, hrow, hfar, wc96, hap, h0]; done | fail) only [go_sem, seval, -List.reduceReplicate, Int.ofNat_lt, hc, hc2, ix_map, encC, encO, encRow, k1, k2, hman, ho, hrow, hfar, wc96, hap, h0]
      exact hnone hch _ rfl
end Go.Proofs
namespace Go.Proofs
open Go Go.Idl
set_option linter.unusedSimpArgs false
variable {b : Bool}
section
variable {r : Roll}
theorem fixed_ne (hw : WF r) : ∀ x ∈ fixedL r, x.a ≠ x.b := by
  obtain ⟨hm1, _⟩ := hw.ms_l
  intro x hx
  rcases mem_fixed.1 hx with ⟨i, hi, hx⟩ | ⟨i, hi, hx⟩
  · unfold fixMan at hx
    simp only [List.mem_cons, List.not_mem_nil, or_false] at hx
    rcases hx with rfl | rfl <;> (simp only; omega)
  · obtain ⟨a1, a2, a3, a4⟩ := hw.cs_ok _ (get!_mem hi)
    unfold fixRec at hx
    split at hx
    · rename_i hk
      have := a3 hk
      simp only [List.mem_cons, List.not_mem_nil, or_false] at hx
      rcases hx with rfl | rfl | rfl <;> (simp only; omega)
    · simp only [List.mem_append, List.mem_cons, List.not_mem_nil, or_false, List.mem_flatten, List.mem_map, List.mem_range] at hx
      rcases hx with (rfl | rfl) | ⟨_, ⟨k, hk, rfl⟩, hx⟩
      · simp only; omega
      · simp only; omega
      · unfold fixGap at hx
        split at hx
        · rename_i hg
          simp only [List.mem_cons, List.not_mem_nil, or_false] at hx
          subst hx
          simp only
          intro e
          obtain rfl : i = k := by omega
          omega
        · cases hx
theorem refCh_small (_hw : WF r) : ∀ w ∈ refCh r, w.length ≤ 10 ∧ ∀ alt ∈ w, alt.length ≤ 10 ∧ ∀ x ∈ alt, x.a ≠ x.b := by
  intro w hw'
  obtain ⟨i, k, hik, hk, hwp⟩ := mem_choices'.1 hw'
  unfold chPair at hwp
  split at hwp
  · cases hwp
  · split at hwp
    · split at hwp
      · simp only [List.append_nil, List.mem_cons, List.not_mem_nil, or_false] at hwp
        subst hwp
        refine ⟨by simp, fun alt ha => ?_⟩
        simp only [List.mem_cons, List.not_mem_nil, or_false] at ha
        rcases ha with rfl | rfl <;> refine ⟨by simp, fun x hx => ?_⟩ <;> simp only [List.mem_cons, List.not_mem_nil, or_false] at hx <;> subst hx <;> simp only <;> omega
      · simp only [List.cons_append, List.nil_append, List.mem_cons, List.not_mem_nil, or_false] at hwp
        subst hwp
        refine ⟨by simp, fun alt ha => ?_⟩
        simp only [List.mem_cons, List.not_mem_nil, or_false] at ha
        rcases ha with rfl | rfl | rfl <;> refine ⟨by simp, fun x hx => ?_⟩ <;> simp only [List.mem_cons, List.not_mem_nil, or_false] at hx
        · subst hx; simp only; omega
        · subst hx; simp only; omega
        · rcases hx with rfl | rfl <;> simp only <;> omega
    · split at hwp
      · simp only [List.mem_cons, List.not_mem_nil, or_false] at hwp
        subst hwp
        refine ⟨by simp, fun alt ha => ?_⟩
        simp only [List.mem_cons, List.not_mem_nil, or_false] at ha
        rcases ha with rfl | rfl <;> refine ⟨by simp, fun x hx => ?_⟩ <;> simp only [List.mem_cons, List.not_mem_nil, or_false] at hx <;> subst hx <;> simp only <;> omega
      · cases hwp
def knownV (r : Roll) : Vl := if (knownF r).2 = true then .tup [.lst 2 ((knownF r).1.map encS) false, .bool true] else .tup [.nils, .bool false]
section
variable {m : Mem} {K : Vl → Mem → Prop} {o1 o2 o3 o4 : Option Bool}
theorem wc76 (hw : WF r) : WC Try.prog (AA b) (.fn (.func 76) [] []) [.v (encRoll o1 o2 o3 o4 r)] m K = K (.lst 2 ((givenL r).map encS) false) m :=
  WC_pure (by simp only [mkAnn, K76]) (rfAs (xs := [encRoll o1 o2 o3 o4 r]) (by simp only [closedL, clRoll, Bool.and_self])) rfl (closed_SL (o := some false) (closedL_map (fun _ => rfl) _)) (start_to (by have := hw.ms_l; omega) (by have := hw.cs_l; omega))
theorem wc77 (hw : WF r) : WC Try.prog (AA b) (.fn (.func 77) [] []) [.v (encRoll o1 o2 o3 o4 r)] m K = K (.lst 3 ((fixedL r).map encR) false) m :=
  WC_pure (by simp only [mkAnn, K77]) (rfAs (xs := [encRoll o1 o2 o3 o4 r]) (by simp only [closedL, clRoll, Bool.and_self])) rfl (closed_SL (o := some false) (closedL_map (fun _ => rfl) _)) (fixed_to hw)
set_option maxHeartbeats 4000000 in
theorem known_to (hw : WF r) : Ans Try.prog (AA b) 57 [encRoll o1 o2 o3 o4 r] (fun v => v = knownV r) := by
  refine Ans_of Try.func57 rfl rfl ?_
  obtain ⟨hm1, hm6⟩ := hw.ms_l
  have hc8 := hw.cs_l
  obtain ⟨wos, hwos, hA⟩ : ∃ wos : List (List (List Rule) × Bool), wos.map Prod.fst = refCh r ∧ Ans Try.prog (AA b) 78 [encRoll o1 o2 o3 o4 r] (fun v => v = .lst 1 (wos.map encWO) false) := by
    obtain ⟨v, hv, wos, h1, h2⟩ := refCh_to (b := b) hw (o1 := o1) (o2 := o2) (o3 := o3) (o4 := o4)
    exact ⟨wos, h1, v, hv, h2⟩
  have h78 : ∀ (m : Mem) (K : Vl → Mem → Prop), WC Try.prog (AA b) (.fn (.func 78) [] []) [.v (encRoll o1 o2 o3 o4 r)] m K = K (.lst 1 (wos.map encWO) false) m := fun m K => WC_pure (m := m) (K := K) (by simp only [mkAnn, K78]) (rfAs (xs := [encRoll o1 o2 o3 o4 r]) (by simp only [closedL, clRoll, Bool.and_self])) rfl (closed_SL (o := some false) (closedL_map clWO _)) hA
  have hrl : (fixedL r).length ≤ 200 := by
    have h1 := @fixedTo_len r r.ms.length r.cs.length
    have h2 : (3 + r.cs.length) * r.cs.length ≤ 11 * 8 := Nat.mul_le_mul (by omega) (by omega)
    unfold fixedL; omega
  have hwl : wos.length ≤ 64 := by
    have := congrArg List.length hwos
    rw [List.length_map] at this
    have h1 := @refChTo_len r r.cs.length
    have h3 : r.cs.length * r.cs.length ≤ 8 * 8 := Nat.mul_le_mul (by omega) (by omega)
    unfold refCh at this; omega
  have hmem : ∀ w ∈ wos, w.1 ∈ refCh r := fun w h => by rw [← hwos]; exact List.mem_map_of_mem h
  have hf0 : fixedL r ≠ [] := by
    obtain ⟨n, hn⟩ : ∃ n, r.ms.length = n + 1 := ⟨r.ms.length - 1, by omega⟩
    intro e
    have h : (⟨0, r.ms.length + 0, 0⟩ : Rule) ∈ fixedL r := mem_fixed.2 (.inl ⟨0, by omega, List.mem_cons_self⟩)
    rw [e] at h; cases h
  have hall := all_to (b := b) (n := 2 * r.ms.length + r.cs.length) (by omega) wos (k := givenL r) (rs := fixedL r) (o1 := some false) (o2 := some false) (o3 := some false) (given_KB hw) hf0 (by omega) (fun x hx => ⟨fixed_RB hw x hx, fixed_ne hw x hx⟩) (by omega) (fun w h => by
    obtain ⟨s1, s2⟩ := refCh_small hw _ (hmem w h)
    exact ⟨s1, fun alt ha => ⟨(s2 alt ha).1, fun x hx => ⟨refCh_RB hw _ (hmem w h) alt ha x hx, (s2 alt ha).2 x hx⟩⟩⟩)
  have hv : allV (wos.map Prod.fst) (givenL r) (fixedL r) = knownV r := by rw [hwos]; rfl
  rw [hv] at hall
  have hcl : closedL [Vl.lst 2 ((givenL r).map encS) false, .lst 3 ((fixedL r).map encR) false, .lst 1 (wos.map encWO) false] = true := by
    show ((Vl.lst 2 ((givenL r).map encS) false).closed && ((Vl.lst 3 ((fixedL r).map encR) false).closed && ((Vl.lst 1 (wos.map encWO) false).closed && true))) = true
    rw [show (Vl.lst 2 ((givenL r).map encS) false).closed = true from closed_SL (o := some false) (closedL_map (fun _ => rfl) _), show (Vl.lst 3 ((fixedL r).map encR) false).closed = true from closed_SL (o := some false) (closedL_map (fun _ => rfl) _), show (Vl.lst 1 (wos.map encWO) false).closed = true from closed_SL (o := some false) (closedL_map clWO _)]; rfl
  by_cases h : (knownF r).2 = true
  · have e : knownV r = .tup [.lst 2 ((knownF r).1.map encS) false, .bool true] := if_pos h
    rw [e] at hall ⊢
    have hc1 : (Vl.lst 2 ((knownF r).1.map encS) false).closed = true := closed_SL (o := some false) (closedL_map (fun x => rfl) _)
    have h75 := fun (m : Mem) (K : Vl → Mem → Prop) => WC_pure (m := m) (K := K) (by simp only [mkAnn, K75]) (rfAs hcl) rfl (by show ((Vl.lst 2 ((knownF r).1.map encS) false).closed && (true && true)) = true; rw [hc1]; rfl) hall
    simp only [List.map_cons, List.map_nil, killHp_nil] at h75
    simp +contextual (maxSteps := 1000000) (disch := first | omega | (with_reducible first | refine krN ?_ | refine krS ?_ | refine krP ?_ | refine krG ?_); kernel_rfl | refine kr ?_; simp only [go_sem, reduceCtorEq, wc76, wc77, h78, h75, hw, rfS]; done | fail) only [go_sem, seval, -List.reduceReplicate, wc76, wc77, h78, h75, hw, rfS]
  · have e : knownV r = .tup [.nils, .bool false] := if_neg h
    rw [e] at hall ⊢
    have h75 := fun (m : Mem) (K : Vl → Mem → Prop) => WC_flat (m := m) (K := K) (by simp only [mkAnn, K75]) (rfAs hcl) hall rfl
    simp only [List.map_cons, List.map_nil, killHp_nil] at h75
    simp +contextual (maxSteps := 1000000) (disch := first | omega | (with_reducible first | refine krN ?_ | refine krS ?_ | refine krP ?_ | refine krG ?_); kernel_rfl | refine kr ?_; simp only [go_sem, reduceCtorEq, wc76, wc77, h78, h75, hw]; done | fail) only [go_sem, seval, -List.reduceReplicate, wc76, wc77, h78, h75, hw]
theorem wc57 (hw : WF r) : WC Try.prog (AA b) (.fn (.func 57) [] []) [.v (encRoll o1 o2 o3 o4 r)] m K = K (knownV r) m := by
  have ha := known_to (b := b) hw (o1 := o1) (o2 := o2) (o3 := o3) (o4 := o4)
  have hc : closedL [encRoll o1 o2 o3 o4 r] = true := by simp only [closedL, clRoll, Bool.and_self]
  by_cases h : (knownF r).2 = true
  · have e : knownV r = .tup [.lst 2 ((knownF r).1.map encS) false, .bool true] := if_pos h
    rw [e] at ha ⊢
    have hc1 : (Vl.lst 2 ((knownF r).1.map encS) false).closed = true := closed_SL (o := some false) (closedL_map (fun x => rfl) _)
    exact WC_pure (by simp only [mkAnn, K57]) (rfAs hc) rfl (by show ((Vl.lst 2 ((knownF r).1.map encS) false).closed && (true && true)) = true; rw [hc1]; rfl) ha
  · have e : knownV r = .tup [.nils, .bool false] := if_neg h
    rw [e] at ha ⊢
    exact WC_flat (by simp only [mkAnn, K57]) (rfAs hc) ha rfl
end
end
end Go.Proofs
namespace Go.Proofs
open Go Go.Idl
set_option linter.unusedSimpArgs false
variable {b : Bool}
noncomputable def bornL (r : Roll) : List (Int × Int) := (List.range r.ms.length).map fun i => (solveF false r).1.getD i (0, 0)
noncomputable def diedL (r : Roll) : List (Int × Int) := ((List.range r.ms.length).map (6 + ·)).map fun i => (solveF false r).1.getD i (0, 0)
noncomputable def yrsL' (r : Roll) : List (Int × Int) := (List.range r.cs.length).map fun i => if r.cs[i]!.kin = true then (0, 0) else (solveF false r).1.getD (12 + i) (0, 0)
section
variable {r : Roll} {m : Mem} {K : Vl → Mem → Prop} {o1 o2 o3 o4 : Option Bool}
theorem n20 (hn : Narrow20 r) : r.ms.length ≤ 1000000 ∧ r.fs.length ≤ 1000000 ∧ r.os.length ≤ 1000000 ∧ r.cs.length ≤ 1000000 := by
  obtain ⟨h1, h2, h3, h4, _⟩ := hn; omega
theorem known_solve (hw : WF r) : (knownF r).2 = (solveF false r).2 ∧ ((solveF false r).2 = true → (knownF r).1.length = 2 * r.ms.length + r.cs.length ∧ (knownF r).1.take r.ms.length = bornL r ∧ ((knownF r).1.take (2 * r.ms.length)).drop r.ms.length = diedL r ∧ (knownF r).1.drop (2 * r.ms.length) = yrsL' r) := by
  have h := hull_solve hw (known_hull hw)
  refine ⟨h.1.symm, fun hs => ?_⟩
  rw [h.1] at hs
  rw [if_pos hs] at h
  exact ⟨(known_hullT hw).len hs, h.2 hs⟩
theorem wcG {g : FuncId} {args : List Vl} {v : Vl} (hh : heapT g = false) (hc : closedL args = true) (hv : v.closed = true) (ha : Ans Try.prog (AA b) g args (fun x => x = v)) : WC Try.prog (AA b) (.fn (.func g) [] []) (args.map Arg.v) m K = K v m := by
  cases hf : v.flat with
  | true => exact WC_flat hh (rfAs hc) ha hf
  | false => exact WC_pure hh (rfAs hc) hf hv ha
theorem clR1 : closedL [encRoll o1 o2 o3 o4 r] = true := by simp only [closedL, clRoll, Bool.and_self]
end
end Go.Proofs
