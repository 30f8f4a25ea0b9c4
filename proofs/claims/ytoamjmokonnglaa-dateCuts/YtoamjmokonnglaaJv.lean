/- What functions of the given program do in the ideal machine (J49, J50), and the plain laws of what they answer; the conditions stand in each theorem. -/
import Derived.Test.YtoamjmokonnglaaJt
import Derived.Test.YtoamjmokonnglaaJu
set_option linter.all false
set_option linter.unusedSectionVars false
set_option linter.unusedSimpArgs false
set_option linter.unusedVariables false
namespace Go.Proofs
open Go Go.Idl Go.Dt
set_option linter.unusedSimpArgs false
variable {b : Nat}
theorem goodK_mid {n : Nat} {K : Tb} (g : GoodK n K) {c : Nat} (hc : c < n) (h0 : 0 < n) {y : Int} (h1 : -K c 0 ≤ y) (h2 : y ≤ K 0 c) : ∃ w : Nat → Int, Sat n K w ∧ y ≤ w c - w 0 ∧ w c - w 0 ≤ y := by
  refine ⟨fun x => min (K 0 x) (y + K c x), fun a b ha hb => ?_, ?_⟩
  · have e1 := g.clos a 0 b ha h0 hb
    have e2 := g.clos a c b ha hc hb
    show min (K 0 b) (y + K c b) - min (K 0 a) (y + K c a) ≤ K a b
    omega
  · show y ≤ min (K 0 c) (y + K c c) - min (K 0 0) (y + K c 0) ∧ min (K 0 c) (y + K c c) - min (K 0 0) (y + K c 0) ≤ y
    have := g.zero c hc
    have := g.zero 0 h0
    omega
theorem mayB_with {n : Nat} {K : Tb} (g : GoodK n K) {c : Nat} (hc : c < n) (h0 : 0 < n) {y : Int} : mayB n (withK n K 0 c y y) = decide (-K c 0 ≤ y ∧ y ≤ K 0 c) := by
  rw [withK_ref]
  by_cases h : Diag n (refWith n K 0 c y y)
  · rw [mayB_iff.2 h]
    obtain ⟨g', hs⟩ := refWith_may g h0 hc h
    obtain ⟨v, _, hv⟩ := g'.some h0
    obtain ⟨hv1, hv2⟩ := (hs v).1 hv
    have e1 := hv1 0 c h0 hc
    have e2 := hv1 c 0 hc h0
    rw [decide_eq_true]
    omega
  · have hf : mayB n (refWith n K 0 c y y) = false := by
      cases e : mayB n (refWith n K 0 c y y) with
      | false => rfl
      | true => exact absurd (mayB_iff.1 e) h
    rw [hf, decide_eq_false]
    rintro ⟨h1, h2⟩
    obtain ⟨w, hw⟩ := goodK_mid g hc h0 h1 h2
    exact refWith_not g h0 hc h w hw
theorem alw_join {l : List (List Int)} (g : ∀ U ∈ l, GT U) (h : l ≠ []) {v : Nat} (hv : v < 10) {y : Int} : l.all (alwT v y) = decide ((joinT l v).1 = y ∧ (joinT l v).2 = y) := by
  obtain ⟨h1, ⟨U, hU, h2⟩, W, hW, h3⟩ := joinT_ends h (v := v)
  have hz : ∀ U ∈ l, -tb U v 0 ≤ tb U 0 v := fun U hU => by
    have a := (g U hU).good.clos v 0 0 hv (by omega) (by omega)
    have b := (g U hU).zero 0 (by omega)
    omega
  by_cases c : (joinT l v).1 = y ∧ (joinT l v).2 = y
  · rw [decide_eq_true c, List.all_eq_true]
    intro V hV
    have a1 := h1 V hV
    have a2 := hz V hV
    simp only [alwT, Bool.and_eq_true, decide_eq_true_eq]
    omega
  · rw [decide_eq_false c]
    cases e : l.all (alwT v y) with
    | false => rfl
    | true =>
      rw [List.all_eq_true] at e
      have a1 := e U hU
      have a2 := e W hW
      simp only [alwT, Bool.and_eq_true, decide_eq_true_eq] at a1 a2
      exact absurd ⟨by omega, by omega⟩ c
theorem nevT_iff {v : Nat} {y : Int} {U : List Int} : nevT v y U = true ↔ ¬ (-tb U v 0 ≤ y ∧ y ≤ tb U 0 v) := by
  simp only [nevT, Bool.not_eq_true', Bool.and_eq_false_iff, decide_eq_false_iff_not]
  omega
theorem all_get {l : List (List Int)} {p : List Int → Bool} (h : ∀ i, i < l.length → p l[i]! = true) : l.all p = true := by
  rw [List.all_eq_true]
  intro x hx
  obtain ⟨i, hi, rfl⟩ := List.getElem_of_mem hx
  rw [← get!_eq hi]; exact h i hi
theorem all_not {l : List (List Int)} {p : List Int → Bool} {i : Nat} (hi : i < l.length) (h : ¬ p l[i]! = true) : l.all p = false := by
  cases e : l.all p with
  | false => rfl
  | true => exact absurd (List.all_eq_true.1 e _ (get!_mem hi)) h
set_option maxRecDepth 10000 in
set_option maxHeartbeats 4000000 in
theorem cutR_to {d : Dt} {w y : Int} {o1 o2 : Option Bool} : Ans Try.prog (AA b) 42 [encD o1 o2 d, I w, I y] (fun v => v = .tup [I (cutV d w y).1, I (cutV d w y).2]) := by
  refine Ans_of Try.func42 rfl rfl ?_
  have and2 : ∀ {p q : Prop}, ¬ (p ∧ q) → p → ¬ q := fun h a c => h ⟨a, c⟩
  by_cases h1 : checkE d = 0
  case neg =>
    rw [cutV, if_pos h1]
    simp +contextual (maxSteps := 1000000) (disch := first | omega | (with_reducible first | refine krN ?_ | refine krS ?_ | refine krP ?_ | refine krG ?_); kernel_rfl | refine kr ?_; simp only [go_sem, reduceCtorEq, wc14, h1]; done | fail) only [go_sem, seval, -List.reduceReplicate, wc14, h1]
  have hd := checkE_ok.1 h1
  have hs6 := hd.stones
  have hw : IntKind.wrap .i64 (d.stones - 1) = d.stones - 1 := wrap_i64 (by omega) (by omega)
  by_cases h2 : 0 ≤ w ∧ w ≤ d.stones - 1
  case neg =>
    rw [cutV, if_neg (fun h => h h1), if_pos h2]
    have e : (decide (0 ≤ w) && decide (w ≤ d.stones - 1)) = false := by
      rw [Bool.and_eq_false_iff, decide_eq_false_iff_not, decide_eq_false_iff_not]; omega
    simp +contextual (maxSteps := 1000000) (disch := first | omega | (with_reducible first | refine krN ?_ | refine krS ?_ | refine krP ?_ | refine krG ?_); kernel_rfl | refine kr ?_; simp only [go_sem, reduceCtorEq, wc14, h1, hw, e]; done | fail) only [go_sem, seval, -List.reduceReplicate, wc14, h1, hw, e]
  have e1 : (decide (0 ≤ w) && decide (w ≤ d.stones - 1)) = true := inT h2
  by_cases h3 : -3000 ≤ y ∧ y ≤ 3000
  case neg =>
    rw [cutV, if_neg (fun h => h h1), if_neg (fun h => h h2), if_pos h3]
    have e : (decide (-3000 ≤ y) && decide (y ≤ 3000)) = false := by
      rw [Bool.and_eq_false_iff, decide_eq_false_iff_not, decide_eq_false_iff_not]; omega
    simp +contextual (maxSteps := 1000000) (disch := first | omega | (with_reducible first | refine krN ?_ | refine krS ?_ | refine krP ?_ | refine krG ?_); kernel_rfl | refine kr ?_; simp only [go_sem, reduceCtorEq, wc14, h1, hw, e1, e]; done | fail) only [go_sem, seval, -List.reduceReplicate, wc14, h1, hw, e1, e]
  have e2 : (decide (-3000 ≤ y) && decide (y ≤ 3000)) = true := inT h3
  rw [cutV, if_neg (fun h => h h1), if_neg (fun h => h h2), if_neg (fun h => h h3)]
  simp +contextual (maxSteps := 1000000) (disch := first | omega | (with_reducible first | refine krN ?_ | refine krS ?_ | refine krP ?_ | refine krG ?_); kernel_rfl | refine kr ?_; simp only [go_sem, reduceCtorEq, wc14, h1, hw, e1, e2]; done | fail) only [go_sem, seval, -List.reduceReplicate, wc14, h1, hw, e1, e2]
  refine wc_ans (by simp only [mkAnn, K74]) (rfAs (xs := [encD o1 o2 d]) (by simp only [closedL, clD, Bool.and_self])) foundR_to ?_
  intro v hv
  refine ⟨hv.cl, ?_⟩
  rcases hv with ⟨h4, rfl⟩ | ⟨h4, _, ks, o, hne, hE, rfl⟩
  · rw [if_pos h4]
    simp +contextual (maxSteps := 1000000) (disch := first | omega | (with_reducible first | refine krN ?_ | refine krS ?_ | refine krP ?_ | refine krG ?_); kernel_rfl | refine kr ?_; simp only [go_sem, reduceCtorEq, h4]; done | fail) only [go_sem, seval, -List.reduceReplicate, h4]
  rw [if_neg (fun h => h h4)]
  obtain ⟨q, rfl⟩ := Int.eq_ofNat_of_zero_le h2.1
  have hqw : IntKind.wrap .i64 (1 + (q : Int)) = ((1 + q : Nat) : Int) := by rw [wrap_i64 (by omega) (by omega)]; omega
  have hqp : 1 + q < ptsR d := by unfold ptsR; omega
  have hem : embR d (1 + q) = 1 + q := embR_st (by omega)
  have w75 := fun (m : Mem) (Q : Vl → Mem → Prop) => wc75 (b := b) (m := m) (Q := Q) (o := o) hd hne hE hqp
  rw [hem] at w75
  have hlt : tabsL d ≠ [] := fun e => by have := hE.len; rw [e] at this; exact hne (List.length_eq_zero_iff.1 this)
  rw [alw_join (tabs_GT hd) hlt (by omega), Int.toNat_natCast]
  by_cases hj : (joinT (tabsL d) (1 + q)).1 = y ∧ (joinT (tabsL d) (1 + q)).2 = y
  · have hv1 : ∀ N, verdT (decide ((joinT (tabsL d) (1 + q)).1 = y ∧ (joinT (tabsL d) (1 + q)).2 = y)) N = 1 := fun N => by rw [decide_eq_true hj]; rfl
    rw [hv1]
    simp +contextual (maxSteps := 1000000) (disch := first | omega | (with_reducible first | refine krN ?_ | refine krS ?_ | refine krP ?_ | refine krG ?_); kernel_rfl | refine kr ?_; simp only [go_sem, reduceCtorEq, hqw, w75, encS, eqS, hj, wc76]; done | fail) only [go_sem, seval, -List.reduceReplicate, hqw, w75, encS, eqS, hj, wc76]
  have hv1 : ∀ N, verdT (decide ((joinT (tabsL d) (1 + q)).1 = y ∧ (joinT (tabsL d) (1 + q)).2 = y)) N = if N then 2 else 3 := fun N => by rw [decide_eq_false hj]; rfl
  rw [hv1]
  simp +contextual (maxSteps := 1000000) (disch := first | omega | (with_reducible first | refine krN ?_ | refine krS ?_ | refine krP ?_ | refine krG ?_); kernel_rfl | refine kr ?_; simp only [go_sem, reduceCtorEq, hqw, w75, encS, eqS, hj, wc76]; done | fail) only [go_sem, seval, -List.reduceReplicate, hqw, w75, encS, eqS, hj, wc76]
  have hlen := hE.len
  have hlen2 := tabs_len hd
  have hp0 : 0 < ptsR d := by omega
  have hp10 : ptsR d ≤ 10 := by have := hd.eras_l; unfold ptsR; omega
  have hN : ∀ i, i < ks.length → mayB (ptsR d) (withK (ptsR d) ks[i]! 0 (1 + q) y y) = !nevT (1 + q) y (tabsL d)[i]! := fun i hi => by
    rw [mayB_with (hE.good i hi).1 hqp hp0]
    have a1 := hE.eq i hi (1 + q) 0 hqp hp0
    have a2 := hE.eq i hi 0 (1 + q) hp0 hqp
    rw [hem, embR_0] at a1 a2
    rw [a1, a2]
    by_cases c : -tb (tabsL d)[i]! (1 + q) 0 ≤ y ∧ y ≤ tb (tabsL d)[i]! 0 (1 + q)
    · rw [decide_eq_true c]
      cases e : nevT (1 + q) y (tabsL d)[i]! with
      | false => rfl
      | true => exact absurd c (nevT_iff.1 e)
    · rw [decide_eq_false c, nevT_iff.2 c]; rfl
  refine wp_loop_to ks.length (fun i st => ∃ ex, (∀ j, j < i → nevT (1 + q) y (tabsL d)[j]! = true) ∧ st = ({ sl := (1, I q) :: (2, I y) :: (9, .lst 1 (ks.map (kV (ptsR d))) o) :: (11, I i) :: ex, hp := noHeap, nx := 0 } : FS)) ?_ 0 (Nat.zero_le _) ⟨_, fun j h => absurd h (Nat.not_lt_zero _), rfl⟩
  rintro i st hi ⟨ex, hno, rfl⟩
  by_cases hc : i < ks.length
  · have g := hE.good i hc
    have w83 := fun (m : Mem) (Q : Vl → Mem → Prop) => wc83z (b := b) (lo := y) (hi := y) hp10 hqp g.1 g.2 (by omega) (by omega) (m := m) (Q := Q)
    have hNi := hN i hc
    cases e : nevT (1 + q) y (tabsL d)[i]! with
    | false =>
      rw [e] at hNi
      have hall : (tabsL d).all (nevT (1 + q) y) = false := all_not (show i < (tabsL d).length by omega) (by rw [e]; decide)
      rw [hall]
      simp +contextual (maxSteps := 1000000) (disch := first | omega | (with_reducible first | refine krN ?_ | refine krS ?_ | refine krP ?_ | refine krG ?_); kernel_rfl | refine kr ?_; simp only [go_sem, reduceCtorEq, Int.ofNat_lt, hc, ix_ks, List.length_map, wc76, hqw, w83, wc84, hp10, hNi]; done | fail) only [go_sem, seval, -List.reduceReplicate, Int.ofNat_lt, hc, ix_ks, List.length_map, wc76, hqw, w83, wc84, hp10, hNi]
    | true =>
      rw [e] at hNi
      simp +contextual (maxSteps := 1000000) (disch := first | omega | (with_reducible first | refine krN ?_ | refine krS ?_ | refine krP ?_ | refine krG ?_); kernel_rfl | refine kr ?_; simp only [go_sem, reduceCtorEq, Int.ofNat_lt, hc, ix_ks, List.length_map, wc76, hqw, w83, wc84, hp10, hNi]; done | fail) only [go_sem, seval, -List.reduceReplicate, Int.ofNat_lt, hc, ix_ks, List.length_map, wc76, hqw, w83, wc84, hp10, hNi]
      refine ⟨_, fun j hj => ?_, rfl⟩
      by_cases h : j < i
      · exact hno j h
      · obtain rfl : j = i := by omega
        exact e
  · have hie : i = ks.length := by omega
    subst hie
    have hall : (tabsL d).all (nevT (1 + q) y) = true := all_get fun j hj => hno j (by omega)
    rw [hall]
    simp +contextual (maxSteps := 1000000) (disch := first | omega | (with_reducible first | refine krN ?_ | refine krS ?_ | refine krP ?_ | refine krG ?_); kernel_rfl | refine kr ?_; simp only [go_sem, reduceCtorEq, Int.lt_irrefl, List.length_map]; done | fail) only [go_sem, seval, -List.reduceReplicate, Int.lt_irrefl, List.length_map]
set_option maxRecDepth 10000 in
set_option maxHeartbeats 4000000 in
theorem earR_to {d : Dt} {a c : Int} {o1 o2 : Option Bool} : Ans Try.prog (AA b) 43 [encD o1 o2 d, I a, I c] (fun v => v = .tup [I (earV d a c).1, I (earV d a c).2]) := by
  refine Ans_of Try.func43 rfl rfl ?_
  by_cases h1 : checkE d = 0
  case neg =>
    rw [earV, if_pos h1]
    simp +contextual (maxSteps := 1000000) (disch := first | omega | (with_reducible first | refine krN ?_ | refine krS ?_ | refine krP ?_ | refine krG ?_); kernel_rfl | refine kr ?_; simp only [go_sem, reduceCtorEq, wc14, h1]; done | fail) only [go_sem, seval, -List.reduceReplicate, wc14, h1]
  have hd := checkE_ok.1 h1
  have hs6 := hd.stones
  have hw : IntKind.wrap .i64 (d.stones - 1) = d.stones - 1 := wrap_i64 (by omega) (by omega)
  have inF : ∀ x : Int, ¬ (0 ≤ x ∧ x ≤ d.stones - 1) → (decide (0 ≤ x) && decide (x ≤ d.stones - 1)) = false := fun x h => by
    rw [Bool.and_eq_false_iff, decide_eq_false_iff_not, decide_eq_false_iff_not]; omega
  rw [earV, if_neg (fun h => h h1)]
  by_cases h2 : 0 ≤ a ∧ a ≤ d.stones - 1
  case neg =>
    rw [if_pos (fun h => h2 h.1)]
    have e := inF a h2
    simp +contextual (maxSteps := 1000000) (disch := first | omega | (with_reducible first | refine krN ?_ | refine krS ?_ | refine krP ?_ | refine krG ?_); kernel_rfl | refine kr ?_; simp only [go_sem, reduceCtorEq, wc14, h1, hw, e]; done | fail) only [go_sem, seval, -List.reduceReplicate, wc14, h1, hw, e]
  have e1 : (decide (0 ≤ a) && decide (a ≤ d.stones - 1)) = true := inT h2
  by_cases h3 : 0 ≤ c ∧ c ≤ d.stones - 1
  case neg =>
    rw [if_pos (fun h => h3 h.2)]
    have e := inF c h3
    simp +contextual (maxSteps := 1000000) (disch := first | omega | (with_reducible first | refine krN ?_ | refine krS ?_ | refine krP ?_ | refine krG ?_); kernel_rfl | refine kr ?_; simp only [go_sem, reduceCtorEq, wc14, h1, hw, e1, e]; done | fail) only [go_sem, seval, -List.reduceReplicate, wc14, h1, hw, e1, e]
  have e2 : (decide (0 ≤ c) && decide (c ≤ d.stones - 1)) = true := inT h3
  rw [if_neg (fun h => h ⟨h2, h3⟩)]
  simp +contextual (maxSteps := 1000000) (disch := first | omega | (with_reducible first | refine krN ?_ | refine krS ?_ | refine krP ?_ | refine krG ?_); kernel_rfl | refine kr ?_; simp only [go_sem, reduceCtorEq, wc14, h1, hw, e1, e2]; done | fail) only [go_sem, seval, -List.reduceReplicate, wc14, h1, hw, e1, e2]
  refine wc_ans (by simp only [mkAnn, K74]) (rfAs (xs := [encD o1 o2 d]) (by simp only [closedL, clD, Bool.and_self])) foundR_to ?_
  intro v hv
  refine ⟨hv.cl, ?_⟩
  rcases hv with ⟨h4, rfl⟩ | ⟨h4, _, ks, o, hne, hE, rfl⟩
  · rw [if_pos h4]
    simp +contextual (maxSteps := 1000000) (disch := first | omega | (with_reducible first | refine krN ?_ | refine krS ?_ | refine krP ?_ | refine krG ?_); kernel_rfl | refine kr ?_; simp only [go_sem, reduceCtorEq, h4]; done | fail) only [go_sem, seval, -List.reduceReplicate, h4]
  rw [if_neg (fun h => h h4)]
  obtain ⟨p, rfl⟩ := Int.eq_ofNat_of_zero_le h2.1
  obtain ⟨q, rfl⟩ := Int.eq_ofNat_of_zero_le h3.1
  have hpw : IntKind.wrap .i64 (1 + (p : Int)) = ((1 + p : Nat) : Int) := by rw [wrap_i64 (by omega) (by omega)]; omega
  have hqw : IntKind.wrap .i64 (1 + (q : Int)) = ((1 + q : Nat) : Int) := by rw [wrap_i64 (by omega) (by omega)]; omega
  have hpp : 1 + p < ptsR d := by unfold ptsR; omega
  have hqp : 1 + q < ptsR d := by unfold ptsR; omega
  have hep : embR d (1 + p) = 1 + p := embR_st (by omega)
  have heq : embR d (1 + q) = 1 + q := embR_st (by omega)
  have hlen := hE.len
  have hlen2 := tabs_len hd
  rw [Int.toNat_natCast, Int.toNat_natCast]
  have hB : ∀ i, i < ks.length → befT (1 + p) (1 + q) (tabsL d)[i]! = decide (¬ 0 ≤ (ks[i]!) (1 + q) (1 + p)) := fun i hi => by
    have a1 := hE.eq i hi (1 + q) (1 + p) hqp hpp
    rw [hep, heq] at a1
    rw [a1]; unfold befT
    apply decide_eq_decide.2; omega
  have hN : ∀ i, i < ks.length → notT (1 + p) (1 + q) (tabsL d)[i]! = decide (¬ 1 ≤ (ks[i]!) (1 + p) (1 + q)) := fun i hi => by
    have a1 := hE.eq i hi (1 + p) (1 + q) hpp hqp
    rw [hep, heq] at a1
    rw [a1]; unfold notT
    apply decide_eq_decide.2; omega
  simp +contextual (maxSteps := 1000000) (disch := first | omega | (with_reducible first | refine krN ?_ | refine krS ?_ | refine krP ?_ | refine krG ?_); kernel_rfl | refine kr ?_; simp only [go_sem, reduceCtorEq]; done | fail) only [go_sem, seval, -List.reduceReplicate]
  generalize tabsL d = l at hlen hlen2 hB hN ⊢
  have key : ∀ i, i < ks.length → (l.take (i + 1)).all (befT (1 + p) (1 + q)) = ((l.take i).all (befT (1 + p) (1 + q)) && befT (1 + p) (1 + q) l[i]!) ∧ (l.take (i + 1)).all (notT (1 + p) (1 + q)) = ((l.take i).all (notT (1 + p) (1 + q)) && notT (1 + p) (1 + q) l[i]!) := fun i hi => by
    rw [take_snoc (show i < l.length by omega)]
    exact ⟨all_snoc, all_snoc⟩
  refine wp_loop_to ks.length (fun i st => ∃ ex, st = ({ sl := (1, I p) :: (2, I q) :: (9, .lst 1 (ks.map (kV (ptsR d))) o) :: (11, .bool (!(l.take i).all (notT (1 + p) (1 + q)))) :: (12, .bool (!(l.take i).all (befT (1 + p) (1 + q)))) :: (13, I i) :: ex, hp := noHeap, nx := 0 } : FS)) ?_ 0 (Nat.zero_le _) ⟨_, rfl⟩
  rintro i st hi ⟨ex, rfl⟩
  by_cases hc : i < ks.length
  · obtain ⟨k1, k2⟩ := key i hc
    rw [hB i hc] at k1
    rw [hN i hc] at k2
    rw [k1, k2]
    cases u1 : (l.take i).all (befT (1 + p) (1 + q)) <;> cases u2 : (l.take i).all (notT (1 + p) (1 + q)) <;> by_cases v1 : 0 ≤ (ks[i]!) (1 + q) (1 + p) <;> by_cases v2 : 1 ≤ (ks[i]!) (1 + p) (1 + q) <;>
    · simp +contextual (maxSteps := 1000000) (disch := first | omega | (with_reducible first | refine krN ?_ | refine krS ?_ | refine krP ?_ | refine krG ?_); kernel_rfl | refine kr ?_; simp only [go_sem, reduceCtorEq, Int.ofNat_lt, hc, ix_ks, ix_rng, ix_rowK, hpp, hqp, List.length_map, List.length_range, wc76, hpw, hqw, v1, v2]; done | fail) only [go_sem, seval, -List.reduceReplicate, Int.ofNat_lt, hc, ix_ks, ix_rng, ix_rowK, hpp, hqp, List.length_map, List.length_range, wc76, hpw, hqw, v1, v2]
      exact ⟨_, rfl⟩
  · have hie : i = ks.length := by omega
    subst hie
    have htl : l.take ks.length = l := by rw [hlen, List.take_length]
    rw [htl]
    cases u1 : l.all (befT (1 + p) (1 + q)) <;> cases u2 : l.all (notT (1 + p) (1 + q)) <;>
    · simp +contextual (maxSteps := 1000000) (disch := first | omega | (with_reducible first | refine krN ?_ | refine krS ?_ | refine krP ?_ | refine krG ?_); kernel_rfl | refine kr ?_; simp only [go_sem, reduceCtorEq, Int.lt_irrefl, List.length_map]; done | fail) only [go_sem, seval, -List.reduceReplicate, Int.lt_irrefl, List.length_map]
      rfl
section
variable {m : Mem} {K : Vl → Mem → Prop}
theorem wc42 {d : Dt} {o1 o2 : Option Bool} {w y : Int} : WC Try.prog (AA b) (.fn (.func 42) [] []) [.v (encD o1 o2 d), .v (.int .i64 w), .v (.int .i64 y)] m K = K (.tup [I (cutV d w y).1, I (cutV d w y).2]) m :=
  WC_flat (by simp only [mkAnn, K42]) (rfAs (xs := [encD o1 o2 d, I w, I y]) (by simp only [closedL, clD]; rfl)) cutR_to rfl
theorem wc43 {d : Dt} {o1 o2 : Option Bool} {a c : Int} : WC Try.prog (AA b) (.fn (.func 43) [] []) [.v (encD o1 o2 d), .v (.int .i64 a), .v (.int .i64 c)] m K = K (.tup [I (earV d a c).1, I (earV d a c).2]) m :=
  WC_flat (by simp only [mkAnn, K43]) (rfAs (xs := [encD o1 o2 d, I a, I c]) (by simp only [closedL, clD]; rfl)) earR_to rfl
end
end Go.Proofs
namespace Go.Proofs
open Go Go.Idl Go.Dt
set_option linter.unusedSimpArgs false
variable {b : Nat}
theorem cut_copy {d : Dt} {w y : Int} : cutV (copyD d) w y = cutV d w y := by
  unfold cutV
  rw [check_copy, found_copy, tabs_copy]; rfl
theorem ear_copy {d : Dt} {a c : Int} : earV (copyD d) a c = earV d a c := by
  unfold earV
  rw [check_copy, found_copy, tabs_copy]; rfl
set_option maxRecDepth 10000 in
set_option maxHeartbeats 4000000 in
theorem cuts8_to {d : Dt} {sn yn an cn : Int} {xs : List Int} (hn : xs.length ≤ 9223372036854775807) {o1 o2 o : Option Bool} : Ans Try.prog (AA 2) 8 [encD o1 o2 d, I sn, I yn, I an, I cn, SL 1 (xs.map I) o] (fun v => v = .bool true) := by
  refine Ans_of Try.func8 rfl rfl ?_
  simp +contextual (maxSteps := 1000000) (disch := first | omega | (with_reducible first | refine krN ?_ | refine krS ?_ | refine krP ?_ | refine krG ?_); kernel_rfl | refine kr ?_; simp only [go_sem, reduceCtorEq]; done | fail) only [go_sem, seval, -List.reduceReplicate]
  refine wc_ans (by simp only [mkAnn, K13]) (rfAs (xs := [encD o1 o2 d]) (by simp only [closedL, clD, Bool.and_self])) large_to ?_
  rintro v ⟨r, rfl, hr⟩
  refine ⟨rfl, ?_⟩
  cases r with
  | true => simp +contextual (maxSteps := 1000000) (disch := first | omega | (with_reducible first | refine krN ?_ | refine krS ?_ | refine krP ?_ | refine krG ?_); kernel_rfl | refine kr ?_; simp only [go_sem, reduceCtorEq, wc15]; done | fail) only [go_sem, seval, -List.reduceReplicate, wc15]
  | false =>
  have hds := hr rfl
  clear hr
  simp +contextual (maxSteps := 1000000) (disch := first | omega | (with_reducible first | refine krN ?_ | refine krS ?_ | refine krP ?_ | refine krG ?_); kernel_rfl | refine kr ?_; simp only [go_sem, reduceCtorEq]; done | fail) only [go_sem, seval, -List.reduceReplicate]
  refine wc_heap (by rfl) rfl (newUrn_to (b := 2) hn) ?_
  rintro v hp' nx' ⟨rfl, rfl, s, rfl⟩
  simp +contextual (maxSteps := 1000000) (disch := first | omega | (with_reducible first | refine krN ?_ | refine krS ?_ | refine krP ?_ | refine krG ?_); kernel_rfl | refine kr ?_; simp only [go_sem, reduceCtorEq]; done | fail) only [go_sem, seval, -List.reduceReplicate]
  refine wc_heap (by rfl) rfl (datingOf_to (b := 2) (s := s) (S := 4) (N := 6) (far := 12) (by decide) (by decide) (by first | decide | assumption)) ?_
  rintro v hp' nx' ⟨s, base, st, es, ns, ys, fs, g, hM, rfl, rfl, hn5⟩
  have r1 := rfd1 (s := s) (es := es) (ns := ns) (ys := ys) (fs := fs) (g := g)
  have r2 := rfd2 (s := s) (es := es) (ns := ns) (ys := ys) (fs := fs) (g := g)
  have r3 : reify (killHp [1, 2] (HPd ⟨s, es, ns, ys, fs⟩ g)) (.own 3 ys.length) = some (.lst 1 (ys.map I) false, [3]) := reify_flat (.inl rfl) rfl fun _ => rfl
  have r4 : reify (killHp [1, 2] (HPd ⟨s, es, ns, ys, fs⟩ g)) (.own 4 fs.length) = some (.lst 1 (fs.map I) false, [4]) := reify_flat (.inl rfl) rfl fun _ => rfl
  simp +contextual (maxSteps := 1000000) (disch := first | omega | (with_reducible first | refine krN ?_ | refine krS ?_ | refine krP ?_ | refine krG ?_); kernel_rfl | refine kr ?_; simp only [go_sem, reduceCtorEq, r1, r2, r3, r4]; done | fail) only [go_sem, seval, -List.reduceReplicate, r1, r2, r3, r4]
  clear r1 r2 r3 r4
  have hu : killHp [3, 4] (killHp [1, 2] (HPd ⟨s, es, ns, ys, fs⟩ g)) 0 = urnO s := rfl
  generalize killHp [3, 4] (killHp [1, 2] (HPd ⟨s, es, ns, ys, fs⟩ g)) = hk at hu
  rw [upd_urn hu]
  have hd := hM.dtok (by decide) (by decide)
  have hw := hM.truth (by decide) (by omega)
  obtain ⟨D, hD⟩ : ∃ D : Dt, D = ⟨st, es, ns⟩ := ⟨_, rfl⟩
  have e1 : Vl.agg [.int .i64 st, .lst 2 (es.map encS) false, .lst 6 (ns.map encN) false] = encD (some false) (some false) D := by rw [hD]; rfl
  have hDs : D.stones = st := by rw [hD]
  have hDe : D.eras = es := by rw [hD]
  have hDn : D.notes = ns := by rw [hD]
  rw [e1]
  rw [← hD] at hd hw
  clear e1 hD
  obtain ⟨hne, hf0, hc0⟩ := tabs_some hd hw
  have hst := hM.st_b
  have hyl := hM.ys_l
  have hfl := hM.fs_l
  have hel := hM.es_l
  have hbs := hM.bs
  have hnl := hM.ns_l
  have hL : D.stones.toNat = ys.length := by omega
  have hL' : ((ys.length : Nat) : Int) = D.stones := by omega
  have hEl : D.eras.length = fs.length := by rw [hDe, hfl]
  have hM' := hM.ys_b
  clear hM hw hfl hbs hEl hL hel
  subst hDs
  have a1 := upR_b s (n := D.stones) (by omega)
  generalize hK : upR s D.stones = k at a1
  generalize hs1 : upS s D.stones = s1
  obtain ⟨k, rfl⟩ := Int.eq_ofNat_of_zero_le a1.1
  have hkl : k < ys.length := by omega
  have b1 := fromR_b s1 (lo := -4) (hi := 4) (by omega) (by omega) (by omega) (by omega)
  generalize hA : fromR s1 (-4) 4 = f at b1
  generalize hs2 : fromS s1 (-4) 4 = s2
  generalize hP1 : upR s2 D.stones = p1
  generalize hs3 : upS s2 D.stones = s3
  generalize hP2 : upR s3 D.stones = p2
  generalize hs4 : upS s3 D.stones = s4
  have hyi := hM' _ (get!_mem hkl)
  simp +contextual (maxSteps := 1000000) (disch := first | omega | (with_reducible first | refine krN ?_ | refine krS ?_ | refine krP ?_ | refine krG ?_); kernel_rfl | refine kr ?_; simp only [go_sem, reduceCtorEq, hK, hs1, hA, hs2, hP1, hs3, hP2, hs4, upd_upd, hkl, ix_lst]; done | fail) only [go_sem, seval, -List.reduceReplicate, hK, hs1, hA, hs2, hP1, hs3, hP2, hs4, upd_upd, hkl, ix_lst]
  have hF : ∀ x ∈ [(⟨o1, o2, d⟩ : FD), ⟨some false, some false, D⟩, ⟨some false, some false, D⟩, ⟨some false, some false, D⟩], smallD x.d := by
    intro x hx
    simp only [List.mem_cons, List.not_mem_nil, or_false] at hx
    rcases hx with rfl | rfl | rfl | rfl
    · exact hds
    · exact small_ok hd
    · exact small_ok hd
    · exact small_ok hd
  obtain ⟨Fs, hFs⟩ : ∃ Fs, Fs = [(⟨o1, o2, d⟩ : FD), ⟨some false, some false, D⟩, ⟨some false, some false, D⟩, ⟨some false, some false, D⟩] := ⟨_, rfl⟩
  obtain ⟨S1, hS1⟩ : ∃ S1 : List Int, S1 = [sn, k, k, sn] := ⟨_, rfl⟩
  obtain ⟨Y1, hY1⟩ : ∃ S1 : List Int, S1 = [yn, ys[k]!, IntKind.i64.wrap (ys[k]! + f), yn] := ⟨_, rfl⟩
  obtain ⟨A1, hA1⟩ : ∃ S1 : List Int, S1 = [an, p1, an, k] := ⟨_, rfl⟩
  obtain ⟨B1, hB1⟩ : ∃ S1 : List Int, S1 = [cn, p2, k, cn] := ⟨_, rfl⟩
  have hl0 : Fs.length = 4 := by rw [hFs]; rfl
  have hl1 : S1.length = 4 := by rw [hS1]; rfl
  have hl2 : Y1.length = 4 := by rw [hY1]; rfl
  have hl3 : A1.length = 4 := by rw [hA1]; rfl
  have hl4 : B1.length = 4 := by rw [hB1]; rfl
  rw [← hFs] at hF
  generalize upd hk 0 _ = hq
  refine wp_loop_to 4 (fun i st => ∃ (h : Nat → Ob) (nq : Nat) (ex : List (Nat × Vl)), st = ({ sl := (17, .lst 3 (Fs.map encF) true) :: (18, .lst 1 (S1.map I) true) :: (19, .lst 1 (Y1.map I) true) :: (20, .lst 1 (A1.map I) true) :: (21, .lst 1 (B1.map I) true) :: (22, I i) :: ex, hp := h, nx := nq } : FS)) ?_ 0 (Nat.zero_le _) ⟨_, _, [], by rw [hFs, hS1, hY1, hA1, hB1]; rfl⟩
  clear hS1 hY1 hA1 hB1 hFs hs4 hs3 hs2 hs1 hK hA hP1 hP2
  rintro i st hi ⟨h, nq, ex, rfl⟩
  by_cases hc : i < 4
  case neg =>
    have hie : i = 4 := by omega
    subst hie
    simp +contextual (maxSteps := 1000000) (disch := first | omega | (with_reducible first | refine krN ?_ | refine krS ?_ | refine krP ?_ | refine krG ?_); kernel_rfl | refine kr ?_; simp only [go_sem, reduceCtorEq, hl0, Int.lt_irrefl, List.length_map, wc15]; done | fail) only [go_sem, seval, -List.reduceReplicate, hl0, Int.lt_irrefl, List.length_map, wc15]
  have c0 : i < Fs.length := by omega
  have hsm := hF _ (get!_mem c0)
  obtain ⟨x, hx⟩ : ∃ x, Fs[i]! = x := ⟨_, rfl⟩
  obtain ⟨p1, p2, e⟩ := x
  rw [hx] at hsm
  obtain ⟨k1, k2, k3⟩ := hsm
  dsimp only at k1 k2 k3
  have hc' : (i : Int) < 4 := by omega
  simp +contextual (maxSteps := 1000000) (disch := first | omega | (with_reducible first | refine krN ?_ | refine krS ?_ | refine krP ?_ | refine krG ?_); kernel_rfl | refine kr ?_; simp only [go_sem, reduceCtorEq, hc', hc, hl0, ix_lst, hx, encF, List.length_map]; done | fail) only [go_sem, seval, -List.reduceReplicate, hc', hc, hl0, ix_lst, hx, encF, List.length_map]
  refine wc_heap (by rfl) rfl (copy_to (b := 2) (d := e) (o1 := p1) (o2 := p2) (by omega) (by omega) (fun n hn => by have := k3 n hn; omega)) ?_
  rintro v hp3 nx3 ⟨rfl, q1, q2, q3, q4⟩
  obtain ⟨r1, r2⟩ := rf_copy q1 q2
  have w24 := fun (o3 o4 : Option Bool) (m : Mem) (K : Vl → Mem → Prop) => wc24 (b := 2) (d := e) ⟨k1, k2, k3⟩ (o1 := some false) (o2 := some false) (o3 := o3) (o4 := o4) (m := m) (K := K)
  dsimp only at r1 r2
  have w41 := fun (w y : Int) (m : Mem) (K : Vl → Mem → Prop) => wc41 (b := 2) (d := copyD e) (o1 := some false) (o2 := some false) (w := w) (y := y) (m := m) (K := K)
  have w31 := fun (a c : Int) (m : Mem) (K : Vl → Mem → Prop) => wc31 (b := 2) (d := copyD e) (o1 := some false) (o2 := some false) (a := a) (c := c) (m := m) (K := K)
  simp only [cut_copy] at w41
  simp only [ear_copy] at w31
  simp +contextual (maxSteps := 1000000) (disch := first | omega | (with_reducible first | refine krN ?_ | refine krS ?_ | refine krP ?_ | refine krG ?_); kernel_rfl | refine kr ?_; simp only [go_sem, reduceCtorEq, r1, r2, ix_lst, hl1, hl2, hc, hc']; done | fail) only [go_sem, seval, -List.reduceReplicate, r1, r2, ix_lst, hl1, hl2, hc, hc']
  rw [encD_copy]
  clear r1 r2 q1 q2 q3 q4
  generalize copyD e = Y at w24 w41 w31
  simp +contextual (maxSteps := 1000000) (disch := first | omega | (with_reducible first | refine krN ?_ | refine krS ?_ | refine krP ?_ | refine krG ?_); kernel_rfl | refine kr ?_; simp only [go_sem, reduceCtorEq, w41, w31, wc42, wc43, w24, ix_lst, hl0, hl1, hl2, hl3, hl4, hc, hc', hx, encF, List.length_map]; done | fail) only [go_sem, seval, -List.reduceReplicate, w41, w31, wc42, wc43, w24, ix_lst, hl0, hl1, hl2, hl3, hl4, hc, hc', hx, encF, List.length_map]
  exact ⟨_, _, _, rfl⟩
end Go.Proofs
