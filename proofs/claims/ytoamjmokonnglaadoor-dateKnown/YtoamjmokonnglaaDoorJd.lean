/- What functions of the given program do in the ideal machine (J10, J11), and the plain laws of what they answer; the conditions stand in each theorem. -/
import Derived.Test.YtoamjmokonnglaaDoorJc
set_option linter.all false
set_option linter.unusedSectionVars false
set_option linter.unusedSimpArgs false
set_option linter.unusedVariables false
namespace Go.Proofs
open Go Go.Idl Go.Dt
set_option linter.unusedSimpArgs false
variable {b : Nat}
theorem eqS {a c x y : Int} {z : Vl} {k : TK} : binOpV { ok := true, agg := true, size := 2, zero := z, flat := some [CK.i, CK.i], k := k } .eql (.agg [.int .i64 a, .int .i64 c]) (.agg [.int .i64 x, .int .i64 y]) = some (.bool (D (a = x ∧ c = y))) := by
  show some (Vl.bool ((a == x) && ((c == y) && true))) = _
  rw [D_dec]
  by_cases h1 : a = x <;> by_cases h2 : c = y <;> simp [h1, h2]
theorem neS {a c x y : Int} {z : Vl} {k : TK} : binOpV { ok := true, agg := true, size := 2, zero := z, flat := some [CK.i, CK.i], k := k } .neq (.agg [.int .i64 a, .int .i64 c]) (.agg [.int .i64 x, .int .i64 y]) = some (.bool (D (¬ (a = x ∧ c = y)))) := by
  show some (Vl.bool (!((a == x) && ((c == y) && true)))) = _
  rw [D_dec]
  by_cases h1 : a = x <;> by_cases h2 : c = y <;> simp [h1, h2]
attribute [go_sem] eqS neS
theorem years_to {n : Nt} : Ans Tryd.prog (AA b) 37 [encN n] (fun v => v = I (yearsE n)) := by
  refine Ans_of Tryd.func37 rfl rfl ?_
  by_cases h1 : n.other = 0
  · by_cases h2 : n.lo = 0 ∧ n.hi = 0
    · by_cases h3 : n.ys.length = 0
      · have h3' : (n.ys.length : Int) = 0 := by omega
        simp +contextual (maxSteps := 1000000) (disch := first | omega | (with_reducible first | refine krN ?_ | refine krS ?_ | refine krP ?_ | refine krG ?_); kernel_rfl | refine kr ?_; simp only [go_sem, reduceCtorEq, h1, h2, h3, h3']; done | fail) only [go_sem, seval, -List.reduceReplicate, h1, h2, h3, h3']
        rw [yearsE, if_neg (by simp [h1, h2]), if_pos h3]
      · have h3' : ¬ (n.ys.length : Int) = 0 := by omega
        by_cases h4 : 3 < n.ys.length
        · have h4' : 3 < (n.ys.length : Int) := by omega
          simp +contextual (maxSteps := 1000000) (disch := first | omega | (with_reducible first | refine krN ?_ | refine krS ?_ | refine krP ?_ | refine krG ?_); kernel_rfl | refine kr ?_; simp only [go_sem, reduceCtorEq, h1, h2, h3', h4']; done | fail) only [go_sem, seval, -List.reduceReplicate, h1, h2, h3', h4']
          rw [yearsE, if_neg (by simp [h1, h2]), if_neg h3, if_pos h4]
        · have h4' : ¬ 3 < (n.ys.length : Int) := by omega
          simp +contextual (maxSteps := 1000000) (disch := first | omega | (with_reducible first | refine krN ?_ | refine krS ?_ | refine krP ?_ | refine krG ?_); kernel_rfl | refine kr ?_; simp only [go_sem, reduceCtorEq, h1, h2, h3', h4']; done | fail) only [go_sem, seval, -List.reduceReplicate, h1, h2, h3', h4']
          have hE : yearsE n = ysE (-4000) n.ys := by rw [yearsE, if_neg (by simp [h1, h2]), if_neg h3, if_neg h4]
          rw [hE]
          refine wp_loop_to n.ys.length (fun i st => ∃ ex, ysE (-4000) n.ys = ysE (if i = 0 then -4000 else n.ys[i - 1]!) (n.ys.drop i) ∧ st = ({ sl := (1, .loc (.agg [I n.kind, I n.stone, I 0, SL 1 (n.ys.map I) n.fl, I 0, I 0])) :: (24, SL 1 (n.ys.map I) n.fl) :: (25, I n.ys.length) :: (26, I i) :: ex, hp := noHeap, nx := 0 } : FS)) ?_ 0 (Nat.zero_le _) ⟨_, by rw [if_pos rfl, List.drop_zero], rfl⟩
          rintro i st hi ⟨ex, hI, rfl⟩
          by_cases hc : i < n.ys.length
          · have hd : n.ys.drop i = n.ys[i]! :: n.ys.drop (i + 1) := by rw [get!_eq hc]; exact (List.getElem_cons_drop hc).symm
            rw [hd, ysE] at hI
            have hc0 : (i : Int) < n.ys.length := by omega
            by_cases k1 : -3000 ≤ n.ys[i]!
            · by_cases k2 : n.ys[i]! ≤ 3000
              · rw [if_neg (fun h => h ⟨k1, k2⟩)] at hI
                by_cases k0 : i = 0
                · subst k0
                  rw [if_pos rfl, if_neg (by omega)] at hI
                  have hc1 : (0 : Int) < n.ys.length := by omega
                  simp +contextual (maxSteps := 1000000) (disch := first | omega | (with_reducible first | refine krN ?_ | refine krS ?_ | refine krP ?_ | refine krG ?_); kernel_rfl | refine kr ?_; simp only [go_sem, reduceCtorEq, hc1, hc, ix_map, k1, k2]; done | fail) only [go_sem, seval, -List.reduceReplicate, hc1, hc, ix_map, k1, k2]
                  exact ⟨_, by rw [hI], rfl⟩
                · rw [if_neg k0] at hI
                  have k0' : 0 < (i : Int) := by omega
                  have k0n : 0 < i := by omega
                  have k3' : i - 1 < n.ys.length := by omega
                  by_cases k3 : n.ys[i]! ≤ n.ys[i - 1]!
                  · rw [if_pos k3] at hI
                    rw [hI]
                    simp +contextual (maxSteps := 1000000) (disch := first | omega | (with_reducible first | refine krN ?_ | refine krS ?_ | refine krP ?_ | refine krG ?_); kernel_rfl | refine kr ?_; simp only [go_sem, reduceCtorEq, hc0, hc, ix_map, k1, k2, k0', k3, k3']; done | fail) only [go_sem, seval, -List.reduceReplicate, hc0, hc, ix_map, k1, k2, k0', k3, k3']
                  · rw [if_neg k3] at hI
                    simp +contextual (maxSteps := 1000000) (disch := first | omega | (with_reducible first | refine krN ?_ | refine krS ?_ | refine krP ?_ | refine krG ?_); kernel_rfl | refine kr ?_; simp only [go_sem, reduceCtorEq, hc0, hc, ix_map, k1, k2, k0', k3, k3']; done | fail) only [go_sem, seval, -List.reduceReplicate, hc0, hc, ix_map, k1, k2, k0', k3, k3']
                    exact ⟨_, by rw [hI], rfl⟩
              · rw [if_pos (fun h => k2 h.2)] at hI
                rw [hI]
                simp +contextual (maxSteps := 1000000) (disch := first | omega | (with_reducible first | refine krN ?_ | refine krS ?_ | refine krP ?_ | refine krG ?_); kernel_rfl | refine kr ?_; simp only [go_sem, reduceCtorEq, hc0, hc, ix_map, k1, k2]; done | fail) only [go_sem, seval, -List.reduceReplicate, hc0, hc, ix_map, k1, k2]
            · rw [if_pos (fun h => k1 h.1)] at hI
              rw [hI]
              simp +contextual (maxSteps := 1000000) (disch := first | omega | (with_reducible first | refine krN ?_ | refine krS ?_ | refine krP ?_ | refine krG ?_); kernel_rfl | refine kr ?_; simp only [go_sem, reduceCtorEq, hc0, hc, ix_map, k1]; done | fail) only [go_sem, seval, -List.reduceReplicate, hc0, hc, ix_map, k1]
          · have hie : i = n.ys.length := by omega
            rw [List.drop_of_length_le (by omega), ysE] at hI
            have hc0 : ¬ (i : Int) < n.ys.length := by omega
            rw [hI]
            simp +contextual (maxSteps := 1000000) (disch := first | omega | (with_reducible first | refine krN ?_ | refine krS ?_ | refine krP ?_ | refine krG ?_); kernel_rfl | refine kr ?_; simp only [go_sem, reduceCtorEq, hc0]; done | fail) only [go_sem, seval, -List.reduceReplicate, hc0]
    · simp +contextual (maxSteps := 1000000) (disch := first | omega | (with_reducible first | refine krN ?_ | refine krS ?_ | refine krP ?_ | refine krG ?_); kernel_rfl | refine kr ?_; simp only [go_sem, reduceCtorEq, h1, h2]; done | fail) only [go_sem, seval, -List.reduceReplicate, h1, h2]
      rw [yearsE, if_pos (.inr h2)]
  · simp +contextual (maxSteps := 1000000) (disch := first | omega | (with_reducible first | refine krN ?_ | refine krS ?_ | refine krP ?_ | refine krG ?_); kernel_rfl | refine kr ?_; simp only [go_sem, reduceCtorEq, h1]; done | fail) only [go_sem, seval, -List.reduceReplicate, h1]
    rw [yearsE, if_pos (.inl h1)]
section
variable {m : Mem} {K : Vl → Mem → Prop}
theorem wc37 {n : Nt} : WC Tryd.prog (AA b) (.fn (.func 37) [] []) [.v (encN n)] m K = K (I (yearsE n)) m :=
  WC_closed (by simp only [mkAnn, K37]) (rfAs (xs := [encN n]) (by simp only [closedL, clN, Bool.and_self])) rfl years_to
end
theorem note_to {d : Dt} {n : Nt} {o1 o2 : Option Bool} (hs6 : 1 ≤ d.stones ∧ d.stones ≤ 6) (he : d.eras.length ≤ 3) : Ans Tryd.prog (AA b) 19 [encD o1 o2 d, encN n] (fun v => v = I (noteE d n)) := by
  refine Ans_of Tryd.func19 rfl rfl ?_
  have hw : IntKind.wrap .i64 (d.stones - 1) = d.stones - 1 := wrap_i64 (by omega) (by omega)
  have hwe : IntKind.wrap .i64 ((d.eras.length : Int) - 1) = (d.eras.length : Int) - 1 := wrap_i64 (by omega) (by omega)
  have and2 : ∀ {p q : Prop}, ¬ (p ∧ q) → p → ¬ q := fun h a c => h ⟨a, c⟩
  by_cases h1 : 1 ≤ n.kind ∧ n.kind ≤ 4
  case neg =>
    rw [noteE, if_pos h1]
    by_cases k : 1 ≤ n.kind
    · have := and2 h1 k
      simp +contextual (maxSteps := 1000000) (disch := first | omega | (with_reducible first | refine krN ?_ | refine krS ?_ | refine krP ?_ | refine krG ?_); kernel_rfl | refine kr ?_; simp only [go_sem, reduceCtorEq, k, this]; done | fail) only [go_sem, seval, -List.reduceReplicate, k, this]
    · simp +contextual (maxSteps := 1000000) (disch := first | omega | (with_reducible first | refine krN ?_ | refine krS ?_ | refine krP ?_ | refine krG ?_); kernel_rfl | refine kr ?_; simp only [go_sem, reduceCtorEq, k]; done | fail) only [go_sem, seval, -List.reduceReplicate, k]
  by_cases h2 : 0 ≤ n.stone ∧ n.stone ≤ d.stones - 1
  case neg =>
    rw [noteE, if_neg (fun h => h h1), if_pos h2]
    by_cases k : 0 ≤ n.stone
    · have := and2 h2 k
      simp +contextual (maxSteps := 1000000) (disch := first | omega | (with_reducible first | refine krN ?_ | refine krS ?_ | refine krP ?_ | refine krG ?_); kernel_rfl | refine kr ?_; simp only [go_sem, reduceCtorEq, h1, hw, k, this]; done | fail) only [go_sem, seval, -List.reduceReplicate, h1, hw, k, this]
    · simp +contextual (maxSteps := 1000000) (disch := first | omega | (with_reducible first | refine krN ?_ | refine krS ?_ | refine krP ?_ | refine krG ?_); kernel_rfl | refine kr ?_; simp only [go_sem, reduceCtorEq, h1, hw, k]; done | fail) only [go_sem, seval, -List.reduceReplicate, h1, hw, k]
  rw [noteE, if_neg (fun h => h h1), if_neg (fun h => h h2)]
  by_cases k1 : n.kind = 1
  · rw [if_pos k1]
    have h2b := h2.2
    have e := fun (m : Mem) (K : Vl → Mem → Prop) => wc37 (b := b) (m := m) (K := K) (n := n)
    rw [encN, k1] at e
    simp +contextual (maxSteps := 1000000) (disch := first | omega | (with_reducible first | refine krN ?_ | refine krS ?_ | refine krP ?_ | refine krG ?_); kernel_rfl | refine kr ?_; simp only [go_sem, reduceCtorEq, k1, hw, h2, h2b, e]; done | fail) only [go_sem, seval, -List.reduceReplicate, k1, hw, h2, h2b, e]
  rw [if_neg k1]
  have hyl : ∀ p : Prop, (0 < (n.ys.length : Int)) = (0 < n.ys.length) := fun _ => propext (by omega)
  by_cases k2 : n.kind = 2
  · rw [if_pos k2]
    by_cases k3 : n.other = 0
    · by_cases k4 : 0 < n.ys.length
      · have k4' : 0 < (n.ys.length : Int) := by omega
        rw [if_pos (.inr k4)]
        simp +contextual (maxSteps := 1000000) (disch := first | omega | (with_reducible first | refine krN ?_ | refine krS ?_ | refine krP ?_ | refine krG ?_); kernel_rfl | refine kr ?_; simp only [go_sem, reduceCtorEq, k2, hw, h2, k3, k4']; done | fail) only [go_sem, seval, -List.reduceReplicate, k2, hw, h2, k3, k4']
      · have k4' : ¬ 0 < (n.ys.length : Int) := by omega
        rw [if_neg (by omega)]
        simp +contextual (maxSteps := 1000000) (disch := first | omega | (with_reducible first | refine krN ?_ | refine krS ?_ | refine krP ?_ | refine krG ?_); kernel_rfl | refine kr ?_; simp only [go_sem, reduceCtorEq, k2, hw, h2, k3, k4']; done | fail) only [go_sem, seval, -List.reduceReplicate, k2, hw, h2, k3, k4']
    · rw [if_pos (.inl k3)]
      simp +contextual (maxSteps := 1000000) (disch := first | omega | (with_reducible first | refine krN ?_ | refine krS ?_ | refine krP ?_ | refine krG ?_); kernel_rfl | refine kr ?_; simp only [go_sem, reduceCtorEq, k2, hw, h2, k3]; done | fail) only [go_sem, seval, -List.reduceReplicate, k2, hw, h2, k3]
  rw [if_neg k2]
  by_cases k3 : n.kind = 3
  · rw [if_pos k3]
    by_cases k4 : 0 ≤ n.other ∧ n.other ≤ (d.eras.length : Int) - 1
    case neg =>
      rw [if_pos k4]
      by_cases k : 0 ≤ n.other
      · have := and2 k4 k
        simp +contextual (maxSteps := 1000000) (disch := first | omega | (with_reducible first | refine krN ?_ | refine krS ?_ | refine krP ?_ | refine krG ?_); kernel_rfl | refine kr ?_; simp only [go_sem, reduceCtorEq, k3, hw, hwe, h2, k, this]; done | fail) only [go_sem, seval, -List.reduceReplicate, k3, hw, hwe, h2, k, this]
      · simp +contextual (maxSteps := 1000000) (disch := first | omega | (with_reducible first | refine krN ?_ | refine krS ?_ | refine krP ?_ | refine krG ?_); kernel_rfl | refine kr ?_; simp only [go_sem, reduceCtorEq, k3, hw, hwe, h2, k]; done | fail) only [go_sem, seval, -List.reduceReplicate, k3, hw, hwe, h2, k]
    rw [if_neg (fun h => h k4)]
    by_cases k5 : 0 < n.ys.length
    · have k5' : 0 < (n.ys.length : Int) := by omega
      rw [if_pos k5]
      simp +contextual (maxSteps := 1000000) (disch := first | omega | (with_reducible first | refine krN ?_ | refine krS ?_ | refine krP ?_ | refine krG ?_); kernel_rfl | refine kr ?_; simp only [go_sem, reduceCtorEq, k3, hw, hwe, h2, k4, k5']; done | fail) only [go_sem, seval, -List.reduceReplicate, k3, hw, hwe, h2, k4, k5']
    · have k5' : ¬ 0 < (n.ys.length : Int) := by omega
      rw [if_neg k5]
      by_cases k6 : spanE n.lo n.hi = 0
      · rw [if_neg (fun h => h k6)]
        by_cases k7 : n.lo < 1
        · rw [if_pos k7]
          simp +contextual (maxSteps := 1000000) (disch := first | omega | (with_reducible first | refine krN ?_ | refine krS ?_ | refine krP ?_ | refine krG ?_); kernel_rfl | refine kr ?_; simp only [go_sem, reduceCtorEq, k3, hw, hwe, h2, k4, k5', k6, k7]; done | fail) only [go_sem, seval, -List.reduceReplicate, k3, hw, hwe, h2, k4, k5', k6, k7]
        · rw [if_neg k7]
          simp +contextual (maxSteps := 1000000) (disch := first | omega | (with_reducible first | refine krN ?_ | refine krS ?_ | refine krP ?_ | refine krG ?_); kernel_rfl | refine kr ?_; simp only [go_sem, reduceCtorEq, k3, hw, hwe, h2, k4, k5', k6, k7]; done | fail) only [go_sem, seval, -List.reduceReplicate, k3, hw, hwe, h2, k4, k5', k6, k7]
      · rw [if_pos k6]
        simp +contextual (maxSteps := 1000000) (disch := first | omega | (with_reducible first | refine krN ?_ | refine krS ?_ | refine krP ?_ | refine krG ?_); kernel_rfl | refine kr ?_; simp only [go_sem, reduceCtorEq, k3, hw, hwe, h2, k4, k5', k6]; done | fail) only [go_sem, seval, -List.reduceReplicate, k3, hw, hwe, h2, k4, k5', k6]
  rw [if_neg k3]
  by_cases k4 : 0 ≤ n.other ∧ n.other ≤ d.stones - 1
  case neg =>
    rw [if_pos k4]
    by_cases k : 0 ≤ n.other
    · have := and2 k4 k
      simp +contextual (maxSteps := 1000000) (disch := first | omega | (with_reducible first | refine krN ?_ | refine krS ?_ | refine krP ?_ | refine krG ?_); kernel_rfl | refine kr ?_; simp only [go_sem, reduceCtorEq, h1, k1, k2, k3, hw, h2, k, this]; done | fail) only [go_sem, seval, -List.reduceReplicate, h1, k1, k2, k3, hw, h2, k, this]
    · simp +contextual (maxSteps := 1000000) (disch := first | omega | (with_reducible first | refine krN ?_ | refine krS ?_ | refine krP ?_ | refine krG ?_); kernel_rfl | refine kr ?_; simp only [go_sem, reduceCtorEq, h1, k1, k2, k3, hw, h2, k]; done | fail) only [go_sem, seval, -List.reduceReplicate, h1, k1, k2, k3, hw, h2, k]
  rw [if_neg (fun h => h k4)]
  by_cases k5 : n.other = n.stone
  · rw [if_pos (.inl k5)]
    simp +contextual (maxSteps := 1000000) (disch := first | omega | (with_reducible first | refine krN ?_ | refine krS ?_ | refine krP ?_ | refine krG ?_); kernel_rfl | refine kr ?_; simp only [go_sem, reduceCtorEq, h1, k1, k2, k3, hw, h2, k4, k5]; done | fail) only [go_sem, seval, -List.reduceReplicate, h1, k1, k2, k3, hw, h2, k4, k5]
  · by_cases k6 : 0 < n.ys.length
    · have k6' : 0 < (n.ys.length : Int) := by omega
      rw [if_pos (.inr k6)]
      simp +contextual (maxSteps := 1000000) (disch := first | omega | (with_reducible first | refine krN ?_ | refine krS ?_ | refine krP ?_ | refine krG ?_); kernel_rfl | refine kr ?_; simp only [go_sem, reduceCtorEq, h1, k1, k2, k3, hw, h2, k4, k5, k6']; done | fail) only [go_sem, seval, -List.reduceReplicate, h1, k1, k2, k3, hw, h2, k4, k5, k6']
    · have k6' : ¬ 0 < (n.ys.length : Int) := by omega
      rw [if_neg (fun h => h.elim k5 k6)]
      simp +contextual (maxSteps := 1000000) (disch := first | omega | (with_reducible first | refine krN ?_ | refine krS ?_ | refine krP ?_ | refine krG ?_); kernel_rfl | refine kr ?_; simp only [go_sem, reduceCtorEq, h1, k1, k2, k3, hw, h2, k4, k5, k6']; done | fail) only [go_sem, seval, -List.reduceReplicate, h1, k1, k2, k3, hw, h2, k4, k5, k6']
section
variable {m : Mem} {K : Vl → Mem → Prop}
theorem wc19 {d : Dt} {n : Nt} {o1 o2 : Option Bool} (hs6 : 1 ≤ d.stones ∧ d.stones ≤ 6) (he : d.eras.length ≤ 3) : WC Tryd.prog (AA b) (.fn (.func 19) [] []) [.v (encD o1 o2 d), .v (encN n)] m K = K (I (noteE d n)) m :=
  WC_closed (by simp only [mkAnn, K19]) (rfAs (xs := [encD o1 o2 d, encN n]) (by simp only [closedL, clD, clN, Bool.and_self])) rfl (note_to hs6 he)
end
end Go.Proofs
namespace Go.Proofs
open Go Go.Idl Go.Dt
set_option linter.unusedSimpArgs false
variable {b : Nat}
theorem firstE_drop {α : Type} [Inhabited α] {f : α → Int} {l : List α} {i : Nat} (h : i < l.length) : firstE ((l.drop i).map f) = if f l[i]! ≠ 0 then f l[i]! else firstE ((l.drop (i + 1)).map f) := by
  have hd : l.drop i = l[i]! :: l.drop (i + 1) := by rw [get!_eq h]; exact (List.getElem_cons_drop h).symm
  rw [hd, List.map_cons, firstE]
theorem check_to {d : Dt} {o1 o2 : Option Bool} : Ans Tryd.prog (AA b) 6 [encD o1 o2 d] (fun v => v = I (checkE d)) := by
  refine Ans_of Tryd.func6 rfl rfl ?_
  by_cases h1 : d.stones < 1
  · rw [checkE, if_pos h1]
    simp +contextual (maxSteps := 1000000) (disch := first | omega | (with_reducible first | refine krN ?_ | refine krS ?_ | refine krP ?_ | refine krG ?_); kernel_rfl | refine kr ?_; simp only [go_sem, reduceCtorEq, h1]; done | fail) only [go_sem, seval, -List.reduceReplicate, h1]
  by_cases h2 : 6 < d.stones
  · rw [checkE, if_neg h1, if_pos (.inl h2)]
    simp +contextual (maxSteps := 1000000) (disch := first | omega | (with_reducible first | refine krN ?_ | refine krS ?_ | refine krP ?_ | refine krG ?_); kernel_rfl | refine kr ?_; simp only [go_sem, reduceCtorEq, h1, h2]; done | fail) only [go_sem, seval, -List.reduceReplicate, h1, h2]
  by_cases h3 : 3 < d.eras.length
  · have h3' : 3 < (d.eras.length : Int) := by omega
    rw [checkE, if_neg h1, if_pos (.inr h3)]
    simp +contextual (maxSteps := 1000000) (disch := first | omega | (with_reducible first | refine krN ?_ | refine krS ?_ | refine krP ?_ | refine krG ?_); kernel_rfl | refine kr ?_; simp only [go_sem, reduceCtorEq, h1, h2, h3']; done | fail) only [go_sem, seval, -List.reduceReplicate, h1, h2, h3']
  have h3' : ¬ 3 < (d.eras.length : Int) := by omega
  rw [checkE, if_neg h1, if_neg (by omega)]
  simp +contextual (maxSteps := 1000000) (disch := first | omega | (with_reducible first | refine krN ?_ | refine krS ?_ | refine krP ?_ | refine krG ?_); kernel_rfl | refine kr ?_; simp only [go_sem, reduceCtorEq, h1, h2, h3']; done | fail) only [go_sem, seval, -List.reduceReplicate, h1, h2, h3']
  obtain ⟨E, hE⟩ : ∃ E, firstE (d.eras.map fun s => spanE s.1 s.2) = E := ⟨_, rfl⟩
  rw [hE]
  refine wp_loop_to d.eras.length (fun i st => ∃ ex, firstE ((d.eras.drop i).map fun s => spanE s.1 s.2) = E ∧ st = ({ sl := (1, .loc (encD o1 o2 d)) :: (22, SL 2 (d.eras.map encS) o1) :: (23, I d.eras.length) :: (24, I i) :: ex, hp := noHeap, nx := 0 } : FS)) ?_ 0 (Nat.zero_le _) ⟨_, by rw [List.drop_zero]; exact hE, rfl⟩
  rintro i st hi ⟨ex, hI, rfl⟩
  by_cases hc : i < d.eras.length
  · rw [firstE_drop hc] at hI
    by_cases k : spanE d.eras[i]!.1 d.eras[i]!.2 = 0
    · rw [if_neg (fun h => h k)] at hI
      simp +contextual (maxSteps := 1000000) (disch := first | omega | (with_reducible first | refine krN ?_ | refine krS ?_ | refine krP ?_ | refine krG ?_); kernel_rfl | refine kr ?_; simp only [go_sem, reduceCtorEq, Int.ofNat_lt, hc, ix_map, k]; done | fail) only [go_sem, seval, -List.reduceReplicate, Int.ofNat_lt, hc, ix_map, k]
      exact ⟨_, hI, rfl⟩
    · rw [if_pos k] at hI
      rw [if_pos (by rw [← hI]; exact k), ← hI]
      simp +contextual (maxSteps := 1000000) (disch := first | omega | (with_reducible first | refine krN ?_ | refine krS ?_ | refine krP ?_ | refine krG ?_); kernel_rfl | refine kr ?_; simp only [go_sem, reduceCtorEq, Int.ofNat_lt, hc, ix_map, k]; done | fail) only [go_sem, seval, -List.reduceReplicate, Int.ofNat_lt, hc, ix_map, k]
  have hie : i = d.eras.length := by omega
  subst hie
  have hE0 : E = 0 := by rw [← hI, List.drop_length]; rfl
  subst hE0
  clear hE hI hc
  rw [if_neg (fun h => h rfl)]
  by_cases h4 : 8 < d.notes.length
  · have h4' : 8 < (d.notes.length : Int) := by omega
    rw [if_pos h4]
    simp +contextual (maxSteps := 1000000) (disch := first | omega | (with_reducible first | refine krN ?_ | refine krS ?_ | refine krP ?_ | refine krG ?_); kernel_rfl | refine kr ?_; simp only [go_sem, reduceCtorEq, Int.lt_irrefl, h4']; done | fail) only [go_sem, seval, -List.reduceReplicate, Int.lt_irrefl, h4']
  have h4' : ¬ 8 < (d.notes.length : Int) := by omega
  rw [if_neg h4]
  simp +contextual (maxSteps := 1000000) (disch := first | omega | (with_reducible first | refine krN ?_ | refine krS ?_ | refine krP ?_ | refine krG ?_); kernel_rfl | refine kr ?_; simp only [go_sem, reduceCtorEq, Int.lt_irrefl, h4']; done | fail) only [go_sem, seval, -List.reduceReplicate, Int.lt_irrefl, h4']
  obtain ⟨E, hE⟩ : ∃ E, firstE (d.notes.map (noteE d)) = E := ⟨_, rfl⟩
  rw [hE]
  refine wp_loop_to d.notes.length (fun i st => ∃ ex, firstE ((d.notes.drop i).map (noteE d)) = E ∧ st = ({ sl := (1, .loc (encD o1 o2 d)) :: (39, SL 6 (d.notes.map encN) o2) :: (40, I d.notes.length) :: (41, I i) :: ex, hp := noHeap, nx := 0 } : FS)) ?_ 0 (Nat.zero_le _) ⟨_, by rw [List.drop_zero]; exact hE, rfl⟩
  clear hi ex
  rintro i st hi ⟨ex, hI, rfl⟩
  have w81 := fun (m : Mem) (K : Vl → Mem → Prop) => wc19 (b := b) (m := m) (K := K) (d := d) (n := d.notes[i]!) (o1 := o1) (o2 := o2) (by omega) (by omega)
  by_cases hc : i < d.notes.length
  · rw [firstE_drop hc] at hI
    by_cases k : noteE d d.notes[i]! = 0
    · rw [if_neg (fun h => h k)] at hI
      simp +contextual (maxSteps := 1000000) (disch := first | omega | (with_reducible first | refine krN ?_ | refine krS ?_ | refine krP ?_ | refine krG ?_); kernel_rfl | refine kr ?_; simp only [go_sem, reduceCtorEq, Int.ofNat_lt, hc, ix_map, w81, k]; done | fail) only [go_sem, seval, -List.reduceReplicate, Int.ofNat_lt, hc, ix_map, w81, k]
      exact ⟨_, hI, rfl⟩
    · rw [if_pos k] at hI
      rw [← hI]
      simp +contextual (maxSteps := 1000000) (disch := first | omega | (with_reducible first | refine krN ?_ | refine krS ?_ | refine krP ?_ | refine krG ?_); kernel_rfl | refine kr ?_; simp only [go_sem, reduceCtorEq, Int.ofNat_lt, hc, ix_map, w81, k]; done | fail) only [go_sem, seval, -List.reduceReplicate, Int.ofNat_lt, hc, ix_map, w81, k]
  have hie : i = d.notes.length := by omega
  subst hie
  have hE0 : E = 0 := by rw [← hI, List.drop_length]; rfl
  subst hE0
  simp +contextual (maxSteps := 1000000) (disch := first | omega | (with_reducible first | refine krN ?_ | refine krS ?_ | refine krP ?_ | refine krG ?_); kernel_rfl | refine kr ?_; simp only [go_sem, reduceCtorEq, Int.lt_irrefl]; done | fail) only [go_sem, seval, -List.reduceReplicate, Int.lt_irrefl]
section
variable {m : Mem} {K : Vl → Mem → Prop}
theorem wc6 {d : Dt} {o1 o2 : Option Bool} : WC Tryd.prog (AA b) (.fn (.func 6) [] []) [.v (encD o1 o2 d)] m K = K (I (checkE d)) m :=
  WC_closed (by simp only [mkAnn, K6]) (rfAs (xs := [encD o1 o2 d]) (by simp only [closedL, clD, Bool.and_self])) rfl check_to
end
def foundV (d : Dt) : Vl × Int := if checkE d ≠ 0 then (.nils, checkE d) else if (tabsL d).length = 0 then (.nils, 9) else (.lst 100 ((tabsL d).map tV) false, 0)
theorem foundV_cl (d : Dt) : (foundV d).1.closed = true := by
  unfold foundV
  split
  · rfl
  · split
    · rfl
    · exact closedL_map cltV _
theorem tabsV_ne {d : Dt} (h : (tabsL d).length ≠ 0) : tabsV d = .lst 100 ((tabsL d).map tV) false := by
  unfold tabsV SL
  cases e : (tabsL d).map tV with
  | nil => rw [List.map_eq_nil_iff] at e; rw [e] at h; exact absurd rfl h
  | cons x l => rfl
theorem found_to {d : Dt} {o1 o2 : Option Bool} : Ans Tryd.prog (AA b) 20 [encD o1 o2 d] (fun v => v = .tup [(foundV d).1, I (foundV d).2]) := by
  refine Ans_of Tryd.func20 rfl rfl ?_
  by_cases h : checkE d = 0
  · have hd := checkE_ok.1 h
    by_cases h2 : (tabsL d).length = 0
    · have e : foundV d = (.nils, 9) := by rw [foundV, if_neg (fun k => k h), if_pos h2]
      have h2' : tabsV d = .nils := by rw [tabsV, List.length_eq_zero_iff.1 h2]; rfl
      rw [e]
      simp +contextual (maxSteps := 1000000) (disch := first | omega | (with_reducible first | refine krN ?_ | refine krS ?_ | refine krP ?_ | refine krG ?_); kernel_rfl | refine kr ?_; simp only [go_sem, reduceCtorEq, wc6, h, wc32, wc38, hd, h2']; done | fail) only [go_sem, seval, -List.reduceReplicate, wc6, h, wc32, wc38, hd, h2']
    · have e : foundV d = (.lst 100 ((tabsL d).map tV) false, 0) := by rw [foundV, if_neg (fun k => k h), if_neg h2]
      have h2' := tabsV_ne h2
      have h3 : ¬ ((tabsL d).length : Int) = 0 := by omega
      have hcl : closedL ((tabsL d).map tV) = true := closedL_map cltV _
      rw [e]
      simp +contextual (maxSteps := 1000000) (disch := first | omega | (with_reducible first | refine krN ?_ | refine krS ?_ | refine krP ?_ | refine krG ?_); kernel_rfl | refine kr ?_; simp only [go_sem, reduceCtorEq, wc6, h, wc32, wc38, hd, h2', h3, reify_lst, hcl]; done | fail) only [go_sem, seval, -List.reduceReplicate, wc6, h, wc32, wc38, hd, h2', h3, reify_lst, hcl]
  · have e : foundV d = (.nils, checkE d) := by rw [foundV, if_pos h]
    rw [e]
    simp +contextual (maxSteps := 1000000) (disch := first | omega | (with_reducible first | refine krN ?_ | refine krS ?_ | refine krP ?_ | refine krG ?_); kernel_rfl | refine kr ?_; simp only [go_sem, reduceCtorEq, wc6, h]; done | fail) only [go_sem, seval, -List.reduceReplicate, wc6, h]
section
variable {m : Mem} {K : Vl → Mem → Prop}
theorem wc20 {d : Dt} {o1 o2 : Option Bool} : WC Tryd.prog (AA b) (.fn (.func 20) [] []) [.v (encD o1 o2 d)] m K = K (.tup [(foundV d).1, I (foundV d).2]) m :=
  WC_closed (by simp only [mkAnn, K20]) (rfAs (xs := [encD o1 o2 d]) (by simp only [closedL, clD, Bool.and_self])) (by simp only [Vl.closed, closedL, foundV_cl, Bool.and_self]) found_to
end
end Go.Proofs
