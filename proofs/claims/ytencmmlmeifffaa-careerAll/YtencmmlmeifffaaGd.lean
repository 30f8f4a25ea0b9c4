/- What functions of the given program do in the ideal machine (G11), and the plain laws of what they answer; the conditions stand in each theorem. -/
import Derived.Test.YtencmmlmeifffaaGb
set_option linter.all false
set_option linter.unusedSectionVars false
set_option linter.unusedSimpArgs false
set_option linter.unusedVariables false
namespace Go.Proofs
open Go Go.Idl
set_option linter.unusedSimpArgs false
variable {b : Bool}
theorem between_to (n lo hi : Int) : Ans Try.prog (AA b) 65 [I n, I lo, I hi] (fun v => v = .bool (decide (lo ≤ n) && decide (n ≤ hi))) := by
  refine Ans_of Try.func65 rfl rfl ?_
  by_cases h : lo ≤ n
  · simp +contextual (maxSteps := 1000000) (disch := first | omega | (with_reducible first | refine krN ?_ | refine krS ?_ | refine krP ?_ | refine krG ?_); kernel_rfl | refine kr ?_; simp only [go_sem, ↓reduceIte, Nat.reduceEqDiff, Nat.reduceAdd, Nat.reduceMul, Nat.reduceLeDiff, Nat.reduceLT, Nat.reduceBEq, bne, reduceCtorEq, Int.reduceLE, Int.reduceToNat, Int.reduceLT, Int.reduceAdd, Int.reduceSub, Int.reduceNeg, Int.cast_ofNat_Int, h]; done | fail) only [go_sem, ↓reduceIte, Nat.reduceEqDiff, Nat.reduceAdd, Nat.reduceMul, Nat.reduceLeDiff, Nat.reduceLT, Nat.reduceBEq, bne, reduceCtorEq, Int.reduceLE, Int.reduceToNat, Int.reduceLT, Int.reduceAdd, Int.reduceSub, Int.reduceNeg, Int.cast_ofNat_Int, h]
  · simp +contextual (maxSteps := 1000000) (disch := first | omega | (with_reducible first | refine krN ?_ | refine krS ?_ | refine krP ?_ | refine krG ?_); kernel_rfl | refine kr ?_; simp only [go_sem, ↓reduceIte, Nat.reduceEqDiff, Nat.reduceAdd, Nat.reduceMul, Nat.reduceLeDiff, Nat.reduceLT, Nat.reduceBEq, bne, reduceCtorEq, Int.reduceLE, Int.reduceToNat, Int.reduceLT, Int.reduceAdd, Int.reduceSub, Int.reduceNeg, Int.cast_ofNat_Int, h]; done | fail) only [go_sem, ↓reduceIte, Nat.reduceEqDiff, Nat.reduceAdd, Nat.reduceMul, Nat.reduceLeDiff, Nat.reduceLT, Nat.reduceBEq, bne, reduceCtorEq, Int.reduceLE, Int.reduceToNat, Int.reduceLT, Int.reduceAdd, Int.reduceSub, Int.reduceNeg, Int.cast_ofNat_Int, h]
section
variable {m : Mem} {K : Vl → Mem → Prop}
theorem wc65 (n lo hi : Int) : WC Try.prog (AA b) (.fn (.func 65) [] []) [.v (I n), .v (I lo), .v (I hi)] m K = K (.bool (decide (lo ≤ n) && decide (n ≤ hi))) m := WC_flat (by simp only [mkAnn, K65]) (rfAs (xs := [I n, I lo, I hi]) rfl) (between_to n lo hi) rfl
end
attribute [go_sem] wc65
theorem inT' {x lo hi : Int} (h : lo ≤ x ∧ x ≤ hi) : (decide (lo ≤ x) && decide (x ≤ hi)) = true := by rw [decide_eq_true h.1, decide_eq_true h.2]; rfl
theorem refYears_to {lo hi : Int} (h : YearsOk lo hi) : Ans Try.prog (AA b) 66 [.agg [I lo, I hi]] (fun v => v = I 0) := by
  refine Ans_of Try.func66 rfl rfl ?_
  obtain ⟨h1, h2, h3⟩ := h
  have i1 := inT' (x := lo) (lo := -3000) (hi := 3000) (by omega)
  have i2 := inT' (x := hi) (lo := -3000) (hi := 3000) (by omega)
  have e : ¬ hi < lo := by omega
  simp +contextual (maxSteps := 1000000) (disch := first | omega | (with_reducible first | refine krN ?_ | refine krS ?_ | refine krP ?_ | refine krG ?_); kernel_rfl | refine kr ?_; simp only [go_sem, ↓reduceIte, Nat.reduceEqDiff, Nat.reduceAdd, Nat.reduceMul, Nat.reduceLeDiff, Nat.reduceLT, Nat.reduceBEq, bne, reduceCtorEq, Int.reduceLE, Int.reduceToNat, Int.reduceLT, Int.reduceAdd, Int.reduceSub, Int.reduceNeg, Int.cast_ofNat_Int, i1, i2, e]; done | fail) only [go_sem, ↓reduceIte, Nat.reduceEqDiff, Nat.reduceAdd, Nat.reduceMul, Nat.reduceLeDiff, Nat.reduceLT, Nat.reduceBEq, bne, reduceCtorEq, Int.reduceLE, Int.reduceToNat, Int.reduceLT, Int.reduceAdd, Int.reduceSub, Int.reduceNeg, Int.cast_ofNat_Int, i1, i2, e]
section
variable {m : Mem} {K : Vl → Mem → Prop}
theorem wc66 {lo hi : Int} (h : YearsOk lo hi) : WC Try.prog (AA b) (.fn (.func 66) [] []) [.v (.agg [I lo, I hi])] m K = K (I 0) m :=
  WC_flat (by simp only [mkAnn, K66]) (rfAs (xs := [.agg [I lo, I hi]]) rfl) (refYears_to h) rfl
theorem refRules_to {r : Roll} (hv : WF r) {o1 o2 o3 o4 : Option Bool} : Ans Try.prog (AA b) 63 [encRoll o1 o2 o3 o4 r] (fun v => v = I 0) := by
  refine Ans_of Try.func63 rfl rfl ?_
  have ho := hv.os_l
  have e5 : ¬ (5 < (r.os.length : Int)) := by omega
  simp +contextual (maxSteps := 1000000) (disch := first | omega | (with_reducible first | refine krN ?_ | refine krS ?_ | refine krP ?_ | refine krG ?_); kernel_rfl | refine kr ?_; simp only [go_sem, ↓reduceIte, Nat.reduceEqDiff, Nat.reduceAdd, Nat.reduceMul, Nat.reduceLeDiff, Nat.reduceLT, Nat.reduceBEq, bne, reduceCtorEq, Int.reduceLE, Int.reduceToNat, Int.reduceLT, Int.reduceAdd, Int.reduceSub, Int.reduceNeg, Int.cast_ofNat_Int, e5]; done | fail) only [go_sem, ↓reduceIte, Nat.reduceEqDiff, Nat.reduceAdd, Nat.reduceMul, Nat.reduceLeDiff, Nat.reduceLT, Nat.reduceBEq, bne, reduceCtorEq, Int.reduceLE, Int.reduceToNat, Int.reduceLT, Int.reduceAdd, Int.reduceSub, Int.reduceNeg, Int.cast_ofNat_Int, e5]
  refine wp_loop_to r.os.length (fun i st => ∃ (ex : List (Nat × Vl)), st = ({ sl := (1, .loc (encRoll o1 o2 o3 o4 r)) :: (3, I i) :: ex, hp := noHeap, nx := 0 } : FS)) ?_ 0 (Nat.zero_le _) ⟨_, rfl⟩
  rintro i st hi ⟨ex, rfl⟩
  by_cases hc : i < r.os.length
  · obtain ⟨a1, a2, a3, a4, a5, a6⟩ := hv.os_ok _ (get!_mem hc)
    have i1 := inT' (x := (r.os[i]!).age) (lo := 0) (hi := 100) (by omega)
    have i2 := inT' (x := (r.os[i]!).gap) (lo := 0) (hi := 100) (by omega)
    have i3 := inT' (x := (r.os[i]!).again) (lo := 1) (hi := 100) (by omega)
    simp +contextual (maxSteps := 1000000) (disch := first | omega | (with_reducible first | refine krN ?_ | refine krS ?_ | refine krP ?_ | refine krG ?_); kernel_rfl | refine kr ?_; simp only [go_sem, ↓reduceIte, Nat.reduceEqDiff, Nat.reduceAdd, Nat.reduceMul, Nat.reduceLeDiff, Nat.reduceLT, Nat.reduceBEq, bne, reduceCtorEq, Int.reduceLE, Int.reduceToNat, Int.reduceLT, Int.reduceAdd, Int.reduceSub, Int.reduceNeg, Int.cast_ofNat_Int, Int.ofNat_lt, hc, ix_map, encO, i1, i2, i3]; done | fail) only [go_sem, ↓reduceIte, Nat.reduceEqDiff, Nat.reduceAdd, Nat.reduceMul, Nat.reduceLeDiff, Nat.reduceLT, Nat.reduceBEq, bne, reduceCtorEq, Int.reduceLE, Int.reduceToNat, Int.reduceLT, Int.reduceAdd, Int.reduceSub, Int.reduceNeg, Int.cast_ofNat_Int, Int.ofNat_lt, hc, ix_map, encO, i1, i2, i3]
    exact ⟨_, rfl⟩
  · have hie : i = r.os.length := by omega
    subst hie
    clear hi hc
    have i1 := inT' (x := r.life) (lo := 0) (hi := 100) (by have := hv.life; omega)
    have i2 := inT' (x := r.plo) (lo := 1) (hi := 100) (by have := hv.par; omega)
    have i3 := inT' (x := r.phi) (lo := 1) (hi := 100) (by have := hv.par; omega)
    have e1 : ¬ (r.phi < r.plo) := by have := hv.par; omega
    simp +contextual (maxSteps := 1000000) (disch := first | omega | (with_reducible first | refine krN ?_ | refine krS ?_ | refine krP ?_ | refine krG ?_); kernel_rfl | refine kr ?_; simp only [go_sem, ↓reduceIte, Nat.reduceEqDiff, Nat.reduceAdd, Nat.reduceMul, Nat.reduceLeDiff, Nat.reduceLT, Nat.reduceBEq, bne, reduceCtorEq, Int.reduceLE, Int.reduceToNat, Int.reduceLT, Int.reduceAdd, Int.reduceSub, Int.reduceNeg, Int.cast_ofNat_Int, Int.lt_irrefl, i1, i2, i3, e1]; done | fail) only [go_sem, ↓reduceIte, Nat.reduceEqDiff, Nat.reduceAdd, Nat.reduceMul, Nat.reduceLeDiff, Nat.reduceLT, Nat.reduceBEq, bne, reduceCtorEq, Int.reduceLE, Int.reduceToNat, Int.reduceLT, Int.reduceAdd, Int.reduceSub, Int.reduceNeg, Int.cast_ofNat_Int, Int.lt_irrefl, i1, i2, i3, e1]
theorem wc63 {r : Roll} (hv : WF r) {o1 o2 o3 o4 : Option Bool} : WC Try.prog (AA b) (.fn (.func 63) [] []) [.v (encRoll o1 o2 o3 o4 r)] m K = K (I 0) m :=
  WC_flat (by simp only [mkAnn, K63]) (rfAs (xs := [encRoll o1 o2 o3 o4 r]) (by show ((encRoll o1 o2 o3 o4 r).closed && true) = true; rw [clRoll]; rfl)) (refRules_to hv) rfl
theorem refTowns_to {r : Roll} (hv : WF r) {o1 o2 o3 o4 : Option Bool} : Ans Try.prog (AA b) 64 [encRoll o1 o2 o3 o4 r] (fun v => v = I 0) := by
  refine Ans_of Try.func64 rfl rfl ?_
  have hl := hv.fs_l
  have e0 : ¬ ((r.fs.length : Int) = 0) := by omega
  have e4 : ¬ (4 < (r.fs.length : Int)) := by omega
  simp +contextual (maxSteps := 1000000) (disch := first | omega | (with_reducible first | refine krN ?_ | refine krS ?_ | refine krP ?_ | refine krG ?_); kernel_rfl | refine kr ?_; simp only [go_sem, ↓reduceIte, Nat.reduceEqDiff, Nat.reduceAdd, Nat.reduceMul, Nat.reduceLeDiff, Nat.reduceLT, Nat.reduceBEq, bne, reduceCtorEq, Int.reduceLE, Int.reduceToNat, Int.reduceLT, Int.reduceAdd, Int.reduceSub, Int.reduceNeg, Int.cast_ofNat_Int, e0, e4]; done | fail) only [go_sem, ↓reduceIte, Nat.reduceEqDiff, Nat.reduceAdd, Nat.reduceMul, Nat.reduceLeDiff, Nat.reduceLT, Nat.reduceBEq, bne, reduceCtorEq, Int.reduceLE, Int.reduceToNat, Int.reduceLT, Int.reduceAdd, Int.reduceSub, Int.reduceNeg, Int.cast_ofNat_Int, e0, e4]
  refine wp_loop_to r.fs.length (fun i st => ∃ (ex : List (Nat × Vl)), st = ({ sl := (1, .loc (encRoll o1 o2 o3 o4 r)) :: (3, I i) :: ex, hp := noHeap, nx := 0 } : FS)) ?_ 0 (Nat.zero_le _) ⟨_, rfl⟩
  rintro i st hi ⟨ex, rfl⟩
  by_cases hc : i < r.fs.length
  · have hrl := hv.fs_ok _ (get!_mem hc)
    have hd := hv.diag i hc
    have hci : i < (r.fs[i]!).length := by rw [hrl]; exact hc
    simp +contextual (maxSteps := 1000000) (disch := first | omega | (with_reducible first | refine krN ?_ | refine krS ?_ | refine krP ?_ | refine krG ?_); kernel_rfl | refine kr ?_; simp only [go_sem, ↓reduceIte, Nat.reduceEqDiff, Nat.reduceAdd, Nat.reduceMul, Nat.reduceLeDiff, Nat.reduceLT, Nat.reduceBEq, bne, reduceCtorEq, Int.reduceLE, Int.reduceToNat, Int.reduceLT, Int.reduceAdd, Int.reduceSub, Int.reduceNeg, Int.cast_ofNat_Int, Int.ofNat_lt, hc, ix_map, encRow, hrl, hd, hci]; done | fail) only [go_sem, ↓reduceIte, Nat.reduceEqDiff, Nat.reduceAdd, Nat.reduceMul, Nat.reduceLeDiff, Nat.reduceLT, Nat.reduceBEq, bne, reduceCtorEq, Int.reduceLE, Int.reduceToNat, Int.reduceLT, Int.reduceAdd, Int.reduceSub, Int.reduceNeg, Int.cast_ofNat_Int, Int.ofNat_lt, hc, ix_map, encRow, hrl, hd, hci]
    refine wp_loop_to i (fun k st => ∃ (ex : List (Nat × Vl)), st = ({ sl := (1, .loc (encRoll o1 o2 o3 o4 r)) :: (3, I i) :: (4, I k) :: ex, hp := noHeap, nx := 0 } : FS)) ?_ 0 (Nat.zero_le _) ⟨_, rfl⟩
    rintro k st hk ⟨ex, rfl⟩
    by_cases hck : k < i
    · have hkf : k < r.fs.length := by omega
      have hki : k < (r.fs[i]!).length := by rw [hrl]; exact hkf
      have hik : i < (r.fs[k]!).length := by rw [hv.fs_ok _ (get!_mem hkf)]; exact hc
      have hs := hv.symm i k hck hc
      simp +contextual (maxSteps := 1000000) (disch := first | omega | (with_reducible first | refine krN ?_ | refine krS ?_ | refine krP ?_ | refine krG ?_); kernel_rfl | refine kr ?_; simp only [go_sem, ↓reduceIte, Nat.reduceEqDiff, Nat.reduceAdd, Nat.reduceMul, Nat.reduceLeDiff, Nat.reduceLT, Nat.reduceBEq, bne, reduceCtorEq, Int.reduceLE, Int.reduceToNat, Int.reduceLT, Int.reduceAdd, Int.reduceSub, Int.reduceNeg, Int.cast_ofNat_Int, Int.ofNat_lt, hck, hc, hkf, ix_map, encRow, hki, hik, hs, bin_neB, bne_self_eq_false]; done | fail) only [go_sem, ↓reduceIte, Nat.reduceEqDiff, Nat.reduceAdd, Nat.reduceMul, Nat.reduceLeDiff, Nat.reduceLT, Nat.reduceBEq, bne, reduceCtorEq, Int.reduceLE, Int.reduceToNat, Int.reduceLT, Int.reduceAdd, Int.reduceSub, Int.reduceNeg, Int.cast_ofNat_Int, Int.ofNat_lt, hck, hc, hkf, ix_map, encRow, hki, hik, hs, bin_neB, bne_self_eq_false]
      exact ⟨_, rfl⟩
    · have hke : k = i := by omega
      subst hke
      simp +contextual (maxSteps := 1000000) (disch := first | omega | (with_reducible first | refine krN ?_ | refine krS ?_ | refine krP ?_ | refine krG ?_); kernel_rfl | refine kr ?_; simp only [go_sem, ↓reduceIte, Nat.reduceEqDiff, Nat.reduceAdd, Nat.reduceMul, Nat.reduceLeDiff, Nat.reduceLT, Nat.reduceBEq, bne, reduceCtorEq, Int.reduceLE, Int.reduceToNat, Int.reduceLT, Int.reduceAdd, Int.reduceSub, Int.reduceNeg, Int.cast_ofNat_Int, Int.lt_irrefl]; done | fail) only [go_sem, ↓reduceIte, Nat.reduceEqDiff, Nat.reduceAdd, Nat.reduceMul, Nat.reduceLeDiff, Nat.reduceLT, Nat.reduceBEq, bne, reduceCtorEq, Int.reduceLE, Int.reduceToNat, Int.reduceLT, Int.reduceAdd, Int.reduceSub, Int.reduceNeg, Int.cast_ofNat_Int, Int.lt_irrefl]
      exact ⟨_, rfl⟩
  · have hie : i = r.fs.length := by omega
    subst hie
    simp +contextual (maxSteps := 1000000) (disch := first | omega | (with_reducible first | refine krN ?_ | refine krS ?_ | refine krP ?_ | refine krG ?_); kernel_rfl | refine kr ?_; simp only [go_sem, ↓reduceIte, Nat.reduceEqDiff, Nat.reduceAdd, Nat.reduceMul, Nat.reduceLeDiff, Nat.reduceLT, Nat.reduceBEq, bne, reduceCtorEq, Int.reduceLE, Int.reduceToNat, Int.reduceLT, Int.reduceAdd, Int.reduceSub, Int.reduceNeg, Int.cast_ofNat_Int, Int.lt_irrefl]; done | fail) only [go_sem, ↓reduceIte, Nat.reduceEqDiff, Nat.reduceAdd, Nat.reduceMul, Nat.reduceLeDiff, Nat.reduceLT, Nat.reduceBEq, bne, reduceCtorEq, Int.reduceLE, Int.reduceToNat, Int.reduceLT, Int.reduceAdd, Int.reduceSub, Int.reduceNeg, Int.cast_ofNat_Int, Int.lt_irrefl]
theorem wc64 {r : Roll} (hv : WF r) {o1 o2 o3 o4 : Option Bool} : WC Try.prog (AA b) (.fn (.func 64) [] []) [.v (encRoll o1 o2 o3 o4 r)] m K = K (I 0) m :=
  WC_flat (by simp only [mkAnn, K64]) (rfAs (xs := [encRoll o1 o2 o3 o4 r]) (by show ((encRoll o1 o2 o3 o4 r).closed && true) = true; rw [clRoll]; rfl)) (refTowns_to hv) rfl
theorem refRecord_to {r : Roll} (hv : Val r) {c : Rec} (hc : RecVal r c) {o1 o2 o3 o4 : Option Bool} : Ans Try.prog (AA b) 67 [encRoll o1 o2 o3 o4 r, encC c] (fun v => v = I 0) := by
  refine Ans_of Try.func67 rfl rfl ?_
  have hm := hv.ms_l
  have hl := hv.fs_l
  have ho := hv.os_l
  obtain ⟨c1, c2, c3, c4⟩ := hc
  have hw : IntKind.wrap .i64 ((r.ms.length : Int) - 1) = (r.ms.length : Int) - 1 := wrap_i64 (by omega) (by omega)
  have i1 := inT' (x := c.man) (lo := 0) (hi := (r.ms.length : Int) - 1) (by omega)
  cases hk : c.kin with
  | true =>
    obtain ⟨d1, d2, d3, d4, d5, d6, d7⟩ := c3 hk
    have i2 := inT' (x := c.child) (lo := 0) (hi := (r.ms.length : Int) - 1) (by omega)
    simp +contextual (maxSteps := 1000000) (disch := first | omega | (with_reducible first | refine krN ?_ | refine krS ?_ | refine krP ?_ | refine krG ?_); kernel_rfl | refine kr ?_; simp only [go_sem, ↓reduceIte, Nat.reduceEqDiff, Nat.reduceAdd, Nat.reduceMul, Nat.reduceLeDiff, Nat.reduceLT, Nat.reduceBEq, bne, reduceCtorEq, Int.reduceLE, Int.reduceToNat, Int.reduceLT, Int.reduceAdd, Int.reduceSub, Int.reduceNeg, Int.cast_ofNat_Int, encC, hw, i1, i2, hk, d3, d4, d5, d6, d7, bin_neS0]; done | fail) only [go_sem, ↓reduceIte, Nat.reduceEqDiff, Nat.reduceAdd, Nat.reduceMul, Nat.reduceLeDiff, Nat.reduceLT, Nat.reduceBEq, bne, reduceCtorEq, Int.reduceLE, Int.reduceToNat, Int.reduceLT, Int.reduceAdd, Int.reduceSub, Int.reduceNeg, Int.cast_ofNat_Int, encC, hw, i1, i2, hk, d3, d4, d5, d6, d7, bin_neS0]
  | false =>
    obtain ⟨d1, d2, d3, d4, d5, d6⟩ := c4 hk
    have hwf : IntKind.wrap .i64 ((r.fs.length : Int) - 1) = (r.fs.length : Int) - 1 := wrap_i64 (by omega) (by omega)
    have hwo : IntKind.wrap .i64 ((r.os.length : Int) - 1) = (r.os.length : Int) - 1 := wrap_i64 (by omega) (by omega)
    have i2 := inT' (x := c.office) (lo := -1) (hi := (r.os.length : Int) - 1) (by omega)
    have i3 := inT' (x := c.town) (lo := 0) (hi := (r.fs.length : Int) - 1) (by omega)
    simp +contextual (maxSteps := 1000000) (disch := first | omega | (with_reducible first | refine krN ?_ | refine krS ?_ | refine krP ?_ | refine krG ?_); kernel_rfl | refine kr ?_; simp only [go_sem, ↓reduceIte, Nat.reduceEqDiff, Nat.reduceAdd, Nat.reduceMul, Nat.reduceLeDiff, Nat.reduceLT, Nat.reduceBEq, bne, reduceCtorEq, Int.reduceLE, Int.reduceToNat, Int.reduceLT, Int.reduceAdd, Int.reduceSub, Int.reduceNeg, Int.cast_ofNat_Int, encC, hw, hwf, hwo, i1, i2, i3, hk, d5, wc66, d6]; done | fail) only [go_sem, ↓reduceIte, Nat.reduceEqDiff, Nat.reduceAdd, Nat.reduceMul, Nat.reduceLeDiff, Nat.reduceLT, Nat.reduceBEq, bne, reduceCtorEq, Int.reduceLE, Int.reduceToNat, Int.reduceLT, Int.reduceAdd, Int.reduceSub, Int.reduceNeg, Int.cast_ofNat_Int, encC, hw, hwf, hwo, i1, i2, i3, hk, d5, wc66, d6]
theorem wc67 {r : Roll} (hv : Val r) {c : Rec} (hc : RecVal r c) {o1 o2 o3 o4 : Option Bool} : WC Try.prog (AA b) (.fn (.func 67) [] []) [.v (encRoll o1 o2 o3 o4 r), .v (.agg [.bool c.kin, I c.man, I c.office, I c.town, I c.child, I c.lo, I c.hi])] m K = K (I 0) m :=
  WC_flat (by simp only [mkAnn, K67]) (rfAs (xs := [encRoll o1 o2 o3 o4 r, encC c]) (by show ((encRoll o1 o2 o3 o4 r).closed && ((encC c).closed && true)) = true; rw [clRoll, clC]; rfl)) (refRecord_to hv hc) rfl
set_option maxRecDepth 10000 in
set_option maxHeartbeats 4000000 in
theorem refCheck_to {r : Roll} (hv : WF r) {o1 o2 o3 o4 : Option Bool} : Ans Try.prog (AA b) 25 [encRoll o1 o2 o3 o4 r] (fun v => v = I 0) := by
  refine Ans_of Try.func25 rfl rfl ?_
  have hm := hv.ms_l
  have hc8 := hv.cs_l
  have e2 : ¬ ((r.ms.length : Int) = 0) := by omega
  have e3 : ¬ (6 < (r.ms.length : Int)) := by omega
  simp +contextual (maxSteps := 1000000) (disch := first | omega | (with_reducible first | refine krN ?_ | refine krS ?_ | refine krP ?_ | refine krG ?_); kernel_rfl | refine kr ?_; simp only [go_sem, ↓reduceIte, Nat.reduceEqDiff, Nat.reduceAdd, Nat.reduceMul, Nat.reduceLeDiff, Nat.reduceLT, Nat.reduceBEq, bne, reduceCtorEq, Int.reduceLE, Int.reduceToNat, Int.reduceLT, Int.reduceAdd, Int.reduceSub, Int.reduceNeg, Int.cast_ofNat_Int, e2, e3, wc63, wc64, hv]; done | fail) only [go_sem, ↓reduceIte, Nat.reduceEqDiff, Nat.reduceAdd, Nat.reduceMul, Nat.reduceLeDiff, Nat.reduceLT, Nat.reduceBEq, bne, reduceCtorEq, Int.reduceLE, Int.reduceToNat, Int.reduceLT, Int.reduceAdd, Int.reduceSub, Int.reduceNeg, Int.cast_ofNat_Int, e2, e3, wc63, wc64, hv]
  refine wp_loop_to r.ms.length (fun i st => ∃ (ex : List (Nat × Vl)), st = ({ sl := (1, .loc (encRoll o1 o2 o3 o4 r)) :: (5, I i) :: ex, hp := noHeap, nx := 0 } : FS)) ?_ 0 (Nat.zero_le _) ⟨_, rfl⟩
  rintro i st hi ⟨ex, rfl⟩
  by_cases hc : i < r.ms.length
  · obtain ⟨y1, y2⟩ := hv.ms_ok _ (get!_mem hc)
    have i1 := inT' (x := (r.ms[i]!).name) (lo := 0) (hi := 9) (hv.names _ (get!_mem hc))
    simp +contextual (maxSteps := 1000000) (disch := first | omega | (with_reducible first | refine krN ?_ | refine krS ?_ | refine krP ?_ | refine krG ?_); kernel_rfl | refine kr ?_; simp only [go_sem, ↓reduceIte, Nat.reduceEqDiff, Nat.reduceAdd, Nat.reduceMul, Nat.reduceLeDiff, Nat.reduceLT, Nat.reduceBEq, bne, reduceCtorEq, Int.reduceLE, Int.reduceToNat, Int.reduceLT, Int.reduceAdd, Int.reduceSub, Int.reduceNeg, Int.cast_ofNat_Int, Int.ofNat_lt, hc, ix_map, encM, i1, wc66, y1, y2]; done | fail) only [go_sem, ↓reduceIte, Nat.reduceEqDiff, Nat.reduceAdd, Nat.reduceMul, Nat.reduceLeDiff, Nat.reduceLT, Nat.reduceBEq, bne, reduceCtorEq, Int.reduceLE, Int.reduceToNat, Int.reduceLT, Int.reduceAdd, Int.reduceSub, Int.reduceNeg, Int.cast_ofNat_Int, Int.ofNat_lt, hc, ix_map, encM, i1, wc66, y1, y2]
    exact ⟨_, rfl⟩
  · have hie : i = r.ms.length := by omega
    subst hie
    clear hi hc
    have e8 : ¬ (8 < (r.cs.length : Int)) := by omega
    simp +contextual (maxSteps := 1000000) (disch := first | omega | (with_reducible first | refine krN ?_ | refine krS ?_ | refine krP ?_ | refine krG ?_); kernel_rfl | refine kr ?_; simp only [go_sem, ↓reduceIte, Nat.reduceEqDiff, Nat.reduceAdd, Nat.reduceMul, Nat.reduceLeDiff, Nat.reduceLT, Nat.reduceBEq, bne, reduceCtorEq, Int.reduceLE, Int.reduceToNat, Int.reduceLT, Int.reduceAdd, Int.reduceSub, Int.reduceNeg, Int.cast_ofNat_Int, Int.lt_irrefl, e8]; done | fail) only [go_sem, ↓reduceIte, Nat.reduceEqDiff, Nat.reduceAdd, Nat.reduceMul, Nat.reduceLeDiff, Nat.reduceLT, Nat.reduceBEq, bne, reduceCtorEq, Int.reduceLE, Int.reduceToNat, Int.reduceLT, Int.reduceAdd, Int.reduceSub, Int.reduceNeg, Int.cast_ofNat_Int, Int.lt_irrefl, e8]
    refine wp_loop_to r.cs.length (fun i st => ∃ (ex : List (Nat × Vl)), st = ({ sl := (1, .loc (encRoll o1 o2 o3 o4 r)) :: (9, I i) :: ex, hp := noHeap, nx := 0 } : FS)) ?_ 0 (Nat.zero_le _) ⟨_, rfl⟩
    clear ex
    rintro i st hi ⟨ex, rfl⟩
    by_cases hc : i < r.cs.length
    · have hr := hv.cs_ok _ (get!_mem hc)
      have hr67 := fun (m : Mem) (K : Vl → Mem → Prop) => wc67 (b := b) (m := m) (K := K) hv.toVal hr (o1 := o1) (o2 := o2) (o3 := o3) (o4 := o4)
      simp +contextual (maxSteps := 1000000) (disch := first | omega | (with_reducible first | refine krN ?_ | refine krS ?_ | refine krP ?_ | refine krG ?_); kernel_rfl | refine kr ?_; simp only [go_sem, ↓reduceIte, Nat.reduceEqDiff, Nat.reduceAdd, Nat.reduceMul, Nat.reduceLeDiff, Nat.reduceLT, Nat.reduceBEq, bne, reduceCtorEq, Int.reduceLE, Int.reduceToNat, Int.reduceLT, Int.reduceAdd, Int.reduceSub, Int.reduceNeg, Int.cast_ofNat_Int, Int.ofNat_lt, hc, ix_map, encC, hr67]; done | fail) only [go_sem, ↓reduceIte, Nat.reduceEqDiff, Nat.reduceAdd, Nat.reduceMul, Nat.reduceLeDiff, Nat.reduceLT, Nat.reduceBEq, bne, reduceCtorEq, Int.reduceLE, Int.reduceToNat, Int.reduceLT, Int.reduceAdd, Int.reduceSub, Int.reduceNeg, Int.cast_ofNat_Int, Int.ofNat_lt, hc, ix_map, encC, hr67]
      exact ⟨_, rfl⟩
    · have hie : i = r.cs.length := by omega
      subst hie
      simp +contextual (maxSteps := 1000000) (disch := first | omega | (with_reducible first | refine krN ?_ | refine krS ?_ | refine krP ?_ | refine krG ?_); kernel_rfl | refine kr ?_; simp only [go_sem, ↓reduceIte, Nat.reduceEqDiff, Nat.reduceAdd, Nat.reduceMul, Nat.reduceLeDiff, Nat.reduceLT, Nat.reduceBEq, bne, reduceCtorEq, Int.reduceLE, Int.reduceToNat, Int.reduceLT, Int.reduceAdd, Int.reduceSub, Int.reduceNeg, Int.cast_ofNat_Int, Int.lt_irrefl]; done | fail) only [go_sem, ↓reduceIte, Nat.reduceEqDiff, Nat.reduceAdd, Nat.reduceMul, Nat.reduceLeDiff, Nat.reduceLT, Nat.reduceBEq, bne, reduceCtorEq, Int.reduceLE, Int.reduceToNat, Int.reduceLT, Int.reduceAdd, Int.reduceSub, Int.reduceNeg, Int.cast_ofNat_Int, Int.lt_irrefl]
theorem wc25 {r : Roll} (hv : WF r) {o1 o2 o3 o4 : Option Bool} : WC Try.prog (AA b) (.fn (.func 25) [] []) [.v (encRoll o1 o2 o3 o4 r)] m K = K (I 0) m :=
  WC_flat (by simp only [mkAnn, K25]) (rfAs (xs := [encRoll o1 o2 o3 o4 r]) (by show ((encRoll o1 o2 o3 o4 r).closed && true) = true; rw [clRoll]; rfl)) (refCheck_to hv) rfl
def countM (r : Roll) (a n : Nat) : Nat := ((List.range n).filter fun i => !r.cs[i]!.kin && decide (r.cs[i]!.man = (a : Int))).length
theorem countM_succ {r : Roll} {a n : Nat} : countM r a (n + 1) = countM r a n + (if r.cs[n]!.kin = false ∧ r.cs[n]!.man = (a : Int) then 1 else 0) := by
  unfold countM
  rw [List.range_succ, List.filter_append, List.length_append]
  congr 1
  by_cases h : r.cs[n]!.kin = false ∧ r.cs[n]!.man = (a : Int)
  · rw [if_pos h, List.filter_cons_of_pos (by rw [h.1, decide_eq_true h.2]; rfl)]; rfl
  · rw [if_neg h, List.filter_cons_of_neg (by
      intro e
      simp only [Bool.and_eq_true, Bool.not_eq_true', decide_eq_true_eq] at e
      exact h e)]; rfl
theorem countM_le {r : Roll} {a n : Nat} : countM r a n ≤ n := by
  have := List.length_filter_le (fun i => !r.cs[i]!.kin && decide (r.cs[i]!.man = (a : Int))) (List.range n)
  simpa [countM] using this
theorem busy_to {r : Roll} (hv : WF r) {o1 o2 o3 o4 : Option Bool} : Ans Try.prog (AA b) 15 [encRoll o1 o2 o3 o4 r] (fun v => ∃ t, v = .bool t) := by
  refine Ans_of Try.func15 rfl rfl ?_
  have hm := hv.ms_l
  have hc8 := hv.cs_l
  simp +contextual (maxSteps := 1000000) (disch := first | omega | (with_reducible first | refine krN ?_ | refine krS ?_ | refine krP ?_ | refine krG ?_); kernel_rfl | refine kr ?_; simp only [go_sem, ↓reduceIte, Nat.reduceEqDiff, Nat.reduceAdd, Nat.reduceMul, Nat.reduceLeDiff, Nat.reduceLT, Nat.reduceBEq, bne, reduceCtorEq, Int.reduceLE, Int.reduceToNat, Int.reduceLT, Int.reduceAdd, Int.reduceSub, Int.reduceNeg, Int.cast_ofNat_Int]; done | fail) only [go_sem, ↓reduceIte, Nat.reduceEqDiff, Nat.reduceAdd, Nat.reduceMul, Nat.reduceLeDiff, Nat.reduceLT, Nat.reduceBEq, bne, reduceCtorEq, Int.reduceLE, Int.reduceToNat, Int.reduceLT, Int.reduceAdd, Int.reduceSub, Int.reduceNeg, Int.cast_ofNat_Int]
  refine wp_loop_to r.ms.length (fun i st => ∃ (ex : List (Nat × Vl)), st = ({ sl := (1, .loc (encRoll o1 o2 o3 o4 r)) :: (3, I i) :: ex, hp := noHeap, nx := 0 } : FS)) ?_ 0 (Nat.zero_le _) ⟨_, rfl⟩
  rintro i st hi ⟨ex, rfl⟩
  by_cases hc : i < r.ms.length
  · simp +contextual (maxSteps := 1000000) (disch := first | omega | (with_reducible first | refine krN ?_ | refine krS ?_ | refine krP ?_ | refine krG ?_); kernel_rfl | refine kr ?_; simp only [go_sem, ↓reduceIte, Nat.reduceEqDiff, Nat.reduceAdd, Nat.reduceMul, Nat.reduceLeDiff, Nat.reduceLT, Nat.reduceBEq, bne, reduceCtorEq, Int.reduceLE, Int.reduceToNat, Int.reduceLT, Int.reduceAdd, Int.reduceSub, Int.reduceNeg, Int.cast_ofNat_Int, Int.ofNat_lt, hc]; done | fail) only [go_sem, ↓reduceIte, Nat.reduceEqDiff, Nat.reduceAdd, Nat.reduceMul, Nat.reduceLeDiff, Nat.reduceLT, Nat.reduceBEq, bne, reduceCtorEq, Int.reduceLE, Int.reduceToNat, Int.reduceLT, Int.reduceAdd, Int.reduceSub, Int.reduceNeg, Int.cast_ofNat_Int, Int.ofNat_lt, hc]
    refine wp_loop_to r.cs.length (fun j st => ∃ (ex : List (Nat × Vl)), st = ({ sl := (1, .loc (encRoll o1 o2 o3 o4 r)) :: (3, I i) :: (4, I (countM r i j)) :: (5, I j) :: ex, hp := noHeap, nx := 0 } : FS)) ?_ 0 (Nat.zero_le _) ⟨_, rfl⟩
    rintro j st hj ⟨ex, rfl⟩
    by_cases hcj : j < r.cs.length
    · have hsu := @countM_succ r i j
      have hcl := @countM_le r i j
      have hwc : IntKind.wrap .i64 ((countM r i j : Int) + 1) = ((countM r i j + 1 : Nat) : Int) := by rw [wrap_i64 (by omega) (by omega)]; omega
      cases hk : r.cs[j]!.kin with
      | true =>
        rw [hk, if_neg (by simp)] at hsu
        simp +contextual (maxSteps := 1000000) (disch := first | omega | (with_reducible first | refine krN ?_ | refine krS ?_ | refine krP ?_ | refine krG ?_); kernel_rfl | refine kr ?_; simp only [go_sem, ↓reduceIte, Nat.reduceEqDiff, Nat.reduceAdd, Nat.reduceMul, Nat.reduceLeDiff, Nat.reduceLT, Nat.reduceBEq, bne, reduceCtorEq, Int.reduceLE, Int.reduceToNat, Int.reduceLT, Int.reduceAdd, Int.reduceSub, Int.reduceNeg, Int.cast_ofNat_Int, Int.ofNat_lt, hcj, ix_map, encC, hk]; done | fail) only [go_sem, ↓reduceIte, Nat.reduceEqDiff, Nat.reduceAdd, Nat.reduceMul, Nat.reduceLeDiff, Nat.reduceLT, Nat.reduceBEq, bne, reduceCtorEq, Int.reduceLE, Int.reduceToNat, Int.reduceLT, Int.reduceAdd, Int.reduceSub, Int.reduceNeg, Int.cast_ofNat_Int, Int.ofNat_lt, hcj, ix_map, encC, hk]
        exact ⟨_, by rw [hsu]; rfl⟩
      | false =>
        by_cases he : r.cs[j]!.man = (i : Int)
        · rw [if_pos ⟨hk, he⟩] at hsu
          simp +contextual (maxSteps := 1000000) (disch := first | omega | (with_reducible first | refine krN ?_ | refine krS ?_ | refine krP ?_ | refine krG ?_); kernel_rfl | refine kr ?_; simp only [go_sem, ↓reduceIte, Nat.reduceEqDiff, Nat.reduceAdd, Nat.reduceMul, Nat.reduceLeDiff, Nat.reduceLT, Nat.reduceBEq, bne, reduceCtorEq, Int.reduceLE, Int.reduceToNat, Int.reduceLT, Int.reduceAdd, Int.reduceSub, Int.reduceNeg, Int.cast_ofNat_Int, Int.ofNat_lt, hcj, ix_map, encC, hk, he, hwc]; done | fail) only [go_sem, ↓reduceIte, Nat.reduceEqDiff, Nat.reduceAdd, Nat.reduceMul, Nat.reduceLeDiff, Nat.reduceLT, Nat.reduceBEq, bne, reduceCtorEq, Int.reduceLE, Int.reduceToNat, Int.reduceLT, Int.reduceAdd, Int.reduceSub, Int.reduceNeg, Int.cast_ofNat_Int, Int.ofNat_lt, hcj, ix_map, encC, hk, he, hwc]
          exact ⟨_, by rw [hsu]⟩
        · rw [if_neg (fun h => he h.2)] at hsu
          simp +contextual (maxSteps := 1000000) (disch := first | omega | (with_reducible first | refine krN ?_ | refine krS ?_ | refine krP ?_ | refine krG ?_); kernel_rfl | refine kr ?_; simp only [go_sem, ↓reduceIte, Nat.reduceEqDiff, Nat.reduceAdd, Nat.reduceMul, Nat.reduceLeDiff, Nat.reduceLT, Nat.reduceBEq, bne, reduceCtorEq, Int.reduceLE, Int.reduceToNat, Int.reduceLT, Int.reduceAdd, Int.reduceSub, Int.reduceNeg, Int.cast_ofNat_Int, Int.ofNat_lt, hcj, ix_map, encC, hk, he]; done | fail) only [go_sem, ↓reduceIte, Nat.reduceEqDiff, Nat.reduceAdd, Nat.reduceMul, Nat.reduceLeDiff, Nat.reduceLT, Nat.reduceBEq, bne, reduceCtorEq, Int.reduceLE, Int.reduceToNat, Int.reduceLT, Int.reduceAdd, Int.reduceSub, Int.reduceNeg, Int.cast_ofNat_Int, Int.ofNat_lt, hcj, ix_map, encC, hk, he]
          exact ⟨_, by rw [hsu]; rfl⟩
    · have hje : j = r.cs.length := by omega
      subst hje
      by_cases h4 : 4 < (countM r i r.cs.length : Int)
      · simp +contextual (maxSteps := 1000000) (disch := first | omega | (with_reducible first | refine krN ?_ | refine krS ?_ | refine krP ?_ | refine krG ?_); kernel_rfl | refine kr ?_; simp only [go_sem, ↓reduceIte, Nat.reduceEqDiff, Nat.reduceAdd, Nat.reduceMul, Nat.reduceLeDiff, Nat.reduceLT, Nat.reduceBEq, bne, reduceCtorEq, Int.reduceLE, Int.reduceToNat, Int.reduceLT, Int.reduceAdd, Int.reduceSub, Int.reduceNeg, Int.cast_ofNat_Int, Int.lt_irrefl, h4, wc25, hv]; done | fail) only [go_sem, ↓reduceIte, Nat.reduceEqDiff, Nat.reduceAdd, Nat.reduceMul, Nat.reduceLeDiff, Nat.reduceLT, Nat.reduceBEq, bne, reduceCtorEq, Int.reduceLE, Int.reduceToNat, Int.reduceLT, Int.reduceAdd, Int.reduceSub, Int.reduceNeg, Int.cast_ofNat_Int, Int.lt_irrefl, h4, wc25, hv]
        exact ⟨_, rfl⟩
      · simp +contextual (maxSteps := 1000000) (disch := first | omega | (with_reducible first | refine krN ?_ | refine krS ?_ | refine krP ?_ | refine krG ?_); kernel_rfl | refine kr ?_; simp only [go_sem, ↓reduceIte, Nat.reduceEqDiff, Nat.reduceAdd, Nat.reduceMul, Nat.reduceLeDiff, Nat.reduceLT, Nat.reduceBEq, bne, reduceCtorEq, Int.reduceLE, Int.reduceToNat, Int.reduceLT, Int.reduceAdd, Int.reduceSub, Int.reduceNeg, Int.cast_ofNat_Int, Int.lt_irrefl, h4]; done | fail) only [go_sem, ↓reduceIte, Nat.reduceEqDiff, Nat.reduceAdd, Nat.reduceMul, Nat.reduceLeDiff, Nat.reduceLT, Nat.reduceBEq, bne, reduceCtorEq, Int.reduceLE, Int.reduceToNat, Int.reduceLT, Int.reduceAdd, Int.reduceSub, Int.reduceNeg, Int.cast_ofNat_Int, Int.lt_irrefl, h4]
        exact ⟨_, rfl⟩
  · have hie : i = r.ms.length := by omega
    subst hie
    simp +contextual (maxSteps := 1000000) (disch := first | omega | (with_reducible first | refine krN ?_ | refine krS ?_ | refine krP ?_ | refine krG ?_); kernel_rfl | refine kr ?_; simp only [go_sem, ↓reduceIte, Nat.reduceEqDiff, Nat.reduceAdd, Nat.reduceMul, Nat.reduceLeDiff, Nat.reduceLT, Nat.reduceBEq, bne, reduceCtorEq, Int.reduceLE, Int.reduceToNat, Int.reduceLT, Int.reduceAdd, Int.reduceSub, Int.reduceNeg, Int.cast_ofNat_Int, Int.lt_irrefl]; done | fail) only [go_sem, ↓reduceIte, Nat.reduceEqDiff, Nat.reduceAdd, Nat.reduceMul, Nat.reduceLeDiff, Nat.reduceLT, Nat.reduceBEq, bne, reduceCtorEq, Int.reduceLE, Int.reduceToNat, Int.reduceLT, Int.reduceAdd, Int.reduceSub, Int.reduceNeg, Int.cast_ofNat_Int, Int.lt_irrefl]
    exact ⟨_, rfl⟩
end
end Go.Proofs
