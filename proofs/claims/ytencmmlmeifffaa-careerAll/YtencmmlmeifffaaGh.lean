/- What functions of the given program do in the ideal machine (G32), and the plain laws of what they answer; the conditions stand in each theorem. -/
import Derived.Test.YtencmmlmeifffaaGb
import Derived.Test.YtencmmlmeifffaaHa
set_option linter.all false
set_option linter.unusedSectionVars false
set_option linter.unusedSimpArgs false
set_option linter.unusedVariables false
namespace Go.Proofs
open Go Go.Idl
set_option linter.unusedSimpArgs false
variable {b : Bool}
def OkP (r : Roll) (x : Rec) (y : Int) (c : Rec) (z : Int) : Prop :=
  ¬ (z = y ∧ (r.fs[x.town.toNat]!)[c.town.toNat]! = true) ∧ ¬ (0 ≤ x.office ∧ x.office < c.office ∧ z - y < r.os[c.office.toNat]!.gap) ∧ ¬ (0 ≤ x.office ∧ c.office = x.office ∧ z ≠ y ∧ max (z - y) (y - z) < r.os[x.office.toNat]!.again)
def ManL (r : Roll) (l : List Int) (m : Nat) : Prop := l[m]! ≤ l[r.ms.length + m]! ∧ l[r.ms.length + m]! ≤ l[m]! + r.life
def RecL (r : Roll) (l : List Int) (i : Nat) : Prop :=
  (r.cs[i]!.kin = true → r.plo ≤ l[r.cs[i]!.child.toNat]! - l[r.cs[i]!.man.toNat]! ∧ l[r.cs[i]!.child.toNat]! - l[r.cs[i]!.man.toNat]! ≤ r.phi ∧ l[r.cs[i]!.child.toNat]! ≤ l[r.ms.length + r.cs[i]!.man.toNat]! + 1) ∧
  (r.cs[i]!.kin = false → l[r.cs[i]!.man.toNat]! ≤ l[2 * r.ms.length + i]! ∧ l[2 * r.ms.length + i]! ≤ l[r.ms.length + r.cs[i]!.man.toNat]! ∧ (0 ≤ r.cs[i]!.office → r.os[r.cs[i]!.office.toNat]!.age ≤ l[2 * r.ms.length + i]! - l[r.cs[i]!.man.toNat]!))
def PairL (r : Roll) (l : List Int) (i k : Nat) : Prop := k ≠ i → r.cs[i]!.kin = false → r.cs[k]!.kin = false → r.cs[k]!.man = r.cs[i]!.man → OkP r r.cs[i]! l[2 * r.ms.length + i]! r.cs[k]! l[2 * r.ms.length + k]!
def LivedL (r : Roll) (l : List Int) : Prop := (∀ m, m < r.ms.length → ManL r l m) ∧ (∀ i, i < r.cs.length → RecL r l i) ∧ ∀ i k, i < r.cs.length → k < r.cs.length → PairL r l i k
set_option maxRecDepth 10000 in
set_option maxHeartbeats 4000000 in
theorem lived_to {r : Roll} (hv : Val r) {l : List Int} (hl : l.length = 2 * r.ms.length + r.cs.length) (hb : ∀ i, i < l.length → -4000 ≤ l[i]! ∧ l[i]! ≤ 4000) {D : Bool} (hD : D = true ↔ LivedL r l) {o1 o2 o3 o4 o : Option Bool} : Ans Try.prog (AA b) 37 [encRoll o1 o2 o3 o4 r, SL 1 (l.map I) o] (fun v => v = .bool D) := by
  refine Ans_of Try.func37 rfl rfl ?_
  have hm6 := hv.ms_l
  have hc8 := hv.cs_l
  have hli := hv.life
  simp +contextual (maxSteps := 1000000) (disch := first | omega | (with_reducible first | refine krN ?_ | refine krS ?_ | refine krP ?_ | refine krG ?_); kernel_rfl | refine kr ?_; simp only [go_sem, reduceCtorEq]; done | fail) only [go_sem, ↓reduceIte, Nat.reduceEqDiff, Nat.reduceAdd, Nat.reduceMul, Nat.reduceLeDiff, Nat.reduceLT, Nat.reduceBEq, bne, reduceCtorEq, Int.reduceLE, Int.reduceToNat, Int.reduceLT, Int.reduceAdd, Int.reduceSub, Int.reduceNeg, Int.cast_ofNat_Int]
  refine wp_loop_to r.ms.length (fun i st => ∃ (ex : List (Nat × Vl)), (∀ m, m < i → ManL r l m) ∧ st = ({ sl := (1, SL 1 (l.map I) o) :: (2, .loc (encRoll o1 o2 o3 o4 r)) :: (5, I r.ms.length) :: (6, I i) :: ex, hp := noHeap, nx := 0 } : FS)) ?_ 0 (Nat.zero_le _) ⟨_, fun m hm => absurd hm (by omega), rfl⟩
  rintro i st hi ⟨ex, hM, rfl⟩
  by_cases hc : i < r.ms.length
  · have h1 : (I r.ms.length) = I r.ms.length := rfl
    have b1 := hb i (by omega)
    have b2 := hb (r.ms.length + i) (by omega)
    have i1 : i < l.length := by omega
    have i2 : r.ms.length + i < l.length := by omega
    have e2 : ((r.ms.length : Int) + (i : Int)).toNat = r.ms.length + i := by omega
    simp +contextual (maxSteps := 1000000) (disch := first | omega | (with_reducible first | refine krN ?_ | refine krS ?_ | refine krP ?_ | refine krG ?_); kernel_rfl | refine kr ?_; simp only [go_sem, reduceCtorEq, Int.ofNat_lt, hc, ix_map, i1, i2, e2]; done | fail) only [go_sem, ↓reduceIte, Nat.reduceEqDiff, Nat.reduceAdd, Nat.reduceMul, Nat.reduceLeDiff, Nat.reduceLT, Nat.reduceBEq, bne, reduceCtorEq, Int.reduceLE, Int.reduceToNat, Int.reduceLT, Int.reduceAdd, Int.reduceSub, Int.reduceNeg, Int.cast_ofNat_Int, Int.ofNat_lt, hc, ix_map, i1, i2, e2]
    refine WI_of (fun h => ?_) (fun h => ?_)
    · have hF : D = false := by
        refine eq_false_of_ne_true fun e => ?_
        have := (hD.1 e).1 i hc
        unfold ManL at this
        omega
      rw [hF]
    · refine ⟨_, fun m hm => ?_, rfl⟩
      by_cases e : m = i
      · subst e; unfold ManL; omega
      · exact hM m (by omega)
  · have hie : i = r.ms.length := by omega
    subst hie
    simp +contextual (maxSteps := 1000000) (disch := first | omega | (with_reducible first | refine krN ?_ | refine krS ?_ | refine krP ?_ | refine krG ?_); kernel_rfl | refine kr ?_; simp only [go_sem, reduceCtorEq, Int.lt_irrefl]; done | fail) only [go_sem, ↓reduceIte, Nat.reduceEqDiff, Nat.reduceAdd, Nat.reduceMul, Nat.reduceLeDiff, Nat.reduceLT, Nat.reduceBEq, bne, reduceCtorEq, Int.reduceLE, Int.reduceToNat, Int.reduceLT, Int.reduceAdd, Int.reduceSub, Int.reduceNeg, Int.cast_ofNat_Int, Int.lt_irrefl]
    refine wp_loop_to r.cs.length (fun i st => ∃ (ex : List (Nat × Vl)), (∀ j, j < i → RecL r l j ∧ ∀ k, k < r.cs.length → PairL r l j k) ∧ st = ({ sl := (1, SL 1 (l.map I) o) :: (2, .loc (encRoll o1 o2 o3 o4 r)) :: (5, I r.ms.length) :: (7, I i) :: ex, hp := noHeap, nx := 0 } : FS)) ?_ 0 (Nat.zero_le _) ⟨_, fun m hm => absurd hm (by omega), rfl⟩
    clear hi hc ex
    rintro i st hi ⟨ex, hP, rfl⟩
    by_cases hc : i < r.cs.length
    · obtain ⟨a1, a2, a3, a4⟩ := hv.cs_ok _ (get!_mem hc)
      have i1 : 2 * r.ms.length + i < l.length := by omega
      have b1 := hb _ i1
      have e1 : (2 * (r.ms.length : Int) + (i : Int)).toNat = 2 * r.ms.length + i := by omega
      have i3 : r.cs[i]!.man.toNat < l.length := by omega
      have b3 := hb _ i3
      have i4 : r.ms.length + r.cs[i]!.man.toNat < l.length := by omega
      have b4 := hb _ i4
      have e4 : ((r.ms.length : Int) + r.cs[i]!.man).toNat = r.ms.length + r.cs[i]!.man.toNat := by omega
      have hpar := hv.par
      cases hk : r.cs[i]!.kin with
      | true =>
        obtain ⟨k1, k2, k3, _⟩ := a3 hk
        have i5 : r.cs[i]!.child.toNat < l.length := by omega
        have b5 := hb _ i5
        simp +contextual (maxSteps := 1000000) (disch := first | omega | (with_reducible first | refine krN ?_ | refine krS ?_ | refine krP ?_ | refine krG ?_); kernel_rfl | refine kr ?_; simp only [go_sem, reduceCtorEq, Int.ofNat_lt, hc, ix_map, encC, i1, e1, hk, e4, i3, i4, i5]; done | fail) only [go_sem, ↓reduceIte, Nat.reduceEqDiff, Nat.reduceAdd, Nat.reduceMul, Nat.reduceLeDiff, Nat.reduceLT, Nat.reduceBEq, bne, reduceCtorEq, Int.reduceLE, Int.reduceToNat, Int.reduceLT, Int.reduceAdd, Int.reduceSub, Int.reduceNeg, Int.cast_ofNat_Int, Int.ofNat_lt, hc, ix_map, encC, i1, e1, hk, e4, i3, i4, i5]
        refine WI_of (fun h => ?_) (fun h => ?_)
        · have hF : D = false := by
            refine eq_false_of_ne_true fun e => ?_
            have := ((hD.1 e).2.1 i hc).1 hk
            omega
          rw [hF]
        · refine ⟨_, fun j hj => ?_, rfl⟩
          by_cases e : j = i
          · subst e
            exact ⟨⟨fun _ => by omega, fun e => absurd (hk.symm.trans e) (by decide)⟩, fun k hk' _ e => absurd (hk.symm.trans e) (by decide)⟩
          · exact hP j (by omega)
      | false =>
        obtain ⟨k1, k2, k3, k4, _, _⟩ := a4 hk
        have key : ¬ ((l[2 * r.ms.length + i]! < l[r.cs[i]!.man.toNat]! ∨ l[r.ms.length + r.cs[i]!.man.toNat]! < l[2 * r.ms.length + i]!) ∨ (0 ≤ r.cs[i]!.office ∧ l[2 * r.ms.length + i]! - l[r.cs[i]!.man.toNat]! < r.os[r.cs[i]!.office.toNat]!.age)) → RecL r l i := fun h => by
          refine ⟨fun e => absurd (hk.symm.trans e) (by decide), fun _ => ⟨by omega, by omega, fun e => by omega⟩⟩
        have yek : RecL r l i → ¬ ((l[2 * r.ms.length + i]! < l[r.cs[i]!.man.toNat]! ∨ l[r.ms.length + r.cs[i]!.man.toNat]! < l[2 * r.ms.length + i]!) ∨ (0 ≤ r.cs[i]!.office ∧ l[2 * r.ms.length + i]! - l[r.cs[i]!.man.toNat]! < r.os[r.cs[i]!.office.toNat]!.age)) := fun h => by
          obtain ⟨x1, x2, x3⟩ := h.2 hk
          omega
        have hF1 : ¬ RecL r l i → D = false := fun h => eq_false_of_ne_true fun e => h ((hD.1 e).2.1 i hc)
        rcases Decidable.em (0 ≤ r.cs[i]!.office) with ho | ho
        case' inl =>
          have o6 : r.cs[i]!.office.toNat < r.os.length := by omega
          have o7 := hv.os_ok _ (get!_mem o6)
          unfold OffOk at o7
          simp +contextual (maxSteps := 1000000) (disch := first | omega | (with_reducible first | refine krN ?_ | refine krS ?_ | refine krP ?_ | refine krG ?_); kernel_rfl | refine kr ?_; simp only [go_sem, reduceCtorEq, Int.ofNat_lt, hc, ix_map, encC, i1, e1, hk, e4, i3, i4, ho, encO]; done | fail) only [go_sem, ↓reduceIte, Nat.reduceEqDiff, Nat.reduceAdd, Nat.reduceMul, Nat.reduceLeDiff, Nat.reduceLT, Nat.reduceBEq, bne, reduceCtorEq, Int.reduceLE, Int.reduceToNat, Int.reduceLT, Int.reduceAdd, Int.reduceSub, Int.reduceNeg, Int.cast_ofNat_Int, Int.ofNat_lt, hc, ix_map, encC, i1, e1, hk, e4, i3, i4, ho, encO]
          refine WI_of (fun h => by rw [hF1 (fun e => yek e (by omega))]) (fun h => ?_)
          clear o6 o7
        case' inr =>
          simp +contextual (maxSteps := 1000000) (disch := first | omega | (with_reducible first | refine krN ?_ | refine krS ?_ | refine krP ?_ | refine krG ?_); kernel_rfl | refine kr ?_; simp only [go_sem, reduceCtorEq, Int.ofNat_lt, hc, ix_map, encC, i1, e1, hk, e4, i3, i4, ho]; done | fail) only [go_sem, ↓reduceIte, Nat.reduceEqDiff, Nat.reduceAdd, Nat.reduceMul, Nat.reduceLeDiff, Nat.reduceLT, Nat.reduceBEq, bne, reduceCtorEq, Int.reduceLE, Int.reduceToNat, Int.reduceLT, Int.reduceAdd, Int.reduceSub, Int.reduceNeg, Int.cast_ofNat_Int, Int.ofNat_lt, hc, ix_map, encC, i1, e1, hk, e4, i3, i4, ho]
          refine WI_of (fun h => by rw [hF1 (fun e => yek e (by omega))]) (fun h => ?_)
        all_goals
          have hrec : RecL r l i := key (by omega)
          clear ho h key yek hF1 i3 b3 i4 b4 e4
          refine wp_loop_to r.cs.length (fun k st => ∃ (ex : List (Nat × Vl)), (∀ j, j < k → PairL r l i j) ∧ st = ({ sl := (1, SL 1 (l.map I) o) :: (2, .loc (encRoll o1 o2 o3 o4 r)) :: (5, I r.ms.length) :: (7, I i) :: (8, .loc (.agg [.bool false, I r.cs[i]!.man, I r.cs[i]!.office, I r.cs[i]!.town, I r.cs[i]!.child, I r.cs[i]!.lo, I r.cs[i]!.hi])) :: (9, I l[2 * r.ms.length + i]!) :: (11, I k) :: ex, hp := noHeap, nx := 0 } : FS)) ?_ 0 (Nat.zero_le _) ⟨_, fun m hm => absurd hm (by omega), rfl⟩
          rintro k st hk' ⟨ex, hQ, rfl⟩
          by_cases hck : k < r.cs.length
          · have j1 : 2 * r.ms.length + k < l.length := by omega
            have c1 := hb _ j1
            have f1 : (2 * (r.ms.length : Int) + (k : Int)).toNat = 2 * r.ms.length + k := by omega
            obtain ⟨_, _, _, d4⟩ := hv.cs_ok _ (get!_mem hck)
            have next : PairL r l i k → ∀ j, j < k + 1 → PairL r l i j := fun h j hj => by
              by_cases e : j = k
              · rw [e]; exact h
              · exact hQ j (by omega)
            have hF2 : ¬ PairL r l i k → D = false := fun h => eq_false_of_ne_true fun e => h ((hD.1 e).2.2 i k hc hck)
            by_cases hki : k = i
            · have hki' : (k : Int) = (i : Int) := by omega
              simp +contextual (maxSteps := 1000000) (disch := first | omega | (with_reducible first | refine krN ?_ | refine krS ?_ | refine krP ?_ | refine krG ?_); kernel_rfl | refine kr ?_; simp only [go_sem, reduceCtorEq, Int.ofNat_lt, hc, hck, ix_map, encC, j1, f1, hki']; done | fail) only [go_sem, ↓reduceIte, Nat.reduceEqDiff, Nat.reduceAdd, Nat.reduceMul, Nat.reduceLeDiff, Nat.reduceLT, Nat.reduceBEq, bne, reduceCtorEq, Int.reduceLE, Int.reduceToNat, Int.reduceLT, Int.reduceAdd, Int.reduceSub, Int.reduceNeg, Int.cast_ofNat_Int, Int.ofNat_lt, hc, hck, ix_map, encC, j1, f1, hki']
              exact ⟨[], next fun e => absurd hki e, by rw [hki]⟩
            · have hki' : ¬ ((k : Int) = (i : Int)) := by omega
              cases hkk : r.cs[k]!.kin with
              | true =>
                simp +contextual (maxSteps := 1000000) (disch := first | omega | (with_reducible first | refine krN ?_ | refine krS ?_ | refine krP ?_ | refine krG ?_); kernel_rfl | refine kr ?_; simp only [go_sem, reduceCtorEq, Int.ofNat_lt, hck, ix_map, encC, j1, f1, hki', hkk]; done | fail) only [go_sem, ↓reduceIte, Nat.reduceEqDiff, Nat.reduceAdd, Nat.reduceMul, Nat.reduceLeDiff, Nat.reduceLT, Nat.reduceBEq, bne, reduceCtorEq, Int.reduceLE, Int.reduceToNat, Int.reduceLT, Int.reduceAdd, Int.reduceSub, Int.reduceNeg, Int.cast_ofNat_Int, Int.ofNat_lt, hck, ix_map, encC, j1, f1, hki', hkk]
                exact ⟨_, next fun _ _ e => absurd (hkk.symm.trans e) (by decide), rfl⟩
              | false =>
                by_cases hkm : r.cs[k]!.man = r.cs[i]!.man
                · have d4 := d4 hkk
                  by_cases hz : l[2 * r.ms.length + k]! = l[2 * r.ms.length + i]!
                  · have t1 : r.cs[i]!.town.toNat < r.fs.length := by omega
                    have t2 : r.cs[k]!.town.toNat < (r.fs[r.cs[i]!.town.toNat]!).length := by rw [hv.fs_ok _ (get!_mem t1)]; omega
                    cases hfar : (r.fs[r.cs[i]!.town.toNat]!)[r.cs[k]!.town.toNat]! with
                    | true =>
                      simp +contextual (maxSteps := 1000000) (disch := first | omega | (with_reducible first | refine krN ?_ | refine krS ?_ | refine krP ?_ | refine krG ?_); kernel_rfl | refine kr ?_; simp only [go_sem, reduceCtorEq, Int.ofNat_lt, hck, ix_map, encC, j1, f1, hki', hkk, hkm, hz, hfar, t1, t2, encRow]; done | fail) only [go_sem, ↓reduceIte, Nat.reduceEqDiff, Nat.reduceAdd, Nat.reduceMul, Nat.reduceLeDiff, Nat.reduceLT, Nat.reduceBEq, bne, reduceCtorEq, Int.reduceLE, Int.reduceToNat, Int.reduceLT, Int.reduceAdd, Int.reduceSub, Int.reduceNeg, Int.cast_ofNat_Int, Int.ofNat_lt, hck, ix_map, encC, j1, f1, hki', hkk, hkm, hz, hfar, t1, t2, encRow]
                      rw [hF2 fun e => (e hki hk hkk hkm).1 ⟨hz, hfar⟩]
                    | false =>
                      have hfz : ¬ (l[2 * r.ms.length + k]! = l[2 * r.ms.length + i]! ∧ (r.fs[r.cs[i]!.town.toNat]!)[r.cs[k]!.town.toNat]! = true) := fun e => absurd (hfar.symm.trans e.2) (by decide)
                      by_cases ho : 0 ≤ r.cs[i]!.office
                      · have w1 : r.cs[i]!.office.toNat < r.os.length := by omega
                        have x1 := hv.os_ok _ (get!_mem w1)
                        unfold OffOk at x1
                        by_cases hlt : r.cs[i]!.office < r.cs[k]!.office
                        · have heq : ¬ (r.cs[k]!.office = r.cs[i]!.office) := by omega
                          have w2 : r.cs[k]!.office.toNat < r.os.length := by omega
                          have x2 := hv.os_ok _ (get!_mem w2)
                          unfold OffOk at x2
                          simp +contextual (maxSteps := 1000000) (disch := first | omega | (with_reducible first | refine krN ?_ | refine krS ?_ | refine krP ?_ | refine krG ?_); kernel_rfl | refine kr ?_; simp only [go_sem, reduceCtorEq, Int.ofNat_lt, hck, ix_map, encC, j1, f1, hki', hkk, hkm, hz, hfar, t1, t2, encRow, ho, hlt, heq, encO, w1, w2]; done | fail) only [go_sem, ↓reduceIte, Nat.reduceEqDiff, Nat.reduceAdd, Nat.reduceMul, Nat.reduceLeDiff, Nat.reduceLT, Nat.reduceBEq, bne, reduceCtorEq, Int.reduceLE, Int.reduceToNat, Int.reduceLT, Int.reduceAdd, Int.reduceSub, Int.reduceNeg, Int.cast_ofNat_Int, Int.ofNat_lt, hck, ix_map, encC, j1, f1, hki', hkk, hkm, hz, hfar, t1, t2, encRow, ho, hlt, heq, encO, w1, w2]
                          refine WI_of (fun h => by rw [hF2 fun e => (e hki hk hkk hkm).2.1 ⟨ho, hlt, by omega⟩]) (fun h => ?_)
                          exact ⟨_, next fun _ _ _ _ => ⟨hfz, fun e => h (by have := e.2.2; omega), fun e => heq e.2.1⟩, rfl⟩
                        · by_cases heq : r.cs[k]!.office = r.cs[i]!.office
                          · simp +contextual (maxSteps := 1000000) (disch := first | omega | (with_reducible first | refine krN ?_ | refine krS ?_ | refine krP ?_ | refine krG ?_); kernel_rfl | refine kr ?_; simp only [go_sem, reduceCtorEq, Int.ofNat_lt, hck, ix_map, encC, j1, f1, hki', hkk, hkm, hz, hfar, t1, t2, encRow, ho, hlt, heq, encO, w1, Int.lt_irrefl]; done | fail) only [go_sem, ↓reduceIte, Nat.reduceEqDiff, Nat.reduceAdd, Nat.reduceMul, Nat.reduceLeDiff, Nat.reduceLT, Nat.reduceBEq, bne, reduceCtorEq, Int.reduceLE, Int.reduceToNat, Int.reduceLT, Int.reduceAdd, Int.reduceSub, Int.reduceNeg, Int.cast_ofNat_Int, Int.ofNat_lt, hck, ix_map, encC, j1, f1, hki', hkk, hkm, hz, hfar, t1, t2, encRow, ho, hlt, heq, encO, w1, Int.lt_irrefl]
                            exact ⟨_, next fun _ _ _ _ => ⟨hfz, fun e => hlt e.2.1, fun e => e.2.2.1 hz⟩, rfl⟩
                          · simp +contextual (maxSteps := 1000000) (disch := first | omega | (with_reducible first | refine krN ?_ | refine krS ?_ | refine krP ?_ | refine krG ?_); kernel_rfl | refine kr ?_; simp only [go_sem, reduceCtorEq, Int.ofNat_lt, hck, ix_map, encC, j1, f1, hki', hkk, hkm, hz, hfar, t1, t2, encRow, ho, hlt, heq]; done | fail) only [go_sem, ↓reduceIte, Nat.reduceEqDiff, Nat.reduceAdd, Nat.reduceMul, Nat.reduceLeDiff, Nat.reduceLT, Nat.reduceBEq, bne, reduceCtorEq, Int.reduceLE, Int.reduceToNat, Int.reduceLT, Int.reduceAdd, Int.reduceSub, Int.reduceNeg, Int.cast_ofNat_Int, Int.ofNat_lt, hck, ix_map, encC, j1, f1, hki', hkk, hkm, hz, hfar, t1, t2, encRow, ho, hlt, heq]
                            exact ⟨_, next fun _ _ _ _ => ⟨hfz, fun e => hlt e.2.1, fun e => heq e.2.1⟩, rfl⟩
                      · simp +contextual (maxSteps := 1000000) (disch := first | omega | (with_reducible first | refine krN ?_ | refine krS ?_ | refine krP ?_ | refine krG ?_); kernel_rfl | refine kr ?_; simp only [go_sem, reduceCtorEq, Int.ofNat_lt, hck, ix_map, encC, j1, f1, hki', hkk, hkm, hz, hfar, t1, t2, encRow, ho]; done | fail) only [go_sem, ↓reduceIte, Nat.reduceEqDiff, Nat.reduceAdd, Nat.reduceMul, Nat.reduceLeDiff, Nat.reduceLT, Nat.reduceBEq, bne, reduceCtorEq, Int.reduceLE, Int.reduceToNat, Int.reduceLT, Int.reduceAdd, Int.reduceSub, Int.reduceNeg, Int.cast_ofNat_Int, Int.ofNat_lt, hck, ix_map, encC, j1, f1, hki', hkk, hkm, hz, hfar, t1, t2, encRow, ho]
                        exact ⟨_, next fun _ _ _ _ => ⟨hfz, fun e => ho e.1, fun e => ho e.1⟩, rfl⟩
                  · have hfz : ¬ (l[2 * r.ms.length + k]! = l[2 * r.ms.length + i]! ∧ (r.fs[r.cs[i]!.town.toNat]!)[r.cs[k]!.town.toNat]! = true) := fun e => hz e.1
                    by_cases ho : 0 ≤ r.cs[i]!.office
                    · have w1 : r.cs[i]!.office.toNat < r.os.length := by omega
                      have x1 := hv.os_ok _ (get!_mem w1)
                      unfold OffOk at x1
                      by_cases hlt : r.cs[i]!.office < r.cs[k]!.office
                      · have heq : ¬ (r.cs[k]!.office = r.cs[i]!.office) := by omega
                        have w2 : r.cs[k]!.office.toNat < r.os.length := by omega
                        have x2 := hv.os_ok _ (get!_mem w2)
                        unfold OffOk at x2
                        simp +contextual (maxSteps := 1000000) (disch := first | omega | (with_reducible first | refine krN ?_ | refine krS ?_ | refine krP ?_ | refine krG ?_); kernel_rfl | refine kr ?_; simp only [go_sem, reduceCtorEq, Int.ofNat_lt, hck, ix_map, encC, j1, f1, hki', hkk, hkm, hz, ho, hlt, heq, encO, w1, w2]; done | fail) only [go_sem, ↓reduceIte, Nat.reduceEqDiff, Nat.reduceAdd, Nat.reduceMul, Nat.reduceLeDiff, Nat.reduceLT, Nat.reduceBEq, bne, reduceCtorEq, Int.reduceLE, Int.reduceToNat, Int.reduceLT, Int.reduceAdd, Int.reduceSub, Int.reduceNeg, Int.cast_ofNat_Int, Int.ofNat_lt, hck, ix_map, encC, j1, f1, hki', hkk, hkm, hz, ho, hlt, heq, encO, w1, w2]
                        refine WI_of (fun h => by rw [hF2 fun e => (e hki hk hkk hkm).2.1 ⟨ho, hlt, by omega⟩]) (fun h => ?_)
                        exact ⟨_, next fun _ _ _ _ => ⟨hfz, fun e => h (by have := e.2.2; omega), fun e => heq e.2.1⟩, rfl⟩
                      · by_cases heq : r.cs[k]!.office = r.cs[i]!.office
                        · simp +contextual (maxSteps := 1000000) (disch := first | omega | (with_reducible first | refine krN ?_ | refine krS ?_ | refine krP ?_ | refine krG ?_); kernel_rfl | refine kr ?_; simp only [go_sem, reduceCtorEq, Int.ofNat_lt, hck, ix_map, encC, j1, f1, hki', hkk, hkm, hz, ho, hlt, heq, encO, w1, Int.lt_irrefl]; done | fail) only [go_sem, ↓reduceIte, Nat.reduceEqDiff, Nat.reduceAdd, Nat.reduceMul, Nat.reduceLeDiff, Nat.reduceLT, Nat.reduceBEq, bne, reduceCtorEq, Int.reduceLE, Int.reduceToNat, Int.reduceLT, Int.reduceAdd, Int.reduceSub, Int.reduceNeg, Int.cast_ofNat_Int, Int.ofNat_lt, hck, ix_map, encC, j1, f1, hki', hkk, hkm, hz, ho, hlt, heq, encO, w1, Int.lt_irrefl]
                          refine WI_of (fun h => by rw [hF2 fun e => (e hki hk hkk hkm).2.2 ⟨ho, heq, hz, h⟩]) (fun h => ?_)
                          exact ⟨_, next fun _ _ _ _ => ⟨hfz, fun e => hlt e.2.1, fun e => h e.2.2.2⟩, rfl⟩
                        · simp +contextual (maxSteps := 1000000) (disch := first | omega | (with_reducible first | refine krN ?_ | refine krS ?_ | refine krP ?_ | refine krG ?_); kernel_rfl | refine kr ?_; simp only [go_sem, reduceCtorEq, Int.ofNat_lt, hck, ix_map, encC, j1, f1, hki', hkk, hkm, hz, ho, hlt, heq]; done | fail) only [go_sem, ↓reduceIte, Nat.reduceEqDiff, Nat.reduceAdd, Nat.reduceMul, Nat.reduceLeDiff, Nat.reduceLT, Nat.reduceBEq, bne, reduceCtorEq, Int.reduceLE, Int.reduceToNat, Int.reduceLT, Int.reduceAdd, Int.reduceSub, Int.reduceNeg, Int.cast_ofNat_Int, Int.ofNat_lt, hck, ix_map, encC, j1, f1, hki', hkk, hkm, hz, ho, hlt, heq]
                          exact ⟨_, next fun _ _ _ _ => ⟨hfz, fun e => hlt e.2.1, fun e => heq e.2.1⟩, rfl⟩
                    · simp +contextual (maxSteps := 1000000) (disch := first | omega | (with_reducible first | refine krN ?_ | refine krS ?_ | refine krP ?_ | refine krG ?_); kernel_rfl | refine kr ?_; simp only [go_sem, reduceCtorEq, Int.ofNat_lt, hck, ix_map, encC, j1, f1, hki', hkk, hkm, hz, ho]; done | fail) only [go_sem, ↓reduceIte, Nat.reduceEqDiff, Nat.reduceAdd, Nat.reduceMul, Nat.reduceLeDiff, Nat.reduceLT, Nat.reduceBEq, bne, reduceCtorEq, Int.reduceLE, Int.reduceToNat, Int.reduceLT, Int.reduceAdd, Int.reduceSub, Int.reduceNeg, Int.cast_ofNat_Int, Int.ofNat_lt, hck, ix_map, encC, j1, f1, hki', hkk, hkm, hz, ho]
                      exact ⟨_, next fun _ _ _ _ => ⟨hfz, fun e => ho e.1, fun e => ho e.1⟩, rfl⟩
                · simp +contextual (maxSteps := 1000000) (disch := first | omega | (with_reducible first | refine krN ?_ | refine krS ?_ | refine krP ?_ | refine krG ?_); kernel_rfl | refine kr ?_; simp only [go_sem, reduceCtorEq, Int.ofNat_lt, hck, ix_map, encC, j1, f1, hki', hkk, hkm]; done | fail) only [go_sem, ↓reduceIte, Nat.reduceEqDiff, Nat.reduceAdd, Nat.reduceMul, Nat.reduceLeDiff, Nat.reduceLT, Nat.reduceBEq, bne, reduceCtorEq, Int.reduceLE, Int.reduceToNat, Int.reduceLT, Int.reduceAdd, Int.reduceSub, Int.reduceNeg, Int.cast_ofNat_Int, Int.ofNat_lt, hck, ix_map, encC, j1, f1, hki', hkk, hkm]
                  exact ⟨_, next fun _ _ _ e => absurd e hkm, rfl⟩
          · have hke : k = r.cs.length := by omega
            subst hke
            simp +contextual (maxSteps := 1000000) (disch := first | omega | (with_reducible first | refine krN ?_ | refine krS ?_ | refine krP ?_ | refine krG ?_); kernel_rfl | refine kr ?_; simp only [go_sem, reduceCtorEq, Int.lt_irrefl, hc]; done | fail) only [go_sem, ↓reduceIte, Nat.reduceEqDiff, Nat.reduceAdd, Nat.reduceMul, Nat.reduceLeDiff, Nat.reduceLT, Nat.reduceBEq, bne, reduceCtorEq, Int.reduceLE, Int.reduceToNat, Int.reduceLT, Int.reduceAdd, Int.reduceSub, Int.reduceNeg, Int.cast_ofNat_Int, Int.lt_irrefl, hc]
            refine ⟨_, fun j hj => ?_, rfl⟩
            by_cases e : j = i
            · rw [e]; exact ⟨hrec, fun k hk => hQ k hk⟩
            · exact hP j (by omega)
    · have hie : i = r.cs.length := by omega
      subst hie
      simp +contextual (maxSteps := 1000000) (disch := first | omega | (with_reducible first | refine krN ?_ | refine krS ?_ | refine krP ?_ | refine krG ?_); kernel_rfl | refine kr ?_; simp only [go_sem, reduceCtorEq, Int.lt_irrefl]; done | fail) only [go_sem, ↓reduceIte, Nat.reduceEqDiff, Nat.reduceAdd, Nat.reduceMul, Nat.reduceLeDiff, Nat.reduceLT, Nat.reduceBEq, bne, reduceCtorEq, Int.reduceLE, Int.reduceToNat, Int.reduceLT, Int.reduceAdd, Int.reduceSub, Int.reduceNeg, Int.cast_ofNat_Int, Int.lt_irrefl]
      rw [hD.2 ⟨hM, fun i hi => (hP i hi).1, fun i k hi hk => (hP i hi).2 k hk⟩]
end Go.Proofs
