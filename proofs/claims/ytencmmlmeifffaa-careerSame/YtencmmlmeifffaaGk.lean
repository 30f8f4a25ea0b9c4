/- What functions of the given program do in the ideal machine (G31), and the plain laws of what they answer; the conditions stand in each theorem. -/
import Derived.Test.YtencmmlmeifffaaGi
import Derived.Test.YtencmmlmeifffaaGh
set_option linter.all false
set_option linter.unusedSectionVars false
set_option linter.unusedSimpArgs false
set_option linter.unusedVariables false
namespace Go.Proofs
open Go Go.Idl
set_option linter.unusedSimpArgs false
variable {b : Bool}
def TwoC (m n : Nat) (x c : Rec) : Prop :=
  x.kin = c.kin ∧ x.office = c.office ∧ x.town = c.town ∧ x.lo = c.lo ∧ x.hi = c.hi ∧ (x.man = c.man ∨ (c.man = m ∧ x.man = n)) ∧ (x.child = c.child ∨ (c.kin = true ∧ c.child = m ∧ x.child = n))
section
variable {R : Roll} {t : Nat → Int} {m : Nat} {P : List Rec}
@[reducible] def twoR (R : Roll) (m : Nat) (P : List Rec) : Roll := ⟨R.os, R.life, R.plo, R.phi, R.fs, R.ms ++ [R.ms[m]!], P⟩
def twoT (n m : Nat) (t : Nat → Int) : Nat → Int := fun i => if i = n then t m else if i = 6 + n then t (6 + m) else t i
theorem two_wf (hw : WF R) (h4 : R.ms.length ≤ 4) (hm : m < R.ms.length) (hPl : P.length = R.cs.length) (hTC : ∀ j, j < R.cs.length → TwoC m R.ms.length P[j]! R.cs[j]!) : WF (twoR R m P) where
  os_l := hw.os_l
  os_ok := hw.os_ok
  life := hw.life
  par := hw.par
  fs_l := hw.fs_l
  fs_ok := hw.fs_ok
  ms_l := by show 1 ≤ (R.ms ++ [R.ms[m]!]).length ∧ (R.ms ++ [R.ms[m]!]).length ≤ 6; rw [List.length_append, List.length_singleton]; omega
  ms_ok x hx := by
    rcases List.mem_append.1 hx with h | h
    · exact hw.ms_ok x h
    · rw [List.mem_singleton.1 h]; exact hw.ms_ok _ (get!_mem hm)
  cs_l := by show P.length ≤ 8; rw [hPl]; exact hw.cs_l
  cs_ok x hx := by
    have hx : x ∈ P := hx
    obtain ⟨j, hj, rfl⟩ := List.getElem_of_mem hx
    obtain ⟨k1, k2, k3, k4, k5, k6, k7⟩ := hTC j (by omega)
    obtain ⟨c1, c2, c3, c4⟩ := hw.cs_ok _ (get!_mem (show j < R.cs.length by omega))
    rw [get!_eq hj] at k1 k2 k3 k4 k5 k6 k7
    have hl : (twoR R m P).ms.length = R.ms.length + 1 := by show (R.ms ++ [R.ms[m]!]).length = _; rw [List.length_append, List.length_singleton]
    unfold RecVal
    rw [hl, k1, k2, k3, k4, k5]
    refine ⟨by omega, by omega, fun e => ?_, fun e => ?_⟩
    · obtain ⟨d1, d2, d3, d4⟩ := c3 e
      exact ⟨by omega, by omega, by omega, d4⟩
    · obtain ⟨d1, d2, d3, d4, d5, d6⟩ := c4 e
      have : ¬ (R.cs[j]!.kin = true) := by rw [e]; decide
      exact ⟨d1, d2, d3, d4, by rcases k7 with h | h; exact h.trans d5; exact absurd h.1 this, d6⟩
  names x hx := by
    rcases List.mem_append.1 hx with h | h
    · exact hw.names x h
    · rw [List.mem_singleton.1 h]; exact hw.names _ (get!_mem hm)
  diag := hw.diag
  symm := hw.symm
theorem FitP.congr {os : List Office} {fs : List (List Bool)} {a c a' c' : Rec} {y z : Int} (h : FitP os fs a y c z) (h1 : a'.office = a.office) (h2 : a'.town = a.town) (h3 : c'.office = c.office) (h4 : c'.town = c.town) : FitP os fs a' y c' z := by
  unfold FitP at *
  rw [h1, h2, h3, h4]
  exact h
theorem two_livedM (hw : WF R) (h4 : R.ms.length ≤ 4) (hm : m < R.ms.length) (hPl : P.length = R.cs.length) (hTC : ∀ j, j < R.cs.length → TwoC m R.ms.length P[j]! R.cs[j]!) (h : Lived R t) : LivedM (twoR R m P) m R.ms.length (twoT R.ms.length m t) := by
  have g1 : twoT R.ms.length m t R.ms.length = t m := if_pos rfl
  have g2 : twoT R.ms.length m t (6 + R.ms.length) = t (6 + m) := by unfold twoT; rw [if_neg (by omega), if_pos rfl]
  have g3 : ∀ i, i < R.ms.length → twoT R.ms.length m t i = t i := fun i hi => by unfold twoT; rw [if_neg (by omega), if_neg (by omega)]
  have g4 : ∀ i, i < R.ms.length → twoT R.ms.length m t (6 + i) = t (6 + i) := fun i hi => by unfold twoT; rw [if_neg (by omega), if_neg (by omega)]
  have g5 : ∀ i, twoT R.ms.length m t (12 + i) = t (12 + i) := fun i => by unfold twoT; rw [if_neg (by omega), if_neg (by omega)]
  have hl : (twoR R m P).ms.length = R.ms.length + 1 := by show (R.ms ++ [R.ms[m]!]).length = _; rw [List.length_append, List.length_singleton]
  have hlt : ∀ i, i < R.ms.length → (twoR R m P).ms[i]! = R.ms[i]! := fun i hi => get!_snoc_lt hi
  have heq : (twoR R m P).ms[R.ms.length]! = R.ms[m]! := get!_snoc_eq rfl
  have hcs : (twoR R m P).cs = P := rfl
  have hman : ∀ i, i < R.cs.length → P[i]!.man.toNat ≤ R.ms.length ∧ cls m R.ms.length P[i]!.man.toNat = R.cs[i]!.man.toNat ∧ twoT R.ms.length m t P[i]!.man.toNat = t R.cs[i]!.man.toNat ∧ twoT R.ms.length m t (6 + P[i]!.man.toNat) = t (6 + R.cs[i]!.man.toNat) := fun i hi => by
    obtain ⟨_, _, _, _, _, k6, _⟩ := hTC i hi
    obtain ⟨c1, c2, _⟩ := hw.cs_ok _ (get!_mem hi)
    unfold cls
    rcases k6 with e | ⟨e1, e2⟩
    · rw [e, if_neg (by omega), g3 _ (by omega), g4 _ (by omega)]; exact ⟨by omega, rfl, rfl, rfl⟩
    · rw [e1, e2, Int.toNat_natCast, Int.toNat_natCast, if_pos rfl, g1, g2]; exact ⟨Nat.le_refl _, rfl, rfl, rfl⟩
  have hch : ∀ i, i < R.cs.length → R.cs[i]!.kin = true → cls m R.ms.length P[i]!.child.toNat = R.cs[i]!.child.toNat ∧ twoT R.ms.length m t P[i]!.child.toNat = t R.cs[i]!.child.toNat := fun i hi hk => by
    obtain ⟨_, _, _, _, _, _, k7⟩ := hTC i hi
    obtain ⟨_, _, c3, _⟩ := hw.cs_ok _ (get!_mem hi)
    obtain ⟨d1, d2, _⟩ := c3 hk
    unfold cls
    rcases k7 with e | ⟨_, e1, e2⟩
    · rw [e, if_neg (by omega), g3 _ (by omega)]; exact ⟨rfl, rfl⟩
    · rw [e1, e2, Int.toNat_natCast, Int.toNat_natCast, if_pos rfl, g1]; exact ⟨rfl, rfl⟩
  refine ⟨by rw [g1, g3 m hm], by rw [g2, g4 m hm], fun i hi => ?_, fun i hi => ?_, fun i hi => ?_, fun i hi => ?_, fun i hi hkn => ?_, fun i hi hkn => ?_, fun i k hik hki k1 k2 he => ?_, fun i hi hkn => ?_⟩
  · rw [hl] at hi
    by_cases e : i = R.ms.length
    · rw [e, heq, g1]; exact h.born m hm
    · rw [hlt i (by omega), g3 i (by omega)]; exact h.born i (by omega)
  · rw [hl] at hi
    by_cases e : i = R.ms.length
    · rw [e, heq, g2]; exact h.died m hm
    · rw [hlt i (by omega), g4 i (by omega)]; exact h.died i (by omega)
  · rw [hl] at hi
    by_cases e : i = R.ms.length
    · rw [e, g1, g2]; exact h.life m hm
    · rw [g3 i (by omega), g4 i (by omega)]; exact h.life i (by omega)
  · have hi : i < R.cs.length := by rw [hcs] at hi; omega
    obtain ⟨k1, k2, k3, k4, k5, k6, k7⟩ := hTC i hi
    rw [hcs, k4, k5, g5]
    exact h.year i hi
  · have hi : i < R.cs.length := by rw [hcs] at hi; omega
    obtain ⟨k1, k2, k3, k4, k5, k6, k7⟩ := hTC i hi
    rw [hcs] at hkn ⊢
    rw [k1] at hkn
    obtain ⟨_, _, a1, a2⟩ := hman i hi
    rw [a1, a2, (hch i hi hkn).2]
    exact h.kin i hi hkn
  · have hi : i < R.cs.length := by rw [hcs] at hi; omega
    obtain ⟨k1, k2, k3, k4, k5, k6, k7⟩ := hTC i hi
    rw [hcs] at hkn ⊢
    rw [k1] at hkn
    obtain ⟨_, _, a1, a2⟩ := hman i hi
    have e : ageOf R.os P[i]! = ageOf R.os R.cs[i]! := by unfold ageOf; rw [k2]
    rw [a1, a2, g5, e]
    exact h.held i hi hkn
  · have hki : k < R.cs.length := by rw [hcs] at hki; omega
    have hi : i < R.cs.length := by omega
    obtain ⟨x1, x2, x3, _⟩ := hTC i hi
    obtain ⟨y1, y2, y3, _⟩ := hTC k hki
    rw [hcs] at k1 k2 he ⊢
    rw [x1] at k1
    rw [y1] at k2
    rw [(hman i hi).2.1, (hman k hki).2.1] at he
    rw [g5, g5]
    obtain ⟨c1, _⟩ := hw.cs_ok _ (get!_mem hi)
    obtain ⟨c2, _⟩ := hw.cs_ok _ (get!_mem hki)
    exact (h.fit i k hik hki k1 k2 (by omega)).congr x2 x3 y2 y3
  · have hi : i < R.cs.length := by rw [hcs] at hi; omega
    obtain ⟨k1, _⟩ := hTC i hi
    rw [hcs] at hkn ⊢
    rw [k1] at hkn
    obtain ⟨c1, _, c3, _⟩ := hw.cs_ok _ (get!_mem hi)
    obtain ⟨d1, d2, d3, _⟩ := c3 hkn
    rw [(hch i hi hkn).1, (hman i hi).2.1]
    omega
theorem two_lived (h4 : R.ms.length ≤ 4) (hPl : P.length = R.cs.length) (h : Lived R t) (hM : LivedM (twoR R m P) m R.ms.length (twoT R.ms.length m t)) : Lived (twoR R m P) (twoT R.ms.length m t) := by
  refine ⟨hM.born, hM.died, hM.life, hM.year, hM.kin, hM.held, fun i k h1 h2 h3 h4 h5 => hM.fit i k h1 h2 h3 h4 (by rw [h5]), fun i hi hu => ?_⟩
  have hu : ¬ (i < (R.ms ++ [R.ms[m]!]).length ∨ (6 ≤ i ∧ i < 6 + (R.ms ++ [R.ms[m]!]).length) ∨ (12 ≤ i ∧ i < 12 + P.length)) := hu
  rw [List.length_append, List.length_singleton, hPl] at hu
  unfold twoT
  rw [if_neg (by omega), if_neg (by omega)]
  exact h.zero i hi (by show ¬ (_ ∨ _ ∨ _); omega)
end
theorem apC3 {h : Nat → Ob} {n : Nat} {s : Int × Int} {os : List Office} {ms : List Man} {cs : List Rec} {fs : List (List Bool)} {lc : List (Nat × Vl)} {nx : Nat} {v : Vl} {o : Bool} {k : Nat} (hn : ms.length = k) (hs : k < 1000) : isAppend Try.prog 26 26 (.own (n + 1) k) (.lst 5 [v] o) ⟨lc, CPr h n ⟨s, os, ms, cs, fs⟩, nx⟩ = some (.own (n + 1) (k + 1), ⟨lc, upd (CPr h n ⟨s, os, ms, cs, fs⟩) (n + 1) (.arr 5 (ms.map encM ++ [v])), nx⟩) :=
  app1_own (by rw [td26]) CPr_3 (by rw [List.length_map]; exact hn) (grow_ok rfl rfl (by decide) (by decide) (by omega))
theorem apC3m {h : Nat → Ob} {n : Nat} {s : Int × Int} {os : List Office} {ms : List Man} {cs : List Rec} {fs : List (List Bool)} {lc : List (Nat × Vl)} {nx : Nat} {x : Man} {o : Bool} {k : Nat} (hn : ms.length = k) (hs : k < 1000) : isAppend Try.prog 26 26 (.own (n + 1) k) (.lst 5 [.agg [.int .i64 x.name, .int .i64 x.blo, .int .i64 x.bhi, .int .i64 x.dlo, .int .i64 x.dhi]] o) ⟨lc, CPr h n ⟨s, os, ms, cs, fs⟩, nx⟩ = some (.own (n + 1) (k + 1), ⟨lc, CPr h n ⟨s, os, ms ++ [x], cs, fs⟩, nx⟩) := by
  have e : CPr h n ⟨s, os, ms ++ [x], cs, fs⟩ = upd (CPr h n ⟨s, os, ms, cs, fs⟩) (n + 1) (.arr 5 (ms.map encM ++ [encM x])) := by
    rw [← CPr_ms (ms := ms) (ms' := ms ++ [x]), List.map_append]; rfl
  rw [e]
  exact apC3 hn hs
set_option maxRecDepth 10000 in
set_option maxHeartbeats 4000000 in
theorem same_to {ns : List Int} (hn : ns.length ≤ 9223372036854775807) {o : Option Bool} : Ans Try.prog (AA true) 9 [SL 1 (ns.map I) o] (fun v => v = .bool true) := by
  refine Ans_of Try.func9 rfl rfl ?_
  simp +contextual (maxSteps := 1000000) (disch := first | omega | (with_reducible first | refine krN ?_ | refine krS ?_ | refine krP ?_ | refine krG ?_); kernel_rfl | refine kr ?_; simp only [go_sem, reduceCtorEq]; done | fail) only [go_sem, ↓reduceIte, Nat.reduceEqDiff, Nat.reduceAdd, Nat.reduceMul, Nat.reduceLeDiff, Nat.reduceLT, Nat.reduceBEq, bne, reduceCtorEq, Int.reduceLE, Int.reduceToNat, Int.reduceLT, Int.reduceAdd, Int.reduceSub, Int.reduceNeg, Int.cast_ofNat_Int]
  refine wc_heap (by simp only [mkAnn, K18]) rfl (newUrn_to (b := true) hn) ?_
  rintro v hp' nx' ⟨rfl, rfl, x, y, rfl⟩
  simp +contextual (maxSteps := 1000000) (disch := first | omega | (with_reducible first | refine krN ?_ | refine krS ?_ | refine krP ?_ | refine krG ?_); kernel_rfl | refine kr ?_; simp only [go_sem, reduceCtorEq]; done | fail) only [go_sem, ↓reduceIte, Nat.reduceEqDiff, Nat.reduceAdd, Nat.reduceMul, Nat.reduceLeDiff, Nat.reduceLT, Nat.reduceBEq, bne, reduceCtorEq, Int.reduceLE, Int.reduceToNat, Int.reduceLT, Int.reduceAdd, Int.reduceSub, Int.reduceNeg, Int.cast_ofNat_Int]
  refine wc_heap (by simp only [mkAnn, K17]) rfl (rollOf_to (b := true) (s := (x, y)) (men := 4) (recs := 5) (by decide) (by decide) (by decide) (by decide)) ?_
  rintro v hp' nx' ⟨s, life, plo, phi, T, F, os, ms, cs, bs, ds, ys, hR, rfl, rfl, rfl⟩
  have hw := hR.wf (by decide) (by decide)
  have hL := hR.lived (by decide) (by decide)
  have hT1 := hR.T_b
  have r1 := rfR1 (s := s) (os := os) (ms := ms) (cs := cs) (T := T) (t := T) (F := F) (x := true) (bs := bs) (ds := ds) (ys := ys) rfl
  have r2 := rfR2 (s := s) (os := os) (ms := ms) (cs := cs) (T := T) (F := F) (x := true) (bs := bs) (ds := ds) (ys := ys)
  have r3 := rfR3 (s := s) (os := os) (ms := ms) (cs := cs) (T := T) (t := T) (F := F) (x := true) (bs := bs) (ds := ds) (ys := ys) rfl
  have r4 := rfR4 (s := s) (os := os) (ms := ms) (cs := cs) (T := T) (t := T) (F := F) (x := true) (bs := bs) (ds := ds) (ys := ys) rfl
  simp +contextual (maxSteps := 1000000) (disch := first | omega | (with_reducible first | refine krN ?_ | refine krS ?_ | refine krP ?_ | refine krG ?_); kernel_rfl | refine kr ?_; simp only [go_sem, reduceCtorEq, r1, r2, r3, r4]; done | fail) only [go_sem, ↓reduceIte, Nat.reduceEqDiff, Nat.reduceAdd, Nat.reduceMul, Nat.reduceLeDiff, Nat.reduceLT, Nat.reduceBEq, bne, reduceCtorEq, Int.reduceLE, Int.reduceToNat, Int.reduceLT, Int.reduceAdd, Int.reduceSub, Int.reduceNeg, Int.cast_ofNat_Int, r1, r2, r3, r4]
  clear r1 r2 r3 r4
  generalize hhk : killHp _ (HPr _) = hk
  have hk0 := killHp_low hT1.1 hhk
  rw [show Vl.agg [.lst 3 (os.map encO) false, I life, I plo, I phi, .lst 1 ((rowsL T F).map encRow) false, .lst 5 (ms.map encM) false, .lst 7 (cs.map encC) false] = encRoll (some false) (some false) (some false) (some false) (rollD life plo phi T F os ms cs) from rfl]
  obtain ⟨R, hRd⟩ : ∃ R, R = rollD life plo phi T F os ms cs := ⟨_, rfl⟩
  have hms4 : R.ms.length ≤ 4 := by have := hR.ms_b; rw [hRd]; show ms.length ≤ 4; omega
  generalize truthD ms.length cs.length bs ds ys = t at hL
  rw [← hRd] at hw hL ⊢
  obtain ⟨nx, hnx⟩ : ∃ nx, nx = 5 + T + 1 + 1 + 1 := ⟨_, rfl⟩
  have hnx0 : 0 < nx := by omega
  rw [← hnx]
  clear hR hhk hRd hnx hT1
  have hs : (solveF true R).2 = true := (solve_iff' hw.toVal).2 ⟨t, hL⟩
  refine busy_wc hw fun t => ?_
  cases t with
  | true => simp +contextual (maxSteps := 1000000) (disch := first | omega | (with_reducible first | refine krN ?_ | refine krS ?_ | refine krP ?_ | refine krG ?_); kernel_rfl | refine kr ?_; simp only [go_sem, reduceCtorEq, wc16]; done | fail) only [go_sem, ↓reduceIte, Nat.reduceEqDiff, Nat.reduceAdd, Nat.reduceMul, Nat.reduceLeDiff, Nat.reduceLT, Nat.reduceBEq, bne, reduceCtorEq, Int.reduceLE, Int.reduceToNat, Int.reduceLT, Int.reduceAdd, Int.reduceSub, Int.reduceNeg, Int.cast_ofNat_Int, wc16]
  | false =>
    have hU : UrnOk 0 hk := by unfold UrnOk urnAt; rw [hk0]
    have hat : urnAt 0 hk = s := by unfold urnAt; rw [hk0]
    obtain ⟨hm1, hm6⟩ := hw.ms_l
    have hc8 := hw.cs_l
    have ho5 := hw.os_l
    have hf4 := hw.fs_l
    simp +contextual (maxSteps := 1000000) (disch := first | omega | (with_reducible first | refine krN ?_ | refine krS ?_ | refine krP ?_ | refine krG ?_); kernel_rfl | refine kr ?_; simp only [go_sem, reduceCtorEq, wc16]; done | fail) only [go_sem, ↓reduceIte, Nat.reduceEqDiff, Nat.reduceAdd, Nat.reduceMul, Nat.reduceLeDiff, Nat.reduceLT, Nat.reduceBEq, bne, reduceCtorEq, Int.reduceLE, Int.reduceToNat, Int.reduceLT, Int.reduceAdd, Int.reduceSub, Int.reduceNeg, Int.cast_ofNat_Int, wc16]
    refine wp_loop_to R.ms.length (fun i st => ∃ (ex : List (Nat × Vl)), st = ({ sl := (3, .bp 0 0) :: (4, .loc (encRoll (some false) (some false) (some false) (some false) R)) :: (6, I i) :: ex, hp := hk, nx := nx } : FS)) ?_ 0 (Nat.zero_le _) ⟨_, rfl⟩
    rintro i st hi ⟨ex, rfl⟩
    by_cases hci : i < R.ms.length
    · simp +contextual (maxSteps := 1000000) (disch := first | omega | (with_reducible first | refine krN ?_ | refine krS ?_ | refine krP ?_ | refine krG ?_); kernel_rfl | refine kr ?_; simp only [go_sem, reduceCtorEq, Int.ofNat_lt, hci]; done | fail) only [go_sem, ↓reduceIte, Nat.reduceEqDiff, Nat.reduceAdd, Nat.reduceMul, Nat.reduceLeDiff, Nat.reduceLT, Nat.reduceBEq, bne, reduceCtorEq, Int.reduceLE, Int.reduceToNat, Int.reduceLT, Int.reduceAdd, Int.reduceSub, Int.reduceNeg, Int.cast_ofNat_Int, Int.ofNat_lt, hci]
      refine wp_loop_to i (fun k st => ∃ (ex : List (Nat × Vl)), st = ({ sl := (3, .bp 0 0) :: (4, .loc (encRoll (some false) (some false) (some false) (some false) R)) :: (6, I i) :: (7, I k) :: ex, hp := hk, nx := nx } : FS)) ?_ 0 (Nat.zero_le _) ⟨_, rfl⟩
      rintro k st hk' ⟨ex2, rfl⟩
      by_cases hck : k < i
      · have hkR : k < R.ms.length := by omega
        have hik : i ≠ k := by omega
        have hki : k ≠ i := by omega
        have hsy := sameB_symm hw.toVal hkR hci hki
        cases hB : sameB R i k with
        | false =>
          rw [hB] at hsy
          simp +contextual (maxSteps := 1000000) (disch := first | omega | (with_reducible first | refine krN ?_ | refine krS ?_ | refine krP ?_ | refine krG ?_); kernel_rfl | refine kr ?_; simp only [go_sem, reduceCtorEq, Int.ofNat_lt, hck, wc28, hw, hs, hci, hkR, hik, hki, hsy, hB, bin_neB, bne_self_eq_false]; done | fail) only [go_sem, ↓reduceIte, Nat.reduceEqDiff, Nat.reduceAdd, Nat.reduceMul, Nat.reduceLeDiff, Nat.reduceLT, Nat.reduceBEq, bne, reduceCtorEq, Int.reduceLE, Int.reduceToNat, Int.reduceLT, Int.reduceAdd, Int.reduceSub, Int.reduceNeg, Int.cast_ofNat_Int, Int.ofNat_lt, hck, wc28, hw, hs, hci, hkR, hik, hki, hsy, hB, bin_neB, bne_self_eq_false]
          exact ⟨_, rfl⟩
        | true =>
          have hnm := ((sameB_iff hw.toVal hci hkR hik).1 hB).1
          rw [hB] at hsy
          simp +contextual (maxSteps := 1000000) (disch := first | omega | (with_reducible first | refine krN ?_ | refine krS ?_ | refine krP ?_ | refine krG ?_); kernel_rfl | refine kr ?_; simp only [go_sem, reduceCtorEq, Int.ofNat_lt, hck, wc28, hw, hs, hci, hkR, hik, hki, hsy, hB, bin_neB, bne_self_eq_false, ix_map, encM, hnm]; done | fail) only [go_sem, ↓reduceIte, Nat.reduceEqDiff, Nat.reduceAdd, Nat.reduceMul, Nat.reduceLeDiff, Nat.reduceLT, Nat.reduceBEq, bne, reduceCtorEq, Int.reduceLE, Int.reduceToNat, Int.reduceLT, Int.reduceAdd, Int.reduceSub, Int.reduceNeg, Int.cast_ofNat_Int, Int.ofNat_lt, hck, wc28, hw, hs, hci, hkR, hik, hki, hsy, hB, bin_neB, bne_self_eq_false, ix_map, encM, hnm]
          exact ⟨_, rfl⟩
      · have hke : k = i := by omega
        subst hke
        simp +contextual (maxSteps := 1000000) (disch := first | omega | (with_reducible first | refine krN ?_ | refine krS ?_ | refine krP ?_ | refine krG ?_); kernel_rfl | refine kr ?_; simp only [go_sem, reduceCtorEq, Int.lt_irrefl]; done | fail) only [go_sem, ↓reduceIte, Nat.reduceEqDiff, Nat.reduceAdd, Nat.reduceMul, Nat.reduceLeDiff, Nat.reduceLT, Nat.reduceBEq, bne, reduceCtorEq, Int.reduceLE, Int.reduceToNat, Int.reduceLT, Int.reduceAdd, Int.reduceSub, Int.reduceNeg, Int.cast_ofNat_Int, Int.lt_irrefl]
        exact ⟨_, rfl⟩
    · have hie : i = R.ms.length := by omega
      subst hie
      have hub := upR_b s (n := (R.ms.length : Int)) (by omega)
      obtain ⟨m, hm⟩ : ∃ m : Nat, upR s (R.ms.length : Int) = (m : Int) := ⟨(upR s (R.ms.length : Int)).toNat, by omega⟩
      rw [hm] at hub
      have hmR : m < R.ms.length := by omega
      simp +contextual (maxSteps := 1000000) (disch := first | omega | (with_reducible first | refine krN ?_ | refine krS ?_ | refine krP ?_ | refine krG ?_); kernel_rfl | refine kr ?_; simp only [go_sem, reduceCtorEq, Int.lt_irrefl, hU, hat, hm]; done | fail) only [go_sem, ↓reduceIte, Nat.reduceEqDiff, Nat.reduceAdd, Nat.reduceMul, Nat.reduceLeDiff, Nat.reduceLT, Nat.reduceBEq, bne, reduceCtorEq, Int.reduceLE, Int.reduceToNat, Int.reduceLT, Int.reduceAdd, Int.reduceSub, Int.reduceNeg, Int.cast_ofNat_Int, Int.lt_irrefl, hU, hat, hm]
      have hRm := get!_mem hmR
      refine wc_heap (by simp only [mkAnn, K19]) rfl (copy_to (b := true) (s := upS s (R.ms.length : Int)) (by omega) (by omega) (by omega) (by omega) (fun w h => by rw [hw.fs_ok w h]; omega) hnx0 (upd_same hk 0 _)) ?_
      rintro v hp' nx' ⟨rfl, rfl, rfl⟩
      generalize upd hk 0 _ = h0
      generalize upS s (R.ms.length : Int) = s1
      clear hU hat hk0 hm hub hi hci s
      have hap := fun (lc : List (Nat × Vl)) (nx' : Nat) (o : Bool) => apC3m (h := h0) (n := nx) (s := s1) (os := R.os) (ms := R.ms) (cs := R.cs) (fs := R.fs) (lc := lc) (nx := nx') (x := R.ms[m]!) (o := o) (k := R.ms.length) rfl (by omega)
      simp +contextual (maxSteps := 1000000) (disch := first | omega | (with_reducible first | refine krN ?_ | refine krS ?_ | refine krP ?_ | refine krG ?_); kernel_rfl | refine kr ?_; simp only [go_sem, reduceCtorEq, ix_map, hmR, encM, hap]; done | fail) only [go_sem, ↓reduceIte, Nat.reduceEqDiff, Nat.reduceAdd, Nat.reduceMul, Nat.reduceLeDiff, Nat.reduceLT, Nat.reduceBEq, bne, reduceCtorEq, Int.reduceLE, Int.reduceToNat, Int.reduceLT, Int.reduceAdd, Int.reduceSub, Int.reduceNeg, Int.cast_ofNat_Int, ix_map, hmR, encM, hap]
      have hrl : (I R.ms.length) = .int .i64 (R.ms.length : Int) := rfl
      refine wp_loop_to R.cs.length (fun i st => ∃ (s : Int × Int) (P : List Rec) (ex : List (Nat × Vl)), P.length = R.cs.length ∧ (∀ j, j < R.cs.length → TwoC m R.ms.length P[j]! R.cs[j]!) ∧ (∀ j, i ≤ j → j < R.cs.length → P[j]! = R.cs[j]!) ∧ st = ({ sl := (3, .bp 0 0) :: (4, .loc (encRoll (some false) (some false) (some false) (some false) R)) :: (12, I m) :: (13, .loc (.agg [.own nx R.os.length, I R.life, I R.plo, I R.phi, .own (nx + 3) R.fs.length, .own (nx + 1) (R.ms.length + 1), .own (nx + 2) R.cs.length])) :: (14, I i) :: ex, hp := CPr h0 nx ⟨s, R.os, R.ms ++ [R.ms[m]!], P, R.fs⟩, nx := nx + 4 + R.fs.length } : FS)) ?_ 0 (Nat.zero_le _) ⟨s1, R.cs, [], rfl, fun j _ => ⟨rfl, rfl, rfl, rfl, rfl, .inl rfl, .inl rfl⟩, fun _ _ _ => rfl, rfl⟩
      clear s1 hap
      rintro i st hi ⟨s, P, ex, hPl, hTC, hPe, rfl⟩
      by_cases hc : i < R.cs.length
      · have hiP : i < P.length := by omega
        have hpg := hPe i (Nat.le_refl _) hc
        obtain ⟨_, _, hck, hch⟩ := hw.cs_ok _ (get!_mem hc)
        simp +contextual (maxSteps := 1000000) (disch := first | omega | (with_reducible first | refine krN ?_ | refine krS ?_ | refine krP ?_ | refine krG ?_); kernel_rfl | refine kr ?_; simp only [go_sem, reduceCtorEq, Int.ofNat_lt, hc, ixC4, rdC4, wrC4, CPr_setC4, hPl, hpg, encC, List.length_set, List.set_set, get!_set_eq, hiP]; done | fail) only [go_sem, ↓reduceIte, Nat.reduceEqDiff, Nat.reduceAdd, Nat.reduceMul, Nat.reduceLeDiff, Nat.reduceLT, Nat.reduceBEq, bne, reduceCtorEq, Int.reduceLE, Int.reduceToNat, Int.reduceLT, Int.reduceAdd, Int.reduceSub, Int.reduceNeg, Int.cast_ofNat_Int, Int.ofNat_lt, hc, ixC4, rdC4, wrC4, CPr_setC4, hPl, hpg, encC, List.length_set, List.set_set, get!_set_eq, hiP]
        have hset : ∀ X : Rec, TwoC m R.ms.length X R.cs[i]! → (P.set i X).length = R.cs.length ∧ (∀ j, j < R.cs.length → TwoC m R.ms.length (P.set i X)[j]! R.cs[j]!) ∧ (∀ j, i + 1 ≤ j → j < R.cs.length → (P.set i X)[j]! = R.cs[j]!) := fun X hX => by
          refine ⟨by rw [List.length_set]; exact hPl, fun j hj => ?_, fun j e1 e2 => ?_⟩
          · rw [get!_set hiP]
            split
            · rename_i e; subst e; exact hX
            · exact hTC j hj
          · rw [get!_set hiP, if_neg (by omega)]; exact hPe j (by omega) e2
        repeat' refine WI_of (fun _ => ?_) (fun _ => ?_)
        all_goals first
          | exact ⟨_, P, [], hPl, hTC, fun j e1 e2 => hPe j (by omega) e2, rfl⟩
          | (refine ⟨_, P.set i _, [], ?h1, ?h2, ?h3, rfl⟩
             case h1 => rw [List.length_set]; exact hPl
             case h2 =>
               refine (hset _ ?_).2.1
               refine ⟨?_, rfl, rfl, rfl, rfl, ?_, ?_⟩
               · first | rfl | exact Eq.symm ‹_› | exact (eq_false_of_ne_true ‹¬ (R.cs[i]!.kin = true)›).symm | exact (‹R.cs[i]!.kin = true ∧ R.cs[i]!.child = (m : Int)›).1.symm
               · first | exact .inl rfl | exact .inr ⟨‹_›, rfl⟩ | exact .inl (Eq.symm ‹_›)
               · first | exact .inl rfl | exact .inr ⟨‹_›, ‹_›, rfl⟩ | exact .inr ⟨(‹R.cs[i]!.kin = true ∧ R.cs[i]!.child = (m : Int)›).1, (‹R.cs[i]!.kin = true ∧ R.cs[i]!.child = (m : Int)›).2, rfl⟩ | exact .inl (Eq.symm ‹_›)
             case h3 => intro j e1 e2; rw [get!_set hiP, if_neg (by omega)]; exact hPe j (by omega) e2)
      · have hie : i = R.cs.length := by omega
        subst hie
        have hml1 : (R.ms ++ [R.ms[m]!]).length = R.ms.length + 1 := by rw [List.length_append]; rfl
        have f1 := rfC1 (h := h0) (n := nx) (s := s) (os := R.os) (ms := R.ms ++ [R.ms[m]!]) (cs := P) (fs := R.fs) hnx0 rfl
        have f2 := rfC2 (h := h0) (n := nx) (s := s) (os := R.os) (ms := R.ms ++ [R.ms[m]!]) (cs := P) (fs := R.fs) rfl
        have f3 := rfC3 (h := h0) (n := nx) (s := s) (os := R.os) (ms := R.ms ++ [R.ms[m]!]) (cs := P) (fs := R.fs) hml1
        have f4 := rfC4 (h := h0) (n := nx) (s := s) (os := R.os) (ms := R.ms ++ [R.ms[m]!]) (cs := P) (fs := R.fs) hPl
        simp +contextual (maxSteps := 1000000) (disch := first | omega | (with_reducible first | refine krN ?_ | refine krS ?_ | refine krP ?_ | refine krG ?_); kernel_rfl | refine kr ?_; simp only [go_sem, reduceCtorEq, Int.lt_irrefl, f1, f2, f3, f4]; done | fail) only [go_sem, ↓reduceIte, Nat.reduceEqDiff, Nat.reduceAdd, Nat.reduceMul, Nat.reduceLeDiff, Nat.reduceLT, Nat.reduceBEq, bne, reduceCtorEq, Int.reduceLE, Int.reduceToNat, Int.reduceLT, Int.reduceAdd, Int.reduceSub, Int.reduceNeg, Int.cast_ofNat_Int, Int.lt_irrefl, f1, f2, f3, f4]
        generalize killHp _ (CPr _ _ _) = hk2
        have e9 : Vl.agg [.lst 3 (R.os.map encO) false, I R.life, I R.plo, I R.phi, .lst 1 (R.fs.map encRow) false, .lst 5 ((R.ms ++ [R.ms[m]!]).map encM) false, .lst 7 (P.map encC) false] = encRoll (some false) (some false) (some false) (some false) (twoR R m P) := rfl
        rw [e9]
        have hwS := two_wf hw hms4 hmR hPl hTC
        have hM := two_livedM hw hms4 hmR hPl hTC hL
        have hLS := two_lived hms4 hPl hL hM
        have hsS : (solveF true (twoR R m P)).2 = true := (solve_iff' hwS.toVal).2 ⟨_, hLS⟩
        have q1 : m < (twoR R m P).ms.length := by show m < (R.ms ++ [R.ms[m]!]).length; omega
        have q2 : R.ms.length < (twoR R m P).ms.length := by show R.ms.length < (R.ms ++ [R.ms[m]!]).length; omega
        have q3 : m ≠ R.ms.length := by omega
        have hnm : (twoR R m P).ms[m]!.name = (twoR R m P).ms[R.ms.length]!.name := by
          have a1 : (twoR R m P).ms[m]! = R.ms[m]! := get!_snoc_lt hmR
          have a2 : (twoR R m P).ms[R.ms.length]! = R.ms[m]! := get!_snoc_eq rfl
          rw [a1, a2]
        have hB : sameB (twoR R m P) m R.ms.length = true := (sameB_iff hwS.toVal q1 q2 q3).2 ⟨hnm, _, hM⟩
        rw [wc28 hwS hsS q1 q2 q3, hB]
        simp +contextual (maxSteps := 1000000) (disch := first | omega | (with_reducible first | refine krN ?_ | refine krS ?_ | refine krP ?_ | refine krG ?_); kernel_rfl | refine kr ?_; simp only [go_sem, reduceCtorEq, wc16]; done | fail) only [go_sem, ↓reduceIte, Nat.reduceEqDiff, Nat.reduceAdd, Nat.reduceMul, Nat.reduceLeDiff, Nat.reduceLT, Nat.reduceBEq, bne, reduceCtorEq, Int.reduceLE, Int.reduceToNat, Int.reduceLT, Int.reduceAdd, Int.reduceSub, Int.reduceNeg, Int.cast_ofNat_Int, wc16]
end Go.Proofs
