/- What functions of the given program do in the ideal machine (G23), and the plain laws of what they answer; the conditions stand in each theorem. -/
import Derived.Test.YtencmmlmeifffaaGk
set_option linter.all false
set_option linter.unusedSectionVars false
set_option linter.unusedSimpArgs false
set_option linter.unusedVariables false
namespace Go.Proofs
open Go Go.Idl
set_option linter.unusedSimpArgs false
variable {b : Bool}
def SM (a c : Man) : Prop := a.name = c.name ∧ c.blo ≤ a.blo ∧ a.blo ≤ a.bhi ∧ a.bhi ≤ c.bhi ∧ c.dlo ≤ a.dlo ∧ a.dlo ≤ a.dhi ∧ a.dhi ≤ c.dhi
def SC (a c : Rec) : Prop := a.kin = c.kin ∧ a.man = c.man ∧ a.office = c.office ∧ a.town = c.town ∧ a.child = c.child ∧ c.lo ≤ a.lo ∧ a.hi ≤ c.hi ∧ (c.lo ≤ c.hi → a.lo ≤ a.hi)
theorem narrowB {lo hi n : Int} (h1 : -100000 ≤ lo) (h2 : lo ≤ n) (h3 : n ≤ hi) (h4 : hi ≤ 100000) : ∀ s1 s2 s3 s4 : Int × Int, lo ≤ narLo s1 lo (anyR s3 [n, ofR s4 lo hi]) ∧ narLo s1 lo (anyR s3 [n, ofR s4 lo hi]) ≤ narHi s2 hi (anyR s3 [n, ofR s4 lo hi]) ∧ narHi s2 hi (anyR s3 [n, ofR s4 lo hi]) ≤ hi := fun s1 s2 s3 s4 => by
  have e1 := ofR_b s4 (lo := lo) (hi := hi) h1 (by omega) h4
  have e2 := anyR_mem s3 (l := [n, ofR s4 lo hi]) (by simp) (by simp)
  simp only [List.mem_cons, List.not_mem_nil, or_false] at e2
  generalize anyR s3 [n, ofR s4 lo hi] = k at e2 ⊢
  have e3 := narLo_b s1 (lo := lo) (n := k) h1 (by omega) (by omega)
  have e4 := narHi_b s2 (hi := hi) (n := k) (by omega) (by omega) h4
  omega
theorem better_wf {R : Roll} (hw : WF R) {P : List Man} {Q : List Rec} (hPl : P.length = R.ms.length) (h1 : ∀ m ∈ P, YearsOk m.blo m.bhi ∧ YearsOk m.dlo m.dhi) (h2 : ∀ m ∈ P, 0 ≤ m.name ∧ m.name ≤ 9) (hQ : Q.length ≤ 8) (hc : ∀ c ∈ Q, RecVal R c) : WF ⟨R.os, R.life, R.plo, R.phi, R.fs, P, Q⟩ where
  os_l := hw.os_l
  os_ok := hw.os_ok
  life := hw.life
  par := hw.par
  fs_l := hw.fs_l
  fs_ok := hw.fs_ok
  ms_l := by have := hw.ms_l; rw [← hPl] at this; exact this
  ms_ok := h1
  cs_l := hQ
  cs_ok c h := by
    have := hc c h
    unfold RecVal at *
    rw [← hPl] at this
    exact this
  names := h2
  diag := hw.diag
  symm := hw.symm
theorem better_sub {R : Roll} {P : List Man} {Q : List Rec} (hPl : P.length = R.ms.length) (h1 : ∀ j, j < R.ms.length → SM P[j]! R.ms[j]!) (hQ : R.cs.length ≤ Q.length) (h2 : ∀ j, j < R.cs.length → SC Q[j]! R.cs[j]!) : SubRoll ⟨R.os, R.life, R.plo, R.phi, R.fs, P, Q⟩ R where
  os := rfl
  life := rfl
  plo := rfl
  phi := rfl
  fs := rfl
  ml := hPl
  ms i hi := by
    obtain ⟨_, a1, a2, a3, a4, a5, a6⟩ := h1 i hi
    exact ⟨a1, a3, a4, a6⟩
  cl := hQ
  cs i hi := by
    obtain ⟨a1, a2, a3, a4, a5, a6, a7, _⟩ := h2 i hi
    exact ⟨a1, a2, a3, a4, a5, a6, a7⟩
set_option maxRecDepth 10000 in
set_option maxHeartbeats 8000000 in
theorem better_to {ns : List Int} (hn : ns.length ≤ 9223372036854775807) {o : Option Bool} : Ans Try.prog (AA true) 8 [SL 1 (ns.map I) o] (fun v => v = .bool true) := by
  refine Ans_of Try.func8 rfl rfl ?_
  simp +contextual (maxSteps := 1000000) (disch := first | omega | (with_reducible first | refine krN ?_ | refine krS ?_ | refine krP ?_ | refine krG ?_); kernel_rfl | refine kr ?_; simp only [go_sem, reduceCtorEq]; done | fail) only [go_sem, ↓reduceIte, Nat.reduceEqDiff, Nat.reduceAdd, Nat.reduceMul, Nat.reduceLeDiff, Nat.reduceLT, Nat.reduceBEq, bne, reduceCtorEq, Int.reduceLE, Int.reduceToNat, Int.reduceLT, Int.reduceAdd, Int.reduceSub, Int.reduceNeg, Int.cast_ofNat_Int]
  refine wc_heap (by simp only [mkAnn, K18]) rfl (newUrn_to (b := true) hn) ?_
  rintro v hp' nx' ⟨rfl, rfl, x, y, rfl⟩
  simp +contextual (maxSteps := 1000000) (disch := first | omega | (with_reducible first | refine krN ?_ | refine krS ?_ | refine krP ?_ | refine krG ?_); kernel_rfl | refine kr ?_; simp only [go_sem, reduceCtorEq]; done | fail) only [go_sem, ↓reduceIte, Nat.reduceEqDiff, Nat.reduceAdd, Nat.reduceMul, Nat.reduceLeDiff, Nat.reduceLT, Nat.reduceBEq, bne, reduceCtorEq, Int.reduceLE, Int.reduceToNat, Int.reduceLT, Int.reduceAdd, Int.reduceSub, Int.reduceNeg, Int.cast_ofNat_Int]
  refine wc_heap (by simp only [mkAnn, K17]) rfl (rollOf_to (b := true) (s := (x, y)) (men := 4) (recs := 5) (by decide) (by decide) (by decide) (by decide)) ?_
  rintro v hp' nx' ⟨s, life, plo, phi, T, F, os, ms, cs, bs, ds, ys, hR, rfl, rfl, rfl⟩
  have hw := hR.wf (by decide) (by decide)
  have hL := hR.lived (by decide) (by decide)
  have r1 := rfR1 (s := s) (os := os) (ms := ms) (cs := cs) (T := T) (t := T) (F := F) (x := true) (bs := bs) (ds := ds) (ys := ys) rfl
  have r2 := rfR2 (s := s) (os := os) (ms := ms) (cs := cs) (T := T) (F := F) (x := true) (bs := bs) (ds := ds) (ys := ys)
  have r3 := rfR3 (s := s) (os := os) (ms := ms) (cs := cs) (T := T) (t := T) (F := F) (x := true) (bs := bs) (ds := ds) (ys := ys) rfl
  have r4 := rfR4 (s := s) (os := os) (ms := ms) (cs := cs) (T := T) (t := T) (F := F) (x := true) (bs := bs) (ds := ds) (ys := ys) rfl
  simp +contextual (maxSteps := 1000000) (disch := first | omega | (with_reducible first | refine krN ?_ | refine krS ?_ | refine krP ?_ | refine krG ?_); kernel_rfl | refine kr ?_; simp only [go_sem, reduceCtorEq, r1, r2, r3, r4]; done | fail) only [go_sem, ↓reduceIte, Nat.reduceEqDiff, Nat.reduceAdd, Nat.reduceMul, Nat.reduceLeDiff, Nat.reduceLT, Nat.reduceBEq, bne, reduceCtorEq, Int.reduceLE, Int.reduceToNat, Int.reduceLT, Int.reduceAdd, Int.reduceSub, Int.reduceNeg, Int.cast_ofNat_Int, r1, r2, r3, r4]
  clear r1 r2 r3 r4
  generalize hhk : killHp _ (HPr _) = hk
  have hT1 := hR.T_b
  have hat : ∀ i, i = 0 ∨ 5 + T ≤ i → hk i = HPr ⟨s, os, ms, cs, T, T, F, true, bs, ds, ys⟩ i := fun i hi => by
    rw [← hhk]
    refine killHp_ne ?_
    simp only [List.mem_cons, List.mem_append, List.mem_flatten, List.mem_map, List.mem_range, List.not_mem_nil, or_false, not_or]
    refine ⟨by omega, by omega, ?_, by omega, by omega⟩
    rintro ⟨l, ⟨j, hj, rfl⟩, hm⟩
    rw [List.mem_singleton] at hm
    omega
  have q1 : reify hk (.own (5 + T) ms.length) = some (.lst 1 (bs.map I) false, [5 + T]) := reify_flat (.inl ((hat _ (by omega)).trans (HPr_b (d := ⟨s, os, ms, cs, T, T, F, true, bs, ds, ys⟩) rfl))) hR.bs_l fun _ => rfl
  have q2 : reify hk (.own (5 + T + 1) ms.length) = some (.lst 1 (ds.map I) false, [5 + T + 1]) := reify_flat (.inl ((hat _ (by omega)).trans (HPr_d (d := ⟨s, os, ms, cs, T, T, F, true, bs, ds, ys⟩) rfl))) hR.ds_l fun _ => rfl
  have q3 : reify hk (.own (5 + T + 1 + 1) cs.length) = some (.lst 1 (ys.map I) false, [5 + T + 1 + 1]) := reify_flat (.inl ((hat _ (by omega)).trans (HPr_y (d := ⟨s, os, ms, cs, T, T, F, true, bs, ds, ys⟩) rfl))) hR.ys_l fun _ => rfl
  have hk0 : killHp [5 + T, 5 + T + 1, 5 + T + 1 + 1] hk 0 = urnO s := by
    rw [killHp_ne (by simp only [List.mem_cons, List.not_mem_nil, or_false]; omega), hat 0 (.inl rfl)]; exact HPr_0
  rw [enc_rollD]
  have hbl := hR.bs_l
  have hdl := hR.ds_l
  have hyl := hR.ys_l
  have hmn := hR.man
  have hro := hR.recs_ok.1
  have hlb := hR.life_b
  obtain ⟨R, hRd⟩ : ∃ R, R = rollD life plo phi T F os ms cs := ⟨_, rfl⟩
  have hms : R.ms = ms := by rw [hRd]; rfl
  have hcs : R.cs = cs := by rw [hRd]; rfl
  have hfe : Fn.func 0 = Fn.func 0 := rfl
  rw [← hRd] at hw hL ⊢
  simp +contextual (maxSteps := 1000000) (disch := first | omega | (with_reducible first | refine krN ?_ | refine krS ?_ | refine krP ?_ | refine krG ?_); kernel_rfl | refine kr ?_; simp only [go_sem, reduceCtorEq, q1, q2, q3]; done | fail) only [go_sem, ↓reduceIte, Nat.reduceEqDiff, Nat.reduceAdd, Nat.reduceMul, Nat.reduceLeDiff, Nat.reduceLT, Nat.reduceBEq, bne, reduceCtorEq, Int.reduceLE, Int.reduceToNat, Int.reduceLT, Int.reduceAdd, Int.reduceSub, Int.reduceNeg, Int.cast_ofNat_Int, q1, q2, q3]
  rw [← hms] at hbl hdl hmn
  rw [← hcs] at hyl hro
  have hml : ms.length = R.ms.length := by rw [hms]
  have hcl : cs.length = R.cs.length := by rw [hcs]
  obtain ⟨nx, hnx⟩ : ∃ nx, nx = 5 + T + 1 + 1 + 1 := ⟨_, rfl⟩
  have hnx0 : 0 < nx := by omega
  rw [← hnx]
  generalize hh1 : killHp [5 + T, 5 + T + 1, 5 + T + 1 + 1] hk = h1 at hk0 ⊢
  clear q1 q2 q3 hat hhk hh1 hfe
  obtain ⟨hm1, hm6⟩ := hw.ms_l
  have hc8 := hw.cs_l
  have ho5 := hw.os_l
  have hf4 := hw.fs_l
  refine wc_heap (by simp only [mkAnn, K19]) rfl (copy_to (b := true) (s := s) (by omega) (by omega) (by omega) (by omega) (fun w h => by rw [hw.fs_ok w h]; omega) hnx0 hk0) ?_
  rintro v hp' nx' ⟨rfl, rfl, rfl⟩
  generalize hT2 : truthD _ _ _ _ _ = tr at hL
  simp +contextual (maxSteps := 1000000) (disch := first | omega | (with_reducible first | refine krN ?_ | refine krS ?_ | refine krP ?_ | refine krG ?_); kernel_rfl | refine kr ?_; simp only [go_sem, reduceCtorEq]; done | fail) only [go_sem, ↓reduceIte, Nat.reduceEqDiff, Nat.reduceAdd, Nat.reduceMul, Nat.reduceLeDiff, Nat.reduceLT, Nat.reduceBEq, bne, reduceCtorEq, Int.reduceLE, Int.reduceToNat, Int.reduceLT, Int.reduceAdd, Int.reduceSub, Int.reduceNeg, Int.cast_ofNat_Int]
  refine wp_loop_to R.ms.length (fun i st => ∃ (s : Int × Int) (P : List Man) (ex : List (Nat × Vl)), P.length = R.ms.length ∧ (∀ j, j < R.ms.length → SM P[j]! R.ms[j]!) ∧ (∀ j, i ≤ j → j < R.ms.length → P[j]! = R.ms[j]!) ∧ st = ({ sl := (3, .bp 0 0) :: (4, .loc (encRoll (some false) (some false) (some false) (some false) R)) :: (5, .loc (.agg [.lst 1 (bs.map I) false, .lst 1 (ds.map I) false, .lst 1 (ys.map I) false])) :: (6, .loc (.agg [.own nx R.os.length, I R.life, I R.plo, I R.phi, .own (nx + 3) R.fs.length, .own (nx + 1) R.ms.length, .own (nx + 2) R.cs.length])) :: (7, I i) :: ex, hp := CPr h1 nx ⟨s, R.os, P, R.cs, R.fs⟩, nx := nx + 4 + R.fs.length } : FS)) ?_ 0 (Nat.zero_le _) ⟨_, _, _, rfl, fun j hj => ?_, fun _ _ _ => rfl, rfl⟩
  · rintro i st hi ⟨s, P, ex, hPl, hSM, hPe, rfl⟩
    by_cases hc : i < R.ms.length
    · have hiP : i < P.length := by omega
      have hpg := hPe i (Nat.le_refl _) hc
      have hmi := hmn i (by omega)
      unfold ManOk at hmi
      have hcb : i < bs.length := by omega
      have hcd : i < ds.length := by omega
      have n1 := narrowB (lo := R.ms[i]!.blo) (hi := R.ms[i]!.bhi) (n := bs[i]!) (by omega) (by omega) (by omega) (by omega)
      have n2 := narrowB (lo := R.ms[i]!.dlo) (hi := R.ms[i]!.dhi) (n := ds[i]!) (by omega) (by omega) (by omega) (by omega)
      simp +contextual (maxSteps := 1000000) (disch := first | omega | (with_reducible first | refine krN ?_ | refine krS ?_ | refine krP ?_ | refine krG ?_); kernel_rfl | refine kr ?_; simp only [go_sem, reduceCtorEq, Int.ofNat_lt, hc, ixC3, rdC3, wrC3, CPr_setC3, hPl, hpg, encM, ix_lst, hcb, hcd, List.length_set, List.set_set, get!_set_eq, hiP]; done | fail) only [go_sem, ↓reduceIte, Nat.reduceEqDiff, Nat.reduceAdd, Nat.reduceMul, Nat.reduceLeDiff, Nat.reduceLT, Nat.reduceBEq, bne, reduceCtorEq, Int.reduceLE, Int.reduceToNat, Int.reduceLT, Int.reduceAdd, Int.reduceSub, Int.reduceNeg, Int.cast_ofNat_Int, Int.ofNat_lt, hc, ixC3, rdC3, wrC3, CPr_setC3, hPl, hpg, encM, ix_lst, hcb, hcd, List.length_set, List.set_set, get!_set_eq, hiP]
      refine ⟨_, _, [], ?_, fun j hj => ?_, fun j e1 e2 => ?_, rfl⟩
      · rw [List.length_set]; exact hPl
      · rw [get!_set hiP]
        split
        · rename_i e
          subst e
          exact ⟨rfl, (n1 _ s _ _).1, (n1 _ _ _ _).2.1, (n1 s _ _ _).2.2, (n2 _ s _ _).1, (n2 _ _ _ _).2.1, (n2 s _ _ _).2.2⟩
        · exact hSM j hj
      · rw [get!_set hiP, if_neg (by omega)]
        exact hPe j (by omega) e2
    · have hie : i = R.ms.length := by omega
      subst hie
      simp +contextual (maxSteps := 1000000) (disch := first | omega | (with_reducible first | refine krN ?_ | refine krS ?_ | refine krP ?_ | refine krG ?_); kernel_rfl | refine kr ?_; simp only [go_sem, reduceCtorEq, Int.lt_irrefl]; done | fail) only [go_sem, ↓reduceIte, Nat.reduceEqDiff, Nat.reduceAdd, Nat.reduceMul, Nat.reduceLeDiff, Nat.reduceLT, Nat.reduceBEq, bne, reduceCtorEq, Int.reduceLE, Int.reduceToNat, Int.reduceLT, Int.reduceAdd, Int.reduceSub, Int.reduceNeg, Int.cast_ofNat_Int, Int.lt_irrefl]
      clear hPe ex hi hc
      have hSms : ∀ m ∈ P, YearsOk m.blo m.bhi ∧ YearsOk m.dlo m.dhi := fun m hm => by
        obtain ⟨j, hj, rfl⟩ := List.getElem_of_mem hm
        have e1 := hSM j (by omega)
        have e2 := hw.ms_ok _ (get!_mem (show j < R.ms.length by omega))
        rw [get!_eq hj] at e1
        unfold SM at e1
        unfold YearsOk at *
        omega
      have hSnm : ∀ m ∈ P, 0 ≤ m.name ∧ m.name ≤ 9 := fun m hm => by
        obtain ⟨j, hj, rfl⟩ := List.getElem_of_mem hm
        have e1 := hSM j (by omega)
        rw [get!_eq hj] at e1
        rw [e1.1]
        exact hw.names _ (get!_mem (show j < R.ms.length by omega))
      refine wp_loop_to R.cs.length (fun i st => ∃ (s : Int × Int) (Q : List Rec) (ex : List (Nat × Vl)), Q.length = R.cs.length ∧ (∀ j, j < R.cs.length → SC Q[j]! R.cs[j]!) ∧ (∀ j, i ≤ j → j < R.cs.length → Q[j]! = R.cs[j]!) ∧ st = ({ sl := (3, .bp 0 0) :: (4, .loc (encRoll (some false) (some false) (some false) (some false) R)) :: (5, .loc (.agg [.lst 1 (bs.map I) false, .lst 1 (ds.map I) false, .lst 1 (ys.map I) false])) :: (6, .loc (.agg [.own nx R.os.length, I R.life, I R.plo, I R.phi, .own (nx + 3) R.fs.length, .own (nx + 1) R.ms.length, .own (nx + 2) R.cs.length])) :: (8, I i) :: ex, hp := CPr h1 nx ⟨s, R.os, P, Q, R.fs⟩, nx := nx + 4 + R.fs.length } : FS)) ?_ 0 (Nat.zero_le _) ⟨_, _, _, rfl, fun j hj => ⟨rfl, rfl, rfl, rfl, rfl, Int.le_refl _, Int.le_refl _, fun h => h⟩, fun _ _ _ => rfl, rfl⟩
      clear s
      rintro i st hi ⟨s, Q, ex, hQl, hSC, hQe, rfl⟩
      by_cases hc : i < R.cs.length
      · have hiQ : i < Q.length := by omega
        have hpg := hQe i (Nat.le_refl _) hc
        have hcy : i < ys.length := by omega
        cases hk : R.cs[i]!.kin with
        | true =>
          simp +contextual (maxSteps := 1000000) (disch := first | omega | (with_reducible first | refine krN ?_ | refine krS ?_ | refine krP ?_ | refine krG ?_); kernel_rfl | refine kr ?_; simp only [go_sem, reduceCtorEq, Int.ofNat_lt, hc, ixC4, rdC4, hQl, hpg, encC, hk]; done | fail) only [go_sem, ↓reduceIte, Nat.reduceEqDiff, Nat.reduceAdd, Nat.reduceMul, Nat.reduceLeDiff, Nat.reduceLT, Nat.reduceBEq, bne, reduceCtorEq, Int.reduceLE, Int.reduceToNat, Int.reduceLT, Int.reduceAdd, Int.reduceSub, Int.reduceNeg, Int.cast_ofNat_Int, Int.ofNat_lt, hc, ixC4, rdC4, hQl, hpg, encC, hk]
          exact ⟨s, Q, [], hQl, hSC, fun j e1 e2 => hQe j (by omega) e2, rfl⟩
        | false =>
          obtain ⟨v1, v2, _, v4⟩ := hro i (by omega)
          have v4 := v4 hk
          have hmi := hmn (R.cs[i]!.man).toNat (by omega)
          unfold ManOk at hmi
          have n1 := narrowB (lo := R.cs[i]!.lo) (hi := R.cs[i]!.hi) (n := ys[i]!) (by omega) (by omega) (by omega) (by omega)
          simp +contextual (maxSteps := 1000000) (disch := first | omega | (with_reducible first | refine krN ?_ | refine krS ?_ | refine krP ?_ | refine krG ?_); kernel_rfl | refine kr ?_; simp only [go_sem, reduceCtorEq, Int.ofNat_lt, hc, ixC4, rdC4, wrC4, CPr_setC4, hQl, hpg, encC, hk, ix_lst, hcy, List.length_set, List.set_set, get!_set_eq, hiQ]; done | fail) only [go_sem, ↓reduceIte, Nat.reduceEqDiff, Nat.reduceAdd, Nat.reduceMul, Nat.reduceLeDiff, Nat.reduceLT, Nat.reduceBEq, bne, reduceCtorEq, Int.reduceLE, Int.reduceToNat, Int.reduceLT, Int.reduceAdd, Int.reduceSub, Int.reduceNeg, Int.cast_ofNat_Int, Int.ofNat_lt, hc, ixC4, rdC4, wrC4, CPr_setC4, hQl, hpg, encC, hk, ix_lst, hcy, List.length_set, List.set_set, get!_set_eq, hiQ]
          refine ⟨_, _, [], ?_, fun j hj => ?_, fun j e1 e2 => ?_, rfl⟩
          · rw [List.length_set]; exact hQl
          · rw [get!_set hiQ]
            split
            · rename_i e
              subst e
              exact ⟨hk.symm, rfl, rfl, rfl, rfl, (n1 _ s _ _).1, (n1 s _ _ _).2.2, fun _ => (n1 _ _ _ _).2.1⟩
            · exact hSC j hj
          · rw [get!_set hiQ, if_neg (by omega)]
            exact hQe j (by omega) e2
      · have hie : i = R.cs.length := by omega
        subst hie
        clear hQe hi hc
        have hQcs : ∀ c ∈ Q, RecVal R c := fun c hcm => by
          obtain ⟨j, hj, rfl⟩ := List.getElem_of_mem hcm
          obtain ⟨c1, c2, c3, c4, c5, c6, c7, c8⟩ := hSC j (by omega)
          rw [get!_eq hj] at c1 c2 c3 c4 c5 c6 c7 c8
          obtain ⟨d1, d2, d3, d4⟩ := hw.cs_ok _ (get!_mem (show j < R.cs.length by omega))
          unfold RecVal
          rw [c1, c2, c3, c4, c5]
          refine ⟨d1, d2, fun e => ?_, fun e => ?_⟩
          · obtain ⟨f1, f2, f3, f4, f5, f6, f7⟩ := d3 e
            exact ⟨f1, f2, f3, f4, f5, by omega, by omega⟩
          · obtain ⟨f1, f2, f3, f4, f5, f6⟩ := d4 e
            unfold YearsOk at *
            exact ⟨f1, f2, f3, f4, f5, by omega⟩
        have g1 := fun (s : Int × Int) (Q : List Rec) => rfC1 (h := h1) (n := nx) (s := s) (os := R.os) (ms := P) (cs := Q) (fs := R.fs) hnx0 rfl
        have g2 := fun (s : Int × Int) (Q : List Rec) => rfC2 (h := h1) (n := nx) (s := s) (os := R.os) (ms := P) (cs := Q) (fs := R.fs) rfl
        have g3 := fun (s : Int × Int) (Q : List Rec) => rfC3 (h := h1) (n := nx) (s := s) (os := R.os) (ms := P) (cs := Q) (fs := R.fs) hPl
        have hap : ∀ (s : Int × Int) (n' : Nat) (x : Vl) (t : Bool), isAppend Try.prog 27 27 (.own (nx + 2) R.cs.length) (.lst 7 [x] t) ⟨[], CPr h1 nx ⟨s, R.os, P, Q, R.fs⟩, n'⟩ = some (.own (nx + 2) (R.cs.length + 1), ⟨[], upd (CPr h1 nx ⟨s, R.os, P, Q, R.fs⟩) (nx + 2) (.arr 7 (Q.map encC ++ [x])), n'⟩) := fun s n' x t =>
          ap27w (m := ⟨[], CPr h1 nx ⟨s, R.os, P, Q, R.fs⟩, n'⟩) CPr_4 (by rw [List.length_map]; exact hQl) (by omega)
        have g4 : ∀ (s : Int × Int), reify (CPr h1 nx ⟨s, R.os, P, Q, R.fs⟩) (.own (nx + 2) R.cs.length) = some (.lst 7 (Q.map encC) false, [nx + 2]) := fun s => rfC4 hQl
        have g5 : ∀ (s : Int × Int) (c : Rec), reify (CPr h1 nx ⟨s, R.os, P, Q ++ [c], R.fs⟩) (.own (nx + 2) (R.cs.length + 1)) = some (.lst 7 ((Q ++ [c]).map encC) false, [nx + 2]) := fun s c => rfC4 (by rw [List.length_append, hQl]; rfl)
        have hu := upR_b (upS s 2) (n := (R.ms.length : Int)) (by omega)
        simp +contextual (maxSteps := 1000000) (disch := first | omega | (with_reducible first | refine krN ?_ | refine krS ?_ | refine krP ?_ | refine krG ?_); kernel_rfl | refine kr ?_; simp only [go_sem, reduceCtorEq, Int.lt_irrefl, hu, ix_lst, hbl, hdl, g1, g2, g3, g4]; done | fail) only [go_sem, ↓reduceIte, Nat.reduceEqDiff, Nat.reduceAdd, Nat.reduceMul, Nat.reduceLeDiff, Nat.reduceLT, Nat.reduceBEq, bne, reduceCtorEq, Int.reduceLE, Int.reduceToNat, Int.reduceLT, Int.reduceAdd, Int.reduceSub, Int.reduceNeg, Int.cast_ofNat_Int, Int.lt_irrefl, hu, ix_lst, hbl, hdl, g1, g2, g3, g4]
        refine WI_of (fun _ => ?_) (fun _ => ?_)
        · generalize hmi : upR (upS s 2) (R.ms.length : Int) = mi at hu ⊢
          have hmo := hmn mi.toNat (by omega)
          unfold ManOk at hmo
          rw [wrap_i64 (by omega) (by omega), wrap_i64 (by omega) (by omega)]
          refine wc_heap (by simp only [mkAnn, K42]) rfl (spanU_to (b := true) (u := 0) UrnOk_CPr (by omega) (by omega) (by omega)) ?_
          rintro v hp' nx' ⟨x', y', p, q, rfl, e1, e2, e3, rfl, rfl⟩
          simp +contextual (maxSteps := 1000000) (disch := first | omega | (with_reducible first | refine krN ?_ | refine krS ?_ | refine krP ?_ | refine krG ?_); kernel_rfl | refine kr ?_; simp only [go_sem, reduceCtorEq, hap, CPr_cs, g1, g2, g3, g5]; done | fail) only [go_sem, ↓reduceIte, Nat.reduceEqDiff, Nat.reduceAdd, Nat.reduceMul, Nat.reduceLeDiff, Nat.reduceLT, Nat.reduceBEq, bne, reduceCtorEq, Int.reduceLE, Int.reduceToNat, Int.reduceLT, Int.reduceAdd, Int.reduceSub, Int.reduceNeg, Int.cast_ofNat_Int, hap, CPr_cs, g1, g2, g3, g5]
          generalize killHp _ (CPr _ _ _) = hk2
          have hQ1 : (Q ++ [(⟨false, mi, -1, 0, 0, p, q⟩ : Rec)]).length ≤ 8 := by
            have := hR.cs_b
            rw [List.length_append, List.length_singleton]; omega
          have hcn : ∀ c ∈ Q ++ [(⟨false, mi, -1, 0, 0, p, q⟩ : Rec)], RecVal R c := fun c hc => by
            rcases List.mem_append.1 hc with hc | hc
            · exact hQcs c hc
            · rw [List.mem_singleton.1 hc]
              refine ⟨hu.1, by show mi < _; omega, fun e => (by cases e), fun _ => ⟨Int.le_refl (-1), by show (-1 : Int) < _; omega, Int.le_refl 0, by show (0 : Int) < _; omega, rfl, ?_⟩⟩
              unfold YearsOk
              simp only
              omega
          have hSC2 : ∀ j, j < R.cs.length → SC (Q ++ [(⟨false, mi, -1, 0, 0, p, q⟩ : Rec)])[j]! R.cs[j]! := fun j hj => by
            rw [get!_snoc_lt (by omega)]; exact hSC j hj
          have hwS := better_wf hw hPl hSms hSnm hQ1 hcn
          have hsub := better_sub hPl hSM (by rw [List.length_append]; omega) hSC2
          have e9 : Vl.agg [.lst 3 (R.os.map encO) false, I R.life, I R.plo, I R.phi, .lst 1 (R.fs.map encRow) false, .lst 5 (P.map encM) false, .lst 7 ((Q ++ [(⟨false, mi, -1, 0, 0, p, q⟩ : Rec)]).map encC) false] = encRoll (some false) (some false) (some false) (some false) ⟨R.os, R.life, R.plo, R.phi, R.fs, P, Q ++ [(⟨false, mi, -1, 0, 0, p, q⟩ : Rec)]⟩ := rfl
          have hSm : (⟨R.os, R.life, R.plo, R.phi, R.fs, P, Q ++ [(⟨false, mi, -1, 0, 0, p, q⟩ : Rec)]⟩ : Roll).ms.length = R.ms.length := hPl
          have hSq := hwS.cs_l
          try rw [e9]
          generalize (⟨R.os, R.life, R.plo, R.phi, R.fs, P, Q ++ [(⟨false, mi, -1, 0, 0, p, q⟩ : Rec)]⟩ : Roll) = S at hwS hsub hSm hSq ⊢
          refine busy_wc hwS fun t => ?_
          cases t with
          | true => simp +contextual (maxSteps := 1000000) (disch := first | omega | (with_reducible first | refine krN ?_ | refine krS ?_ | refine krP ?_ | refine krG ?_); kernel_rfl | refine kr ?_; simp only [go_sem, reduceCtorEq, wc16]; done | fail) only [go_sem, ↓reduceIte, Nat.reduceEqDiff, Nat.reduceAdd, Nat.reduceMul, Nat.reduceLeDiff, Nat.reduceLT, Nat.reduceBEq, bne, reduceCtorEq, Int.reduceLE, Int.reduceToNat, Int.reduceLT, Int.reduceAdd, Int.reduceSub, Int.reduceNeg, Int.cast_ofNat_Int, wc16]
          | false =>
            have hsv : (solveF false R).2 = true := (solve_iff' hw.toVal).2 ⟨_, hL⟩
            have p1 : (possF R).2 = 0 ∧ (possF R).1 = (solveF false R).1 := by unfold possF; rw [if_pos hsv]; exact ⟨rfl, rfl⟩
            have hlR := livesV.eq_1 R
            have hyR := yearsV.eq_1 R
            rw [if_pos p1.1, p1.2, spans_enc, spans_enc] at hlR
            rw [if_pos p1.1, p1.2, years_enc] at hyR
            have hlS := livesV.eq_1 S
            have hyS := yearsV.eq_1 S
            cases hsS : (solveF false S).2 with
            | false =>
              have p2 : (possF S).2 = 9 := by unfold possF; rw [if_neg (by rw [hsS]; decide)]
              have h90 : ¬ ((9 : Int) = 0) := by decide
              rw [p2, if_neg h90] at hlS
              simp +contextual (maxSteps := 1000000) (disch := first | omega | (with_reducible first | refine krN ?_ | refine krS ?_ | refine krP ?_ | refine krG ?_); kernel_rfl | refine kr ?_; simp only [go_sem, reduceCtorEq, wc16, wc20, hw, hwS, hlR, hlS]; done | fail) only [go_sem, ↓reduceIte, Nat.reduceEqDiff, Nat.reduceAdd, Nat.reduceMul, Nat.reduceLeDiff, Nat.reduceLT, Nat.reduceBEq, bne, reduceCtorEq, Int.reduceLE, Int.reduceToNat, Int.reduceLT, Int.reduceAdd, Int.reduceSub, Int.reduceNeg, Int.cast_ofNat_Int, wc16, wc20, hw, hwS, hlR, hlS]
            | true =>
              have p2 : (possF S).2 = 0 ∧ (possF S).1 = (solveF false S).1 := by unfold possF; rw [if_pos hsS]; exact ⟨rfl, rfl⟩
              rw [if_pos p2.1, p2.2, spans_enc, spans_enc, hSm] at hlS
              rw [if_pos p2.1, p2.2, years_enc] at hyS
              have hin := fun i (hi : i < 12 + R.cs.length) => hsub.inside hw.toVal hwS.toVal hsS hi
              have g1 := inside_spans (p := (solveF false R).1) (p' := (solveF false S).1) (l := List.range R.ms.length) fun i hi => hin i (by have := List.mem_range.1 hi; omega)
              have g2 := inside_spans (p := (solveF false R).1) (p' := (solveF false S).1) (l := (List.range R.ms.length).map fun x => 6 + x) fun i hi => by
                obtain ⟨j, hj, rfl⟩ := List.mem_map.1 hi
                have := List.mem_range.1 hj
                exact hin _ (by omega)
              have g3 := hsub.years (p := (solveF false R).1) (p' := (solveF false S).1) hin
              have k1 : ((List.range R.ms.length).map fun i => (solveF false S).1.getD i (0, 0)).length ≤ 1000 := by simp only [List.length_map, List.length_range]; omega
              have k2 : (((List.range R.ms.length).map fun x => 6 + x).map fun i => (solveF false S).1.getD i (0, 0)).length ≤ 1000 := by simp only [List.length_map, List.length_range]; omega
              have k3 : ((List.range S.cs.length).map (yearP S (solveF false S).1)).length ≤ 1000 := by simp only [List.length_map, List.length_range]; omega
              have w1 := fun (m : Mem) (K : Vl → Mem → Prop) => wc43 (b := true) (m := m) (K := K) k1 g1
              have w2 := fun (m : Mem) (K : Vl → Mem → Prop) => wc43 (b := true) (m := m) (K := K) k2 g2
              have w3 := fun (m : Mem) (K : Vl → Mem → Prop) => wc43 (b := true) (m := m) (K := K) k3 g3
              have h09 : ¬ ((0 : Int) = 9) := by decide
              simp +contextual (maxSteps := 1000000) (disch := first | omega | (with_reducible first | refine krN ?_ | refine krS ?_ | refine krP ?_ | refine krG ?_); kernel_rfl | refine kr ?_; simp only [go_sem, reduceCtorEq, wc16, wc20, wc22, hw, hwS, hlR, hlS, hyR, hyS, w1, w2, w3, h09]; done | fail) only [go_sem, ↓reduceIte, Nat.reduceEqDiff, Nat.reduceAdd, Nat.reduceMul, Nat.reduceLeDiff, Nat.reduceLT, Nat.reduceBEq, bne, reduceCtorEq, Int.reduceLE, Int.reduceToNat, Int.reduceLT, Int.reduceAdd, Int.reduceSub, Int.reduceNeg, Int.cast_ofNat_Int, wc16, wc20, wc22, hw, hwS, hlR, hlS, hyR, hyS, w1, w2, w3, h09]
        · generalize killHp _ (CPr _ _ _) = hk2
          have hwS := better_wf hw hPl hSms hSnm (by omega) hQcs
          have hsub := better_sub hPl hSM (by omega) hSC
          have e9 : Vl.agg [.lst 3 (R.os.map encO) false, I R.life, I R.plo, I R.phi, .lst 1 (R.fs.map encRow) false, .lst 5 (P.map encM) false, .lst 7 (Q.map encC) false] = encRoll (some false) (some false) (some false) (some false) ⟨R.os, R.life, R.plo, R.phi, R.fs, P, Q⟩ := rfl
          have hSm : (⟨R.os, R.life, R.plo, R.phi, R.fs, P, Q⟩ : Roll).ms.length = R.ms.length := hPl
          have hSq := hwS.cs_l
          try rw [e9]
          generalize (⟨R.os, R.life, R.plo, R.phi, R.fs, P, Q⟩ : Roll) = S at hwS hsub hSm hSq ⊢
          refine busy_wc hwS fun t => ?_
          cases t with
          | true => simp +contextual (maxSteps := 1000000) (disch := first | omega | (with_reducible first | refine krN ?_ | refine krS ?_ | refine krP ?_ | refine krG ?_); kernel_rfl | refine kr ?_; simp only [go_sem, reduceCtorEq, wc16]; done | fail) only [go_sem, ↓reduceIte, Nat.reduceEqDiff, Nat.reduceAdd, Nat.reduceMul, Nat.reduceLeDiff, Nat.reduceLT, Nat.reduceBEq, bne, reduceCtorEq, Int.reduceLE, Int.reduceToNat, Int.reduceLT, Int.reduceAdd, Int.reduceSub, Int.reduceNeg, Int.cast_ofNat_Int, wc16]
          | false =>
            have hsv : (solveF false R).2 = true := (solve_iff' hw.toVal).2 ⟨_, hL⟩
            have p1 : (possF R).2 = 0 ∧ (possF R).1 = (solveF false R).1 := by unfold possF; rw [if_pos hsv]; exact ⟨rfl, rfl⟩
            have hlR := livesV.eq_1 R
            have hyR := yearsV.eq_1 R
            rw [if_pos p1.1, p1.2, spans_enc, spans_enc] at hlR
            rw [if_pos p1.1, p1.2, years_enc] at hyR
            have hlS := livesV.eq_1 S
            have hyS := yearsV.eq_1 S
            cases hsS : (solveF false S).2 with
            | false =>
              have p2 : (possF S).2 = 9 := by unfold possF; rw [if_neg (by rw [hsS]; decide)]
              have h90 : ¬ ((9 : Int) = 0) := by decide
              rw [p2, if_neg h90] at hlS
              simp +contextual (maxSteps := 1000000) (disch := first | omega | (with_reducible first | refine krN ?_ | refine krS ?_ | refine krP ?_ | refine krG ?_); kernel_rfl | refine kr ?_; simp only [go_sem, reduceCtorEq, wc16, wc20, hw, hwS, hlR, hlS]; done | fail) only [go_sem, ↓reduceIte, Nat.reduceEqDiff, Nat.reduceAdd, Nat.reduceMul, Nat.reduceLeDiff, Nat.reduceLT, Nat.reduceBEq, bne, reduceCtorEq, Int.reduceLE, Int.reduceToNat, Int.reduceLT, Int.reduceAdd, Int.reduceSub, Int.reduceNeg, Int.cast_ofNat_Int, wc16, wc20, hw, hwS, hlR, hlS]
            | true =>
              have p2 : (possF S).2 = 0 ∧ (possF S).1 = (solveF false S).1 := by unfold possF; rw [if_pos hsS]; exact ⟨rfl, rfl⟩
              rw [if_pos p2.1, p2.2, spans_enc, spans_enc, hSm] at hlS
              rw [if_pos p2.1, p2.2, years_enc] at hyS
              have hin := fun i (hi : i < 12 + R.cs.length) => hsub.inside hw.toVal hwS.toVal hsS hi
              have g1 := inside_spans (p := (solveF false R).1) (p' := (solveF false S).1) (l := List.range R.ms.length) fun i hi => hin i (by have := List.mem_range.1 hi; omega)
              have g2 := inside_spans (p := (solveF false R).1) (p' := (solveF false S).1) (l := (List.range R.ms.length).map fun x => 6 + x) fun i hi => by
                obtain ⟨j, hj, rfl⟩ := List.mem_map.1 hi
                have := List.mem_range.1 hj
                exact hin _ (by omega)
              have g3 := hsub.years (p := (solveF false R).1) (p' := (solveF false S).1) hin
              have k1 : ((List.range R.ms.length).map fun i => (solveF false S).1.getD i (0, 0)).length ≤ 1000 := by simp only [List.length_map, List.length_range]; omega
              have k2 : (((List.range R.ms.length).map fun x => 6 + x).map fun i => (solveF false S).1.getD i (0, 0)).length ≤ 1000 := by simp only [List.length_map, List.length_range]; omega
              have k3 : ((List.range S.cs.length).map (yearP S (solveF false S).1)).length ≤ 1000 := by simp only [List.length_map, List.length_range]; omega
              have w1 := fun (m : Mem) (K : Vl → Mem → Prop) => wc43 (b := true) (m := m) (K := K) k1 g1
              have w2 := fun (m : Mem) (K : Vl → Mem → Prop) => wc43 (b := true) (m := m) (K := K) k2 g2
              have w3 := fun (m : Mem) (K : Vl → Mem → Prop) => wc43 (b := true) (m := m) (K := K) k3 g3
              have h09 : ¬ ((0 : Int) = 9) := by decide
              simp +contextual (maxSteps := 1000000) (disch := first | omega | (with_reducible first | refine krN ?_ | refine krS ?_ | refine krP ?_ | refine krG ?_); kernel_rfl | refine kr ?_; simp only [go_sem, reduceCtorEq, wc16, wc20, wc22, hw, hwS, hlR, hlS, hyR, hyS, w1, w2, w3, h09]; done | fail) only [go_sem, ↓reduceIte, Nat.reduceEqDiff, Nat.reduceAdd, Nat.reduceMul, Nat.reduceLeDiff, Nat.reduceLT, Nat.reduceBEq, bne, reduceCtorEq, Int.reduceLE, Int.reduceToNat, Int.reduceLT, Int.reduceAdd, Int.reduceSub, Int.reduceNeg, Int.cast_ofNat_Int, wc16, wc20, wc22, hw, hwS, hlR, hlS, hyR, hyS, w1, w2, w3, h09]
  · obtain ⟨⟨a1, a2, a3⟩, a4, a5, a6⟩ := hw.ms_ok _ (get!_mem hj)
    exact ⟨rfl, Int.le_refl _, a2, Int.le_refl _, Int.le_refl _, a5, Int.le_refl _⟩
end Go.Proofs
