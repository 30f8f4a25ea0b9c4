/- What functions of the given program do in the ideal machine (J47, J48), and the plain laws of what they answer; the conditions stand in each theorem. -/
import Derived.Test.YtoamjmokonnglaaJt
import Derived.Test.YtoamjmokonnglaaJo
set_option linter.all false
set_option linter.unusedSectionVars false
set_option linter.unusedSimpArgs false
set_option linter.unusedVariables false
namespace Go.Proofs
open Go Go.Idl Go.Dt
set_option linter.unusedSimpArgs false
variable {b : Nat}
def smallD (d : Dt) : Prop := d.eras.length ≤ 20 ∧ d.notes.length ≤ 20 ∧ ∀ n ∈ d.notes, n.ys.length ≤ 20
set_option maxRecDepth 10000 in
theorem large_to {d : Dt} {o1 o2 : Option Bool} : Ans Try.prog (AA b) 13 [encD o1 o2 d] (fun v => ∃ r, v = .bool r ∧ (r = false → smallD d)) := by
  refine Ans_of Try.func13 rfl rfl ?_
  simp +contextual (maxSteps := 1000000) (disch := first | omega | (with_reducible first | refine krN ?_ | refine krS ?_ | refine krP ?_ | refine krG ?_); kernel_rfl | refine kr ?_; simp only [go_sem, reduceCtorEq]; done | fail) only [go_sem, seval, -List.reduceReplicate]
  refine wp_loop_to 20 (fun i st => ∃ ex, (∀ j, j < i → j < d.notes.length → (d.notes[j]!).ys.length ≤ 20) ∧ i ≤ d.notes.length ∧ st = ({ sl := (1, .loc (encD o1 o2 d)) :: (3, I i) :: ex, hp := noHeap, nx := 0 } : FS)) ?_ 0 (Nat.zero_le _) ⟨_, fun j h => absurd h (Nat.not_lt_zero _), Nat.zero_le _, rfl⟩
  rintro i st hi ⟨ex, hno, hle, rfl⟩
  by_cases hc : i < d.notes.length
  · have hc' : (i : Int) < d.notes.length := by omega
    by_cases h20 : i < 20
    · have h20' : (i : Int) < 20 := by omega
      by_cases hy : 20 < (d.notes[i]!).ys.length
      · have hy' : 20 < ((d.notes[i]!).ys.length : Int) := by omega
        simp +contextual (maxSteps := 1000000) (disch := first | omega | (with_reducible first | refine krN ?_ | refine krS ?_ | refine krP ?_ | refine krG ?_); kernel_rfl | refine kr ?_; simp only [go_sem, reduceCtorEq, hc', h20', h20, ix_map, hc, hy']; done | fail) only [go_sem, seval, -List.reduceReplicate, hc', h20', h20, ix_map, hc, hy']
        exact ⟨true, rfl, fun h => by cases h⟩
      · have hy' : ¬ 20 < ((d.notes[i]!).ys.length : Int) := by omega
        simp +contextual (maxSteps := 1000000) (disch := first | omega | (with_reducible first | refine krN ?_ | refine krS ?_ | refine krP ?_ | refine krG ?_); kernel_rfl | refine kr ?_; simp only [go_sem, reduceCtorEq, hc', h20', h20, ix_map, hc, hy']; done | fail) only [go_sem, seval, -List.reduceReplicate, hc', h20', h20, ix_map, hc, hy']
        refine ⟨_, fun j hj h => ?_, by omega, rfl⟩
        by_cases e : j < i
        · exact hno j e h
        · obtain rfl : j = i := by omega
          omega
    · have h20' : ¬ (i : Int) < 20 := by omega
      by_cases he : 20 < d.eras.length
      · have he' : 20 < (d.eras.length : Int) := by omega
        simp +contextual (maxSteps := 1000000) (disch := first | omega | (with_reducible first | refine krN ?_ | refine krS ?_ | refine krP ?_ | refine krG ?_); kernel_rfl | refine kr ?_; simp only [go_sem, reduceCtorEq, hc', h20', he']; done | fail) only [go_sem, seval, -List.reduceReplicate, hc', h20', he']
        exact ⟨true, rfl, fun h => by cases h⟩
      · have he' : ¬ 20 < (d.eras.length : Int) := by omega
        by_cases hn : 20 < d.notes.length
        · have hn' : 20 < (d.notes.length : Int) := by omega
          simp +contextual (maxSteps := 1000000) (disch := first | omega | (with_reducible first | refine krN ?_ | refine krS ?_ | refine krP ?_ | refine krG ?_); kernel_rfl | refine kr ?_; simp only [go_sem, reduceCtorEq, hc', h20', he', hn']; done | fail) only [go_sem, seval, -List.reduceReplicate, hc', h20', he', hn']
          exact ⟨true, rfl, fun h => by cases h⟩
        · have hie : i = 20 := by omega
          omega
  · have hc' : ¬ (i : Int) < d.notes.length := by omega
    by_cases he : 20 < d.eras.length
    · have he' : 20 < (d.eras.length : Int) := by omega
      simp +contextual (maxSteps := 1000000) (disch := first | omega | (with_reducible first | refine krN ?_ | refine krS ?_ | refine krP ?_ | refine krG ?_); kernel_rfl | refine kr ?_; simp only [go_sem, reduceCtorEq, hc', he']; done | fail) only [go_sem, seval, -List.reduceReplicate, hc', he']
      exact ⟨true, rfl, fun h => by cases h⟩
    · have he' : ¬ 20 < (d.eras.length : Int) := by omega
      have hn' : ¬ 20 < (d.notes.length : Int) := by omega
      simp +contextual (maxSteps := 1000000) (disch := first | omega | (with_reducible first | refine krN ?_ | refine krS ?_ | refine krP ?_ | refine krG ?_); kernel_rfl | refine kr ?_; simp only [go_sem, reduceCtorEq, hc', he', hn']; done | fail) only [go_sem, seval, -List.reduceReplicate, hc', he', hn']
      refine ⟨false, rfl, fun _ => ⟨by omega, by omega, fun n hn => ?_⟩⟩
      obtain ⟨j, hj, rfl⟩ := List.getElem_of_mem hn
      rw [← get!_eq hj]
      exact hno j (by omega) hj
set_option maxRecDepth 10000 in
set_option maxHeartbeats 1000000 in
theorem sameD_to {d : Dt} (h : smallD d) {o1 o2 o3 o4 : Option Bool} : Ans Try.prog (AA b) 24 [encD o1 o2 (copyD d), encD o3 o4 d] (fun v => v = .bool true) := by
  obtain ⟨h1, h2, h3⟩ := h
  refine Ans_of Try.func24 rfl rfl ?_
  have w34 := fun (m : Mem) (K : Vl → Mem → Prop) => wc34 (b := b) (A := d.eras) (by omega) (o1 := o1) (o2 := o3) (m := m) (K := K)
  simp +contextual (maxSteps := 1000000) (disch := first | omega | (with_reducible first | refine krN ?_ | refine krS ?_ | refine krP ?_ | refine krG ?_); kernel_rfl | refine kr ?_; simp only [go_sem, reduceCtorEq, copyD, w34, List.length_map, and_self]; done | fail) only [go_sem, seval, -List.reduceReplicate, copyD, w34, List.length_map, and_self]
  refine wp_loop_to d.notes.length (fun i st => ∃ ex, st = ({ sl := (2, .loc (encD o1 o2 (copyD d))) :: (3, .loc (encD o3 o4 d)) :: (5, .bool true) :: (6, I i) :: ex, hp := noHeap, nx := 0 } : FS)) ?_ 0 (Nat.zero_le _) ⟨_, rfl⟩
  rintro i st hi ⟨ex, rfl⟩
  by_cases hc : i < d.notes.length
  · have hc' : (i : Int) < d.notes.length := by omega
    have hy := h3 _ (get!_mem hc)
    have w23 := fun (m : Mem) (K : Vl → Mem → Prop) => wc23 (b := b) (A := (d.notes[i]!).ys) (by omega) (o1 := some false) (o2 := (d.notes[i]!).fl) (m := m) (K := K)
    have hix : ∀ (eb : Nat) (ez : Vl) (kd : IntKind) (m : Mem), indexAddrV (.slice 6 eb ez) (.v (SL 6 ((d.notes.map recl).map encN) o2)) (.int kd i) m = some (.v (.fp (encN (recl d.notes[i]!)) 0), m) := fun eb ez kd m => by
      rw [List.map_map]
      exact ix_map (f := encN ∘ recl) (by omega) (by omega) (by decide)
    simp +contextual (maxSteps := 1000000) (disch := first | omega | (with_reducible first | refine krN ?_ | refine krS ?_ | refine krP ?_ | refine krG ?_); kernel_rfl | refine kr ?_; simp only [go_sem, reduceCtorEq, copyD, hc', hc, hix, ix_map, recl, encN, eqS1, and_self, w23, List.length_map]; done | fail) only [go_sem, seval, -List.reduceReplicate, copyD, hc', hc, hix, ix_map, recl, encN, eqS1, and_self, w23, List.length_map]
    exact ⟨_, rfl⟩
  · have hc' : ¬ (i : Int) < d.notes.length := by omega
    simp +contextual (maxSteps := 1000000) (disch := first | omega | (with_reducible first | refine krN ?_ | refine krS ?_ | refine krP ?_ | refine krG ?_); kernel_rfl | refine kr ?_; simp only [go_sem, reduceCtorEq, copyD, hc', List.length_map]; done | fail) only [go_sem, seval, -List.reduceReplicate, copyD, hc', List.length_map]
section
variable {m : Mem} {K : Vl → Mem → Prop}
theorem wc24 {d : Dt} (h : smallD d) {o1 o2 o3 o4 : Option Bool} : WC Try.prog (AA b) (.fn (.func 24) [] []) [.v (encD o1 o2 (copyD d)), .v (encD o3 o4 d)] m K = K (.bool true) m :=
  WC_flat (by simp only [mkAnn, K24]) (rfAs (xs := [encD o1 o2 (copyD d), encD o3 o4 d]) (by simp only [closedL, clD, Bool.and_self])) (sameD_to h) rfl
end
end Go.Proofs
namespace Go.Proofs
open Go Go.Idl Go.Dt
set_option linter.unusedSimpArgs false
variable {b : Nat}
theorem noteE_copy {d : Dt} {n : Nt} : noteE (copyD d) (recl n) = noteE d n := rfl
theorem check_copy {d : Dt} : checkE (copyD d) = checkE d := by
  unfold checkE
  have h : (copyD d).notes.map (noteE (copyD d)) = d.notes.map (noteE d) := by
    unfold copyD
    rw [List.map_map]
    exact List.map_congr_left fun n _ => rfl
  rw [h]
  have hl : (copyD d).notes.length = d.notes.length := by unfold copyD; rw [List.length_map]
  rw [hl]; rfl
theorem tabs_copy {d : Dt} : tabsL (copyD d) = tabsL d := by
  have h : (copyD d).notes.map Nt.wk = d.notes.map Nt.wk := by
    unfold copyD
    rw [List.map_map]
    exact List.map_congr_left fun n _ => rfl
  unfold tabsL
  rw [h]; rfl
theorem found_copy {d : Dt} : foundV (copyD d) = foundV d := by
  unfold foundV
  rw [check_copy, tabs_copy]
theorem small_ok {d : Dt} (h : DtOk d) : smallD d := by
  have h1 := h.eras_l
  have h2 := h.notes_l
  refine ⟨by omega, by omega, fun n hn => ?_⟩
  have k := h.notes n hn
  by_cases e : n.kind = 1
  · have := (k.years e).2.2.2.2.1; omega
  · rw [(k.span e).1]; simp
theorem small_more {d : Dt} (h : DtOk d) {n : Nt} (hn : n.ys.length ≤ 20) : smallD (moreD d n) := by
  obtain ⟨h1, h2, h3⟩ := small_ok h
  have h4 := h.notes_l
  refine ⟨h1, by unfold moreD copyD; simp; omega, fun x hx => ?_⟩
  rcases List.mem_append.1 hx with hx | hx
  · obtain ⟨y, hy, rfl⟩ := List.mem_map.1 hx
    exact h3 y hy
  · rw [List.mem_singleton.1 hx]; exact hn
structure FD where
  o1 : Option Bool
  o2 : Option Bool
  d : Dt
instance : Inhabited FD := ⟨⟨none, none, ⟨0, [], []⟩⟩⟩
def encF (x : FD) : Vl := encD x.o1 x.o2 x.d
theorem slot_encN {n : Nt} {t : Nat} : slotV t (encN n) = .v (encN n) := rfl
theorem rf_copy {d : Dt} {h : Nat → Ob} {nx : Nat} (q1 : h nx = .arr 2 (d.eras.map encS)) (q2 : h (nx + 1) = .arr 6 ((copyD d).notes.map encN)) :
    reify h (.own nx d.eras.length) = some (.lst 2 (d.eras.map encS) false, [nx]) ∧ reify h (.own (nx + 1) d.notes.length) = some (.lst 6 ((copyD d).notes.map encN) false, [nx + 1]) :=
  ⟨reify_flat (.inl q1) rfl fun _ => rfl, reify_flat (.inl q2) (by unfold copyD; rw [List.length_map]) fun n => reify_closedV _ (clN n)⟩
theorem encD_copy {d : Dt} : Vl.agg [.int .i64 d.stones, .lst 2 (d.eras.map encS) false, .lst 6 ((copyD d).notes.map encN) false] = encD (some false) (some false) (copyD d) := rfl
set_option maxRecDepth 10000 in
set_option maxHeartbeats 4000000 in
theorem years7_to {d : Dt} {n : Nt} {xs : List Int} (hn : xs.length ≤ 9223372036854775807) {o1 o2 o : Option Bool} : Ans Try.prog (AA 2) 7 [encD o1 o2 d, encN n, SL 1 (xs.map I) o] (fun v => v = .bool true) := by
  refine Ans_of Try.func7 rfl rfl ?_
  simp +contextual (maxSteps := 1000000) (disch := first | omega | (with_reducible first | refine krN ?_ | refine krS ?_ | refine krP ?_ | refine krG ?_); kernel_rfl | refine kr ?_; simp only [go_sem, reduceCtorEq]; done | fail) only [go_sem, seval, -List.reduceReplicate]
  refine wc_ans (by simp only [mkAnn, K13]) (rfAs (xs := [encD o1 o2 d]) (by simp only [closedL, clD, Bool.and_self])) large_to ?_
  rintro v ⟨r, rfl, hr⟩
  refine ⟨rfl, ?_⟩
  cases r with
  | true => simp +contextual (maxSteps := 1000000) (disch := first | omega | (with_reducible first | refine krN ?_ | refine krS ?_ | refine krP ?_ | refine krG ?_); kernel_rfl | refine kr ?_; simp only [go_sem, reduceCtorEq, wc15]; done | fail) only [go_sem, seval, -List.reduceReplicate, wc15]
  | false =>
  have hds := hr rfl
  clear hr
  by_cases hy : 20 < n.ys.length
  · have hy' : 20 < (n.ys.length : Int) := by omega
    simp +contextual (maxSteps := 1000000) (disch := first | omega | (with_reducible first | refine krN ?_ | refine krS ?_ | refine krP ?_ | refine krG ?_); kernel_rfl | refine kr ?_; simp only [go_sem, reduceCtorEq, hy', wc15]; done | fail) only [go_sem, seval, -List.reduceReplicate, hy', wc15]
  have hy' : ¬ 20 < (n.ys.length : Int) := by omega
  simp +contextual (maxSteps := 1000000) (disch := first | omega | (with_reducible first | refine krN ?_ | refine krS ?_ | refine krP ?_ | refine krG ?_); kernel_rfl | refine kr ?_; simp only [go_sem, reduceCtorEq, hy']; done | fail) only [go_sem, seval, -List.reduceReplicate, hy']
  refine wc_heap (by rfl) rfl (newUrn_to (b := 2) hn) ?_
  rintro v hp' nx' ⟨rfl, rfl, s, rfl⟩
  simp +contextual (maxSteps := 1000000) (disch := first | omega | (with_reducible first | refine krN ?_ | refine krS ?_ | refine krP ?_ | refine krG ?_); kernel_rfl | refine kr ?_; simp only [go_sem, reduceCtorEq]; done | fail) only [go_sem, seval, -List.reduceReplicate]
  refine wc_heap (by rfl) rfl (datingOf_to (b := 2) (s := s) (S := 4) (N := 6) (far := 12) (by decide) (by decide) (by first | decide | assumption)) ?_
  rintro v hp' nx' ⟨s, base, st, es, ns, ys, fs, g, hM, rfl, rfl, hn5⟩
  have r1 := rfd1 (s := s) (es := es) (ns := ns) (ys := ys) (fs := fs) (g := g)
  have r2 := rfd2 (s := s) (es := es) (ns := ns) (ys := ys) (fs := fs) (g := g)
  have r3 : reify (killHp [1, 2] (HPd ⟨s, es, ns, ys, fs⟩ g)) (.own 3 ys.length) = some (.lst 1 (ys.map I) false, [3]) := reify_flat (.inl rfl) rfl fun _ => rfl
  have r4 : reify (killHp [1, 2] (HPd ⟨s, es, ns, ys, fs⟩ g)) (.own 4 fs.length) = some (.lst 1 (fs.map I) false, [4]) := reify_flat (.inl rfl) rfl fun _ => rfl
  simp +contextual (maxSteps := 1000000) (disch := first | omega | (with_reducible first | refine krN ?_ | refine krS ?_ | refine krP ?_ | refine krG ?_); kernel_rfl | refine kr ?_; simp only [go_sem, reduceCtorEq, r1, r2, r3, r4]; done | fail) only [go_sem, seval, -List.reduceReplicate, r1, r2, r3, r4]
  clear r1 r2 r3 r4
  have hu : killHp [3, 4] (killHp [1, 2] (HPd ⟨s, es, ns, ys, fs⟩ g)) 0 = urnO s := rfl
  generalize killHp [3, 4] (killHp [1, 2] (HPd ⟨s, es, ns, ys, fs⟩ g)) = hk at hu
  rw [upd_urn hu]
  have hd := hM.dtok (by decide) (by decide)
  have hw := hM.truth (by decide) (by omega)
  obtain ⟨D, hD⟩ : ∃ D : Dt, D = ⟨st, es, ns⟩ := ⟨_, rfl⟩
  have e1 : Vl.agg [.int .i64 st, .lst 2 (es.map encS) false, .lst 6 (ns.map encN) false] = encD (some false) (some false) D := by rw [hD]; rfl
  have hDs : D.stones = st := by rw [hD]
  have hDe : D.eras = es := by rw [hD]
  have hDn : D.notes = ns := by rw [hD]
  rw [e1]
  rw [← hD] at hd hw
  clear e1 hD
  obtain ⟨hne, hf0, hc0⟩ := tabs_some hd hw
  have hst := hM.st_b
  have hyl := hM.ys_l
  have hfl := hM.fs_l
  have hel := hM.es_l
  have hbs := hM.bs
  have hnl := hM.ns_l
  have hL : D.stones.toNat = ys.length := by omega
  have hL' : ((ys.length : Nat) : Int) = D.stones := by omega
  have hEl : D.eras.length = fs.length := by rw [hDe, hfl]
  clear hM hw hyl hfl hbs hEl hL hL' hst hel
  refine wc_heap (by rfl) rfl (copy_to (b := 2) (d := D) (o1 := some false) (o2 := some false) (by have := hd.eras_l; omega) (by have := hd.notes_l; omega) (fun n hn => by have := (small_ok hd).2.2 n hn; omega)) ?_
  rintro v hp2 nx2 ⟨rfl, q1, q2, q3, q4⟩
  have hcl : (copyD D).notes.length = D.notes.length := by unfold copyD; rw [List.length_map]
  have hn8 := hd.notes_l
  have hap : ∀ t, isAppend Try.prog 23 23 (.own (nx' + 1) D.notes.length) (.lst 6 [encN n] t) { lc := [], hp := hp2, nx := nx2 } = some (.own (nx' + 1) (D.notes.length + 1), { lc := [], hp := upd hp2 (nx' + 1) (.arr 6 ((moreD D n).notes.map encN)), nx := nx2 }) := fun t => by
    rw [ap23b q2 (by rw [List.length_map]; exact hcl) (by omega)]
    unfold moreD
    rw [List.map_append]; rfl
  have hr1 : reify (upd hp2 (nx' + 1) (.arr 6 ((moreD D n).notes.map encN))) (.own nx' D.eras.length) = some (.lst 2 (D.eras.map encS) false, [nx']) := reify_flat (.inl (by rw [upd_ne _ _ (by omega)]; exact q1)) rfl fun _ => rfl
  have hr2 : reify (upd hp2 (nx' + 1) (.arr 6 ((moreD D n).notes.map encN))) (.own (nx' + 1) (D.notes.length + 1)) = some (.lst 6 ((moreD D n).notes.map encN) false, [nx' + 1]) := reify_flat (.inl (upd_same _ _ _)) (by unfold moreD; simp [hcl]) fun n => reify_closedV _ (clN n)
  simp +contextual (maxSteps := 1000000) (disch := first | omega | (with_reducible first | refine krN ?_ | refine krS ?_ | refine krP ?_ | refine krG ?_); kernel_rfl | refine kr ?_; simp only [go_sem, reduceCtorEq, hap, hr1, hr2]; done | fail) only [go_sem, seval, -List.reduceReplicate, hap, hr1, hr2]
  have hF : ∀ x ∈ [(⟨o1, o2, d⟩ : FD), ⟨some false, some false, D⟩, ⟨some false, some false, moreD D n⟩], smallD x.d := by
    intro x hx
    simp only [List.mem_cons, List.not_mem_nil, or_false] at hx
    rcases hx with rfl | rfl | rfl
    · exact hds
    · exact small_ok hd
    · exact small_more hd (by omega)
  obtain ⟨Fs, hFs⟩ : ∃ Fs, Fs = [(⟨o1, o2, d⟩ : FD), ⟨some false, some false, D⟩, ⟨some false, some false, moreD D n⟩] := ⟨_, rfl⟩
  have hl3 : Fs.length = 3 := by rw [hFs]; rfl
  rw [← hFs] at hF
  generalize killHp _ (upd hp2 _ _) = hq
  refine wp_loop_to Fs.length (fun i st => ∃ (h : Nat → Ob) (nq : Nat) (ex : List (Nat × Vl)), st = ({ sl := (10, .lst 3 (Fs.map encF) true) :: (11, I i) :: ex, hp := h, nx := nq } : FS)) ?_ 0 (Nat.zero_le _) ⟨_, _, [], by rw [hFs]; rfl⟩
  clear hap hr1 hr2 q1 q2 q3 q4 hcl hn8
  rintro i st hi ⟨h, nq, ex, rfl⟩
  by_cases hc : i < Fs.length
  case neg =>
    have hie : i = Fs.length := by omega
    subst hie
    simp +contextual (maxSteps := 1000000) (disch := first | omega | (with_reducible first | refine krN ?_ | refine krS ?_ | refine krP ?_ | refine krG ?_); kernel_rfl | refine kr ?_; simp only [go_sem, reduceCtorEq, Int.lt_irrefl, List.length_map, wc15]; done | fail) only [go_sem, seval, -List.reduceReplicate, Int.lt_irrefl, List.length_map, wc15]
  have hsm := hF _ (get!_mem hc)
  obtain ⟨x, hx⟩ : ∃ x, Fs[i]! = x := ⟨_, rfl⟩
  obtain ⟨p1, p2, e⟩ := x
  rw [hx] at hsm
  obtain ⟨k1, k2, k3⟩ := hsm
  dsimp only at k1 k2 k3
  simp +contextual (maxSteps := 1000000) (disch := first | omega | (with_reducible first | refine krN ?_ | refine krS ?_ | refine krP ?_ | refine krG ?_); kernel_rfl | refine kr ?_; simp only [go_sem, reduceCtorEq, Int.ofNat_lt, hc, ix_lst, hx, encF, List.length_map]; done | fail) only [go_sem, seval, -List.reduceReplicate, Int.ofNat_lt, hc, ix_lst, hx, encF, List.length_map]
  refine wc_heap (by rfl) rfl (copy_to (b := 2) (d := e) (o1 := p1) (o2 := p2) (by omega) (by omega) (fun n hn => by have := k3 n hn; omega)) ?_
  rintro v hp3 nx3 ⟨rfl, q1, q2, q3, q4⟩
  obtain ⟨r1, r2⟩ := rf_copy q1 q2
  have w24 := fun (o3 o4 : Option Bool) (m : Mem) (K : Vl → Mem → Prop) => wc24 (b := 2) (d := e) ⟨k1, k2, k3⟩ (o1 := some false) (o2 := some false) (o3 := o3) (o4 := o4) (m := m) (K := K)
  dsimp only at r1 r2
  by_cases he : (foundV e).2 = 0
  · have hok := (foundV_ok he).1
    have h6 := hok.stones
    have he3 := hok.eras_l
    have w34a := fun (m : Mem) (K : Vl → Mem → Prop) => wc34 (b := 2) (m := m) (K := K) (A := (List.range e.stones.toNat).map fun i => joinT (tabsL e) (1 + i)) (o1 := none) (o2 := some false) (by rw [List.length_map, List.length_range]; omega)
    have w34b := fun (m : Mem) (K : Vl → Mem → Prop) => wc34 (b := 2) (m := m) (K := K) (A := (List.range e.eras.length).map fun i => joinT (tabsL e) (7 + i)) (o1 := none) (o2 := some false) (by rw [List.length_map, List.length_range]; omega)
    simp only [List.map_map] at w34a w34b
    have s1 : spansV (tabsL e) 1 e.stones.toNat = SL 2 ((List.range e.stones.toNat).map (encS ∘ fun i => joinT (tabsL e) (1 + i))) none := rfl
    have s2 : spansV (tabsL e) 7 e.eras.length = SL 2 ((List.range e.eras.length).map (encS ∘ fun i => joinT (tabsL e) (7 + i))) none := rfl
    have s3 : SL 2 ((List.range e.stones.toNat).map fun i => encS (joinT (tabsL e) (1 + i))) (some false) = SL 2 ((List.range e.stones.toNat).map (encS ∘ fun i => joinT (tabsL e) (1 + i))) (some false) := rfl
    have s4 : SL 2 ((List.range e.eras.length).map fun i => encS (joinT (tabsL e) (7 + i))) (some false) = SL 2 ((List.range e.eras.length).map (encS ∘ fun i => joinT (tabsL e) (7 + i))) (some false) := rfl
    have t1 : (copyD e).stones = e.stones := rfl
    have t2 : (copyD e).eras = e.eras := rfl
    have w27 := fun (m : Mem) (K : Vl → Mem → Prop) => wc27 (b := 2) (d := copyD e) (o1 := some false) (o2 := some false) (m := m) (K := K)
    have w38 := fun (m : Mem) (K : Vl → Mem → Prop) => wc38 (b := 2) (d := copyD e) (o1 := some false) (o2 := some false) (m := m) (K := K)
    have w37 := fun (o1 o2 : Option Bool) (m : Mem) (K : Vl → Mem → Prop) => wc37 (b := 2) (d := e) (o1 := o1) (o2 := o2) (m := m) (K := K)
    have w39 := fun (o1 o2 : Option Bool) (m : Mem) (K : Vl → Mem → Prop) => wc39 (b := 2) (d := e) (o1 := o1) (o2 := o2) (m := m) (K := K)
    have w40 := fun (m : Mem) (K : Vl → Mem → Prop) => wc40 (b := 2) (d := copyD e) (o1 := some false) (o2 := some false) (m := m) (K := K)
    rw [found_copy, tabs_copy, t1, if_pos he, he, s1] at w27
    rw [found_copy, tabs_copy, t2, if_pos he, he, s2] at w38
    simp only [if_pos he, he, s3] at w37
    simp only [if_pos he, he, s4] at w39
    rw [check_copy] at w40
    simp +contextual (maxSteps := 1000000) (disch := first | omega | (with_reducible first | refine krN ?_ | refine krS ?_ | refine krP ?_ | refine krG ?_); kernel_rfl | refine kr ?_; simp only [go_sem, reduceCtorEq, r1, r2]; done | fail) only [go_sem, seval, -List.reduceReplicate, r1, r2]
    rw [encD_copy]
    have cE : checkE e = 0 := checkE_ok.2 hok
    clear r1 r2 q1 q2 q3 q4
    generalize copyD e = Y at w24 w27 w38 w40
    rw [cE] at w40
    simp +contextual (maxSteps := 1000000) (disch := first | omega | (with_reducible first | refine krN ?_ | refine krS ?_ | refine krP ?_ | refine krG ?_); kernel_rfl | refine kr ?_; simp only [go_sem, reduceCtorEq, w27, w37, w38, w39, w40, wc14, cE, w24, w34a, w34b, SL_slot, Int.ofNat_lt, hc, ix_lst, hx, encF, List.length_map]; done | fail) only [go_sem, seval, -List.reduceReplicate, w27, w37, w38, w39, w40, wc14, cE, w24, w34a, w34b, SL_slot, Int.ofNat_lt, hc, ix_lst, hx, encF, List.length_map]
    exact ⟨_, _, _, rfl⟩
  · have hn0 := foundV_no he
    have w34 := fun (m : Mem) (K : Vl → Mem → Prop) => wc34 (b := 2) (m := m) (K := K) (A := []) (o1 := none) (o2 := none) (by simp)
    have w27 := fun (m : Mem) (K : Vl → Mem → Prop) => wc27 (b := 2) (d := copyD e) (o1 := some false) (o2 := some false) (m := m) (K := K)
    have w38 := fun (m : Mem) (K : Vl → Mem → Prop) => wc38 (b := 2) (d := copyD e) (o1 := some false) (o2 := some false) (m := m) (K := K)
    have w37 := fun (o1 o2 : Option Bool) (m : Mem) (K : Vl → Mem → Prop) => wc37 (b := 2) (d := e) (o1 := o1) (o2 := o2) (m := m) (K := K)
    have w39 := fun (o1 o2 : Option Bool) (m : Mem) (K : Vl → Mem → Prop) => wc39 (b := 2) (d := e) (o1 := o1) (o2 := o2) (m := m) (K := K)
    have w40 := fun (m : Mem) (K : Vl → Mem → Prop) => wc40 (b := 2) (d := copyD e) (o1 := some false) (o2 := some false) (m := m) (K := K)
    rw [found_copy, if_neg he] at w27 w38
    simp only [if_neg he] at w37 w39
    rw [check_copy] at w40
    simp +contextual (maxSteps := 1000000) (disch := first | omega | (with_reducible first | refine krN ?_ | refine krS ?_ | refine krP ?_ | refine krG ?_); kernel_rfl | refine kr ?_; simp only [go_sem, reduceCtorEq, r1, r2]; done | fail) only [go_sem, seval, -List.reduceReplicate, r1, r2]
    rw [encD_copy]
    clear r1 r2 q1 q2 q3 q4
    generalize copyD e = Y at w24 w27 w38 w40
    generalize (foundV e).2 = E at *
    have w34' : ∀ (m : Mem) (K : Vl → Mem → Prop), WC Try.prog (AA 2) (.fn (.func 34) [] []) [.v .nils, .v .nils] m K = K (.bool true) m := w34
    simp +contextual (maxSteps := 1000000) (disch := first | omega | (with_reducible first | refine krN ?_ | refine krS ?_ | refine krP ?_ | refine krG ?_); kernel_rfl | refine kr ?_; simp only [go_sem, reduceCtorEq, w27, w37, w38, w39, w40, wc14, w24, w34', SL_slot, Int.ofNat_lt, hc, ix_lst, hx, encF, List.length_map]; done | fail) only [go_sem, seval, -List.reduceReplicate, w27, w37, w38, w39, w40, wc14, w24, w34', SL_slot, Int.ofNat_lt, hc, ix_lst, hx, encF, List.length_map]
    exact ⟨_, _, _, rfl⟩
end Go.Proofs
