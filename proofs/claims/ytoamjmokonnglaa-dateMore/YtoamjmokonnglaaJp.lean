/- What functions of the given program do in the ideal machine (J30), and the plain laws of what they answer; the conditions stand in each theorem. -/
import Derived.Test.YtoamjmokonnglaaJo
set_option linter.all false
set_option linter.unusedSectionVars false
set_option linter.unusedSimpArgs false
set_option linter.unusedVariables false
namespace Go.Proofs
open Go Go.Idl Go.Dt
set_option linter.unusedSimpArgs false
variable {b : Nat}
theorem ap23c {m : Mem} {id n : Nat} {xs : List Vl} {x : Vl} {o : Bool} (ho : m.hp id = .arr 6 xs) (hn : xs.length = n) (hs : n < 100000) : isAppend Try.prog 23 23 (.own id n) (.lst 6 [x] o) m = some (.own id (n + 1), { m with hp := upd m.hp id (.arr 6 (xs ++ [x])) }) :=
  app1_own (by rw [td23]) ho hn (grow_ok rfl rfl (by decide) (by decide) (by omega))
set_option maxRecDepth 10000 in
set_option maxHeartbeats 4000000 in
theorem more_to {xs : List Int} (hn : xs.length ≤ 9223372036854775807) {o : Option Bool} : Ans Try.prog (AA 2) 12 [SL 1 (xs.map I) o] (fun v => v = .bool true) := by
  refine Ans_of Try.func12 rfl rfl ?_
  simp +contextual (maxSteps := 1000000) (disch := first | omega | (with_reducible first | refine krN ?_ | refine krS ?_ | refine krP ?_ | refine krG ?_); kernel_rfl | refine kr ?_; simp only [go_sem, reduceCtorEq]; done | fail) only [go_sem, seval, -List.reduceReplicate]
  refine wc_heap (by rfl) rfl (newUrn_to (b := 2) hn) ?_
  rintro v hp' nx' ⟨rfl, rfl, s, rfl⟩
  simp +contextual (maxSteps := 1000000) (disch := first | omega | (with_reducible first | refine krN ?_ | refine krS ?_ | refine krP ?_ | refine krG ?_); kernel_rfl | refine kr ?_; simp only [go_sem, reduceCtorEq]; done | fail) only [go_sem, seval, -List.reduceReplicate]
  refine wc_heap (by rfl) rfl (datingOf_to (b := 2) (s := s) (S := 4) (N := 6) (far := 12) (by decide) (by decide) (by first | decide | assumption)) ?_
  rintro v hp' nx' ⟨s, base, st, es, ns, ys, fs, g, hM, rfl, rfl, hn5⟩
  have r1 := rfd1 (s := s) (es := es) (ns := ns) (ys := ys) (fs := fs) (g := g)
  have r2 := rfd2 (s := s) (es := es) (ns := ns) (ys := ys) (fs := fs) (g := g)
  have r3 : reify (killHp [1, 2] (HPd ⟨s, es, ns, ys, fs⟩ g)) (.own 3 ys.length) = some (.lst 1 (ys.map I) false, [3]) := reify_flat (.inl rfl) rfl fun _ => rfl
  have r4 : reify (killHp [1, 2] (HPd ⟨s, es, ns, ys, fs⟩ g)) (.own 4 fs.length) = some (.lst 1 (fs.map I) false, [4]) := reify_flat (.inl rfl) rfl fun _ => rfl
  simp +contextual (maxSteps := 1000000) (disch := first | omega | (with_reducible first | refine krN ?_ | refine krS ?_ | refine krP ?_ | refine krG ?_); kernel_rfl | refine kr ?_; simp only [go_sem, reduceCtorEq, r1, r2, r3, r4]; done | fail) only [go_sem, seval, -List.reduceReplicate, r1, r2, r3, r4]
  clear r1 r2 r3 r4
  have hu : killHp [3, 4] (killHp [1, 2] (HPd ⟨s, es, ns, ys, fs⟩ g)) 0 = urnO s := rfl
  generalize killHp [3, 4] (killHp [1, 2] (HPd ⟨s, es, ns, ys, fs⟩ g)) = hk at hu
  rw [upd_urn hu]
  have hd := hM.dtok (by decide) (by decide)
  have hw := hM.truth (by decide) (by omega)
  obtain ⟨D, hD⟩ : ∃ D : Dt, D = ⟨st, es, ns⟩ := ⟨_, rfl⟩
  have e1 : Vl.agg [.int .i64 st, .lst 2 (es.map encS) false, .lst 6 (ns.map encN) false] = encD (some false) (some false) D := by rw [hD]; rfl
  have hDs : D.stones = st := by rw [hD]
  have hDe : D.eras = es := by rw [hD]
  have hDn : D.notes = ns := by rw [hD]
  rw [e1]
  rw [← hD] at hd hw
  clear e1 hD
  obtain ⟨hne, hf0, hc0⟩ := tabs_some hd hw
  have hst := hM.st_b
  have hyl := hM.ys_l
  have hfl := hM.fs_l
  have hel := hM.es_l
  have hbs := hM.bs
  have hnl := hM.ns_l
  have hL6 : D.stones.toNat = ys.length := by omega
  have hL' : ((ys.length : Nat) : Int) = D.stones := by omega
  have hEl : D.eras.length = fs.length := by rw [hDe, hfl]
  have he3 := hd.eras_l
  have hn8 := hd.notes_l
  refine wc_heap (by rfl) rfl (copy_to (b := 2) (d := D) (o1 := some false) (o2 := some false) (by omega) (by omega) (fun n hn => ?_)) ?_
  · have k := hd.notes n hn
    by_cases e : n.kind = 1
    · have := (k.years e).2.2.2.2.1; omega
    · rw [(k.span e).1]; simp
  rintro v hp2 nx2 ⟨rfl, q1, q2, q3, q4⟩
  dsimp only at q1 q2 q3 q4
  have q5 : hp2 0 = urnO s := by rw [q3 0 (by omega)]; rfl
  simp +contextual (maxSteps := 1000000) (disch := first | omega | (with_reducible first | refine krN ?_ | refine krS ?_ | refine krP ?_ | refine krG ?_); kernel_rfl | refine kr ?_; simp only [go_sem, reduceCtorEq]; done | fail) only [go_sem, seval, -List.reduceReplicate]
  have hcl : (copyD D).notes.length = D.notes.length := by unfold copyD; rw [List.length_map]
  have hef := hM.es_t
  rw [← hDe] at hef hel hfl
  have hes := hd.eras
  have hfl' : fs.length = D.eras.length := hfl
  refine wp_loop_to D.eras.length (fun i st => ∃ (h : Nat → Ob) (s : Int × Int) (Q : List (Int × Int)) (ex : List (Nat × Vl)), Q.length = D.eras.length ∧ (∀ j, j < D.eras.length → (D.eras[j]!).1 ≤ (Q[j]!).1 ∧ (Q[j]!).1 ≤ fs[j]! ∧ fs[j]! ≤ (Q[j]!).2 ∧ (Q[j]!).2 ≤ (D.eras[j]!).2) ∧ h 0 = urnO s ∧ h nx' = .arr 2 (Q.map encS) ∧ h (nx' + 1) = .arr 6 ((copyD D).notes.map encN) ∧
    st = ({ sl := (3, .bp 0 0) :: (4, .loc (encD (some false) (some false) D)) :: (5, .loc (.agg [.lst 1 (ys.map I) false, .lst 1 (fs.map I) false])) :: (6, .loc (.agg [I D.stones, .own nx' D.eras.length, .own (nx' + 1) D.notes.length])) :: (7, I i) :: ex, hp := h, nx := nx2 } : FS)) ?_ 0 (Nat.zero_le _) ⟨_, s, D.eras, _, rfl, fun j hj => ⟨Int.le_refl _, (hef j hj).1, (hef j hj).2, Int.le_refl _⟩, q5, q1, q2, rfl⟩
  clear q1 q2 q3 q5
  rintro i st' hi ⟨h, s, Q, ex, hQl, hQ, p0, p1, p2, rfl⟩
  by_cases hc : i < D.eras.length
  · have x1 := fun (n' : Nat) (lc : List (Nat × Vl)) (eb : Nat) (ez : Vl) => ixM (lc := lc) (n' := n') (eb := eb) (ez := ez) (kd := .i64) (i := (i : Int)) p1 hQl (by omega) (by omega) (by decide)
    have x2 := fun (n' : Nat) (lc : List (Nat × Vl)) => rdM (lc := lc) (n' := n') (off := 0) (ag := true) (sz := 2) p1 hQl hc
    have hfi : i < fs.length := by omega
    have hu1 : urnAt 0 h = s := by unfold urnAt; rw [p0]
    have hu0 : UrnOk 0 h := by unfold UrnOk; rw [hu1, p0]
    obtain ⟨b1, b2, b3, b4⟩ := hQ i hc
    have hsi := hes _ (get!_mem hc)
    unfold SpanOk at hsi
    have nb := nr_b s (lo := (Q[i]!).1) (hi := (Q[i]!).2) (n := fs[i]!) (by omega) b2 b3 (by omega)
    generalize hq1 : nrLo s (Q[i]!).1 fs[i]! = lo' at nb
    generalize hq2 : nrHi s (Q[i]!).1 (Q[i]!).2 fs[i]! = hi' at nb
    generalize hq3 : nrE s (Q[i]!).1 (Q[i]!).2 fs[i]! = s'
    have p1' : upd h 0 (.box (.agg [.int .u64 s'.1, .int .u64 s'.2])) nx' = .arr 2 (Q.map encS) := by rw [upd_ne _ _ (by omega)]; exact p1
    have x3 := fun (n' : Nat) (lc : List (Nat × Vl)) (eb : Nat) (ez : Vl) => ixM (lc := lc) (n' := n') (eb := eb) (ez := ez) (kd := .i64) (i := (i : Int)) p1' hQl (by omega) (by omega) (by decide)
    have x4 := fun (n' : Nat) (lc : List (Nat × Vl)) => wrM (lc := lc) (n' := n') (off := 0) (v := Sp lo' hi') (y := (lo', hi')) p1' hQl hc rfl
    simp +contextual (maxSteps := 1000000) (disch := first | omega | (with_reducible first | refine krN ?_ | refine krS ?_ | refine krP ?_ | refine krG ?_); kernel_rfl | refine kr ?_; simp only [go_sem, reduceCtorEq, Int.ofNat_lt, hc, x1, x2, x3, x4, wc49, hu0, hu1, hq1, hq2, hq3, ix_lst, hfi, encS]; done | fail) only [go_sem, seval, -List.reduceReplicate, Int.ofNat_lt, hc, x1, x2, x3, x4, wc49, hu0, hu1, hq1, hq2, hq3, ix_lst, hfi, encS]
    refine ⟨_, s', Q.set i (lo', hi'), _, ?_, fun j hj => ?_, ?_, ?_, ?_, rfl⟩
    · rw [List.length_set]; exact hQl
    · rw [get!_set (by omega)]
      split
      · rename_i e; subst e; simp only; omega
      · exact hQ j hj
    · rw [upd_ne _ _ (by omega)]; exact upd_same _ _ _
    · exact upd_same _ _ _
    · rw [upd_ne _ _ (by omega), upd_ne _ _ (by omega)]; exact p2
  have hie : i = D.eras.length := by omega
  subst hie
  have a1 := upR_b s (n := D.stones) (by omega)
  generalize hK : upR s D.stones = k at a1
  generalize hs1 : upS s D.stones = s1
  obtain ⟨k, rfl⟩ := Int.eq_ofNat_of_zero_le a1.1
  have hkl : k < ys.length := by omega
  have a2 := upR_b s1 (n := 9) (by omega)
  generalize hA2 : upR s1 9 = r2 at a2
  generalize hs2 : upS s1 9 = s2
  have a3 := upR_b s2 (n := 12) (by omega)
  generalize hA3 : upR s2 12 = r3 at a3
  generalize hs3 : upS s2 12 = s3
  have hyi := hM.ys_b _ (get!_mem hkl)
  have hw1 : IntKind.wrap .i64 (ys[k]! - r2) = ys[k]! - r2 := wrap_i64 (by omega) (by omega)
  have hw2 : IntKind.wrap .i64 (ys[k]! - r2 + r3) = ys[k]! - r2 + r3 := wrap_i64 (by omega) (by omega)
  obtain ⟨nt, hnt⟩ : ∃ nt, nt = spanNt k (ys[k]! - r2) (ys[k]! - r2 + r3) := ⟨_, rfl⟩
  have hntok : NtOk D nt := by rw [hnt]; exact spanNt_ok ⟨by omega, by omega⟩ ⟨by omega, by omega, by omega, by omega, by omega⟩
  have hap : ∀ t, isAppend Try.prog 23 23 (.own (nx' + 1) D.notes.length) (.lst 6 [.agg [.int .i64 2, .int .i64 k, .int .i64 0, .nils, .int .i64 (ys[k]! - r2), .int .i64 (ys[k]! - r2 + r3)]] t) { lc := [], hp := upd h 0 (.box (.agg [.int .u64 s3.1, .int .u64 s3.2])), nx := nx2 } = some (.own (nx' + 1) (D.notes.length + 1), { lc := [], hp := upd (upd h 0 (.box (.agg [.int .u64 s3.1, .int .u64 s3.2]))) (nx' + 1) (.arr 6 ((nrwD D Q nt).notes.map encN)), nx := nx2 }) := fun t => by
    rw [ap23c (xs := (copyD D).notes.map encN) (by dsimp only; rw [upd_ne _ _ (by omega)]; exact p2) (by rw [List.length_map]; exact hcl) (by omega), hnt]
    unfold nrwD
    rw [List.map_append]; rfl
  have hu1 : urnAt 0 h = s := by unfold urnAt; rw [p0]
  have hu0 : UrnOk 0 h := by unfold UrnOk; rw [hu1, p0]
  have f1 : reify (upd (upd h 0 (.box (.agg [.int .u64 s3.1, .int .u64 s3.2]))) (nx' + 1) (.arr 6 ((nrwD D Q nt).notes.map encN))) (.own nx' D.eras.length) = some (.lst 2 (Q.map encS) false, [nx']) := reify_flat (.inl (by rw [upd_ne _ _ (by omega), upd_ne _ _ (by omega)]; exact p1)) hQl fun _ => rfl
  have f2 : reify (upd (upd h 0 (.box (.agg [.int .u64 s3.1, .int .u64 s3.2]))) (nx' + 1) (.arr 6 ((nrwD D Q nt).notes.map encN))) (.own (nx' + 1) (D.notes.length + 1)) = some (.lst 6 ((nrwD D Q nt).notes.map encN) false, [nx' + 1]) := reify_flat (.inl (upd_same _ _ _)) (by unfold nrwD; simp [hcl]) fun n => reify_closedV _ (clN n)
  simp +contextual (maxSteps := 1000000) (disch := first | omega | (with_reducible first | refine krN ?_ | refine krS ?_ | refine krP ?_ | refine krG ?_); kernel_rfl | refine kr ?_; simp only [go_sem, reduceCtorEq, Int.lt_irrefl, hu0, hu1, hK, hs1, hA2, hs2, hA3, hs3, upd_upd, ix_lst, hkl, hw1, hw2, wc28, hap, f1, f2]; done | fail) only [go_sem, seval, -List.reduceReplicate, Int.lt_irrefl, hu0, hu1, hK, hs1, hA2, hs2, hA3, hs3, upd_upd, ix_lst, hkl, hw1, hw2, wc28, hap, f1, f2]
  have hH0 : killHp [nx', nx' + 1] (upd (upd h 0 (.box (.agg [.int .u64 s3.1, .int .u64 s3.2]))) (nx' + 1) (.arr 6 ((nrwD D Q nt).notes.map encN))) 0 = urnO s3 := by
    rw [killHp_ne _ _ _ (by simp; omega), upd_ne _ _ (by omega), upd_same]
  generalize killHp _ _ = H at hH0
  rw [upd_urn hH0]
  have hXd := nrwD_ok hd hQl (fun s hs => ?_) hntok (by rw [hDn]; omega)
  case refine_1 =>
    obtain ⟨j, hj, rfl⟩ := List.getElem_of_mem hs
    have := hQ j (by omega)
    have h2 := hes _ (get!_mem (show j < D.eras.length by omega))
    unfold SpanOk at h2
    rw [get!_eq hj] at this
    exact ⟨by omega, by omega, by omega, by omega, by omega⟩
  have hXT : ∀ u, TrD (nrwD D Q nt) u → TrD D u := fun u hu => nrwD_tr hQl (fun j hj => ⟨(hQ j hj).1, (hQ j hj).2.2.2⟩) hu
  have hXs : (nrwD D Q nt).stones = D.stones := rfl
  have hXe : (nrwD D Q nt).eras.length = D.eras.length := hQl
  have e2 : Vl.agg [.int .i64 D.stones, .lst 2 (Q.map encS) false, .lst 6 ((nrwD D Q nt).notes.map encN) false] = encD (some false) (some false) (nrwD D Q nt) := rfl
  rw [e2]
  clear e2 hap f1 f2 hu1 hu0 p0 p1 p2 hnt hntok hH0
  generalize nrwD D Q nt = X at hXd hXT hXs hXe
  clear hQ hQl hw1 hw2 hyi
  have hX6 : X.stones.toNat = ys.length := by rw [hXs]; exact hL6
  have hX0 := checkE_ok.2 hXd
  by_cases hXn : tabsL X = []
  · have hfX : foundV X = (.nils, 9) := by unfold foundV; rw [if_neg (fun k => k hX0), hXn]; rfl
    simp +contextual (maxSteps := 1000000) (disch := first | omega | (with_reducible first | refine krN ?_ | refine krS ?_ | refine krP ?_ | refine krG ?_); kernel_rfl | refine kr ?_; simp only [go_sem, reduceCtorEq, wc27, hf0, hfX, wc38, len_spans, slot_spans, hL6, hL', wc15]; done | fail) only [go_sem, seval, -List.reduceReplicate, wc27, hf0, hfX, wc38, len_spans, slot_spans, hL6, hL', wc15]
  obtain ⟨u, hu⟩ : ∃ u, TrD X u := Classical.byContradiction fun hno => hXn ((tabs_none hXd).2 fun u hu => hno ⟨u, hu⟩)
  obtain ⟨_, hfX, _⟩ := tabs_some hXd hu
  have hul := fun (v : Nat) (hv : v < 10) => sub_hull hd hXd hne hXn hXT hv
  obtain ⟨n2, hn2⟩ : ∃ n2, n2 = D.eras.length := ⟨_, rfl⟩
  have hXe' : X.eras.length = n2 := by rw [hn2]; exact hXe
  have hn3 : n2 ≤ 3 := by omega
  simp +contextual (maxSteps := 1000000) (disch := first | omega | (with_reducible first | refine krN ?_ | refine krS ?_ | refine krP ?_ | refine krG ?_); kernel_rfl | refine kr ?_; simp only [go_sem, reduceCtorEq, wc27, hf0, hfX, wc38, len_spans, slot_spans, hL6, hX6, hL', wc15, ← hn2, hXe']; done | fail) only [go_sem, seval, -List.reduceReplicate, wc27, hf0, hfX, wc38, len_spans, slot_spans, hL6, hX6, hL', wc15, ← hn2, hXe']
  refine wp_loop_to n2 (fun i st => ∃ ex, st = ({ sl := (3, .bp 0 0) :: (4, .loc (encD (some false) (some false) D)) :: (5, .loc (.agg [.lst 1 (ys.map I) false, .lst 1 (fs.map I) false])) :: (6, .loc (encD (some false) (some false) X)) :: (10, spansV (tabsL D) 1 ys.length) :: (12, spansV (tabsL X) 1 ys.length) :: (14, spansV (tabsL D) 7 n2) :: (16, spansV (tabsL X) 7 n2) :: (18, I i) :: ex, hp := upd H 0 (.box (.agg [.int .u64 s3.1, .int .u64 s3.2])), nx := nx2 } : FS)) ?_ 0 (Nat.zero_le _) ⟨_, rfl⟩
  rintro i st' hi ⟨ex, rfl⟩
  by_cases hc : i < n2
  · have hin := hul (7 + i) (by omega)
    simp +contextual (maxSteps := 1000000) (disch := first | omega | (with_reducible first | refine krN ?_ | refine krS ?_ | refine krP ?_ | refine krG ?_); kernel_rfl | refine kr ?_; simp only [go_sem, reduceCtorEq, Int.ofNat_lt, hc, len_spans, slot_spans, ix_spans, wc50, hin]; done | fail) only [go_sem, seval, -List.reduceReplicate, Int.ofNat_lt, hc, len_spans, slot_spans, ix_spans, wc50, hin]
    exact ⟨_, rfl⟩
  have hie : i = n2 := by omega
  subst hie
  simp +contextual (maxSteps := 1000000) (disch := first | omega | (with_reducible first | refine krN ?_ | refine krS ?_ | refine krP ?_ | refine krG ?_); kernel_rfl | refine kr ?_; simp only [go_sem, reduceCtorEq, Int.lt_irrefl, len_spans, slot_spans]; done | fail) only [go_sem, seval, -List.reduceReplicate, Int.lt_irrefl, len_spans, slot_spans]
  clear hi hc ex
  refine wp_loop_to ys.length (fun i st => ∃ (s : Int × Int) (ex : List (Nat × Vl)), st = ({ sl := (3, .bp 0 0) :: (4, .loc (encD (some false) (some false) D)) :: (5, .loc (.agg [.lst 1 (ys.map I) false, .lst 1 (fs.map I) false])) :: (6, .loc (encD (some false) (some false) X)) :: (10, spansV (tabsL D) 1 ys.length) :: (12, spansV (tabsL X) 1 ys.length) :: (19, I i) :: ex, hp := upd H 0 (.box (.agg [.int .u64 s.1, .int .u64 s.2])), nx := nx2 } : FS)) ?_ 0 (Nat.zero_le _) ⟨s3, _, rfl⟩
  clear hs3 s3
  rintro i st' hi ⟨s3, ex, rfl⟩
  by_cases hc : i < ys.length
  case neg =>
    have hie : i = ys.length := by omega
    subst hie
    simp +contextual (maxSteps := 1000000) (disch := first | omega | (with_reducible first | refine krN ?_ | refine krS ?_ | refine krP ?_ | refine krG ?_); kernel_rfl | refine kr ?_; simp only [go_sem, reduceCtorEq, Int.lt_irrefl, len_spans, slot_spans, wc15]; done | fail) only [go_sem, seval, -List.reduceReplicate, Int.lt_irrefl, len_spans, slot_spans, wc15]
  have c1 := fromR_b s3 (lo := -2) (hi := 2) (by omega) (by omega) (by omega) (by omega)
  generalize hA : fromR s3 (-2) 2 = a at c1
  generalize hs4 : fromS s3 (-2) 2 = s4
  have c3 := upR_b s4 (n := D.stones) (by omega)
  generalize hO : upR s4 D.stones = o at c3
  generalize hs5 : upS s4 D.stones = s5
  obtain ⟨on, rfl⟩ := Int.eq_ofNat_of_zero_le c3.1
  have hyi := hM.ys_b _ (get!_mem hc)
  have hw1 : IntKind.wrap .i64 (ys[i]! + a) = ys[i]! + a := wrap_i64 (by omega) (by omega)
  have hyv : -3000 ≤ ys[i]! + a ∧ ys[i]! + a ≤ 3000 := by omega
  obtain ⟨d1, d2, d3⟩ := sub_cut hd hXd hXs hw hu hXT (i := i) (by omega) hyv
  obtain ⟨d4, d5, d6⟩ := sub_ear hd hXd hXs hw hu hXT (a := i) (c := on) (by omega) (by omega)
  have hin := hul (1 + i) (by omega)
  generalize hY : ys[i]! + a = y at hw1 hyv d1 d2 d3
  generalize hp1 : (cutV D i y).1 = p at d3
  generalize hp2 : (cutV X i y).1 = q at d3
  generalize hp3 : (earV D i on).1 = r at d6
  generalize hp4 : (earV X i on).1 = t at d6
  have fin : ∀ P : Prop, P → P := fun _ h => h
  rcases d3 with rfl | rfl <;> rcases d6 with rfl | rfl
  · simp +contextual (maxSteps := 1000000) (disch := first | omega | (with_reducible first | refine krN ?_ | refine krS ?_ | refine krP ?_ | refine krG ?_); kernel_rfl | refine kr ?_; simp only [go_sem, reduceCtorEq, Int.ofNat_lt, hc, len_spans, slot_spans, ix_spans, ix_lst, upd_upd, hA, hs4, hO, hs5, hY, hw1, wc41, wc31, d1, d2, d4, d5, hp1, hp2, hp3, hp4, wc50, hin]; done | fail) only [go_sem, seval, -List.reduceReplicate, Int.ofNat_lt, hc, len_spans, slot_spans, ix_spans, ix_lst, upd_upd, hA, hs4, hO, hs5, hY, hw1, wc41, wc31, d1, d2, d4, d5, hp1, hp2, hp3, hp4, wc50, hin]
    exact ⟨s5, _, rfl⟩
  · simp +contextual (maxSteps := 1000000) (disch := first | omega | (with_reducible first | refine krN ?_ | refine krS ?_ | refine krP ?_ | refine krG ?_); kernel_rfl | refine kr ?_; simp only [go_sem, reduceCtorEq, Int.ofNat_lt, hc, len_spans, slot_spans, ix_spans, ix_lst, upd_upd, hA, hs4, hO, hs5, hY, hw1, wc41, wc31, d1, d2, d4, d5, hp1, hp2, hp3, hp4, wc50, hin]; done | fail) only [go_sem, seval, -List.reduceReplicate, Int.ofNat_lt, hc, len_spans, slot_spans, ix_spans, ix_lst, upd_upd, hA, hs4, hO, hs5, hY, hw1, wc41, wc31, d1, d2, d4, d5, hp1, hp2, hp3, hp4, wc50, hin]
    exact ⟨s5, _, rfl⟩
  · simp +contextual (maxSteps := 1000000) (disch := first | omega | (with_reducible first | refine krN ?_ | refine krS ?_ | refine krP ?_ | refine krG ?_); kernel_rfl | refine kr ?_; simp only [go_sem, reduceCtorEq, Int.ofNat_lt, hc, len_spans, slot_spans, ix_spans, ix_lst, upd_upd, hA, hs4, hO, hs5, hY, hw1, wc41, wc31, d1, d2, d4, d5, hp1, hp2, hp3, hp4, wc50, hin]; done | fail) only [go_sem, seval, -List.reduceReplicate, Int.ofNat_lt, hc, len_spans, slot_spans, ix_spans, ix_lst, upd_upd, hA, hs4, hO, hs5, hY, hw1, wc41, wc31, d1, d2, d4, d5, hp1, hp2, hp3, hp4, wc50, hin]
    exact ⟨s5, _, rfl⟩
  · simp +contextual (maxSteps := 1000000) (disch := first | omega | (with_reducible first | refine krN ?_ | refine krS ?_ | refine krP ?_ | refine krG ?_); kernel_rfl | refine kr ?_; simp only [go_sem, reduceCtorEq, Int.ofNat_lt, hc, len_spans, slot_spans, ix_spans, ix_lst, upd_upd, hA, hs4, hO, hs5, hY, hw1, wc41, wc31, d1, d2, d4, d5, hp1, hp2, hp3, hp4, wc50, hin]; done | fail) only [go_sem, seval, -List.reduceReplicate, Int.ofNat_lt, hc, len_spans, slot_spans, ix_spans, ix_lst, upd_upd, hA, hs4, hO, hs5, hY, hw1, wc41, wc31, d1, d2, d4, d5, hp1, hp2, hp3, hp4, wc50, hin]
    exact ⟨s5, _, rfl⟩
end Go.Proofs
