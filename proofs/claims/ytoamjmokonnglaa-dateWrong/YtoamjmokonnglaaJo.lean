/- What functions of the given program do in the ideal machine (J25), and the plain laws of what they answer; the conditions stand in each theorem. -/
import Derived.Test.YtoamjmokonnglaaJn
set_option linter.all false
set_option linter.unusedSectionVars false
set_option linter.unusedSimpArgs false
set_option linter.unusedVariables false
namespace Go.Proofs
open Go Go.Idl Go.Dt
set_option linter.unusedSimpArgs false
variable {b : Nat}
theorem to28 {lo hi : Int} : Ans Try.prog (AA b) 28 [I lo, I hi] (fun v => v = Sp lo hi) := by
  refine Ans_of Try.func28 rfl rfl ?_
  simp +contextual (maxSteps := 1000000) (disch := first | omega | (with_reducible first | refine krN ?_ | refine krS ?_ | refine krP ?_ | refine krG ?_); kernel_rfl | refine kr ?_; simp only [go_sem, reduceCtorEq]; done | fail) only [go_sem, seval, -List.reduceReplicate]
theorem wc28 {lo hi : Int} {m : Mem} {K : Vl → Mem → Prop} : WC Try.prog (AA b) (.fn (.func 28) [] []) [.v (.int .i64 lo), .v (.int .i64 hi)] m K = K (Sp lo hi) m := WC_flat (by simp only [mkAnn, K28]) rfl to28 rfl
theorem eqB {x y : Bool} : binOpV { ok := true, agg := false, size := 1, zero := Vl.bool false, flat := some [CK.b], k := TK.bool } .eql (.bool x) (.bool y) = some (.bool (x == y)) := rfl
theorem ap23b {m : Mem} {id n : Nat} {xs : List Vl} {x : Vl} {o : Bool} (ho : m.hp id = .arr 6 xs) (hn : xs.length = n) (hs : n < 100000) : isAppend Try.prog 23 23 (.own id n) (.lst 6 [x] o) m = some (.own id (n + 1), { m with hp := upd m.hp id (.arr 6 (xs ++ [x])) }) :=
  app1_own (by rw [td23]) ho hn (grow_ok rfl rfl (by decide) (by decide) (by omega))
set_option maxRecDepth 10000 in
set_option maxHeartbeats 4000000 in
theorem told_to {xs : List Int} (hn : xs.length ≤ 9223372036854775807) {o : Option Bool} : Ans Try.prog (AA 2) 9 [SL 1 (xs.map I) o] (fun v => v = .bool true) := by
  refine Ans_of Try.func9 rfl rfl ?_
  simp +contextual (maxSteps := 1000000) (disch := first | omega | (with_reducible first | refine krN ?_ | refine krS ?_ | refine krP ?_ | refine krG ?_); kernel_rfl | refine kr ?_; simp only [go_sem, reduceCtorEq]; done | fail) only [go_sem, seval, -List.reduceReplicate]
  refine wc_heap (by rfl) rfl (newUrn_to (b := 2) hn) ?_
  rintro v hp' nx' ⟨rfl, rfl, s, rfl⟩
  simp +contextual (maxSteps := 1000000) (disch := first | omega | (with_reducible first | refine krN ?_ | refine krS ?_ | refine krP ?_ | refine krG ?_); kernel_rfl | refine kr ?_; simp only [go_sem, reduceCtorEq]; done | fail) only [go_sem, seval, -List.reduceReplicate]
  refine wc_heap (by rfl) rfl (datingOf_to (b := 2) (s := s) (S := 4) (N := 7) (far := 12) (by decide) (by decide) (by first | decide | assumption)) ?_
  rintro v hp' nx' ⟨s, base, st, es, ns, ys, fs, g, hM, rfl, rfl, hn5⟩
  have r1 := rfd1 (s := s) (es := es) (ns := ns) (ys := ys) (fs := fs) (g := g)
  have r2 := rfd2 (s := s) (es := es) (ns := ns) (ys := ys) (fs := fs) (g := g)
  have r3 : reify (killHp [1, 2] (HPd ⟨s, es, ns, ys, fs⟩ g)) (.own 3 ys.length) = some (.lst 1 (ys.map I) false, [3]) := reify_flat (.inl rfl) rfl fun _ => rfl
  have r4 : reify (killHp [1, 2] (HPd ⟨s, es, ns, ys, fs⟩ g)) (.own 4 fs.length) = some (.lst 1 (fs.map I) false, [4]) := reify_flat (.inl rfl) rfl fun _ => rfl
  simp +contextual (maxSteps := 1000000) (disch := first | omega | (with_reducible first | refine krN ?_ | refine krS ?_ | refine krP ?_ | refine krG ?_); kernel_rfl | refine kr ?_; simp only [go_sem, reduceCtorEq, r1, r2, r3, r4]; done | fail) only [go_sem, seval, -List.reduceReplicate, r1, r2, r3, r4]
  clear r1 r2 r3 r4
  have hu : killHp [3, 4] (killHp [1, 2] (HPd ⟨s, es, ns, ys, fs⟩ g)) 0 = urnO s := rfl
  generalize killHp [3, 4] (killHp [1, 2] (HPd ⟨s, es, ns, ys, fs⟩ g)) = hk at hu
  rw [upd_urn hu]
  have hd := hM.dtok (by decide) (by decide)
  have hw := hM.truth (by decide) (by omega)
  obtain ⟨D, hD⟩ : ∃ D : Dt, D = ⟨st, es, ns⟩ := ⟨_, rfl⟩
  have e1 : Vl.agg [.int .i64 st, .lst 2 (es.map encS) false, .lst 6 (ns.map encN) false] = encD (some false) (some false) D := by rw [hD]; rfl
  have hDs : D.stones = st := by rw [hD]
  have hDe : D.eras = es := by rw [hD]
  have hDn : D.notes = ns := by rw [hD]
  rw [e1]
  rw [← hD] at hd hw
  clear e1 hD
  obtain ⟨hne, hf0, hc0⟩ := tabs_some hd hw
  have hst := hM.st_b
  have hyl := hM.ys_l
  have hfl := hM.fs_l
  have hel := hM.es_l
  have hbs := hM.bs
  have hnl := hM.ns_l
  have hL : D.stones.toNat = ys.length := by omega
  have hL' : ((ys.length : Nat) : Int) = D.stones := by omega
  have hEl : D.eras.length = fs.length := by rw [hDe, hfl]
  subst hDs
  have a1 := upR_b s (n := D.stones) (by omega)
  generalize hK : upR s D.stones = k at a1
  generalize hs1 : upS s D.stones = s1
  obtain ⟨k, rfl⟩ := Int.eq_ofNat_of_zero_le a1.1
  have hkl : k < ys.length := by omega
  have b1 := fromR_b s1 (lo := -6) (hi := 6) (by omega) (by omega) (by omega) (by omega)
  have b2 := anyR_mem (fromS s1 (-6) 6) (l := [0, fromR s1 (-6) 6]) (by simp) (by simp)
  simp only [List.mem_cons, List.not_mem_nil, or_false] at b2
  generalize hA : anyR (fromS s1 (-6) 6) [0, fromR s1 (-6) 6] = a at b2
  generalize hs2 : anyS (fromS s1 (-6) 6) [0, fromR s1 (-6) 6] = s2
  have hyi := hM.ys_b _ (get!_mem hkl)
  have hw1 : IntKind.wrap .i64 (ys[k]! + a) = ys[k]! + a := wrap_i64 (by omega) (by omega)
  have hyv : -3000 ≤ ys[k]! + a ∧ ys[k]! + a ≤ 3000 := by omega
  generalize hY : ys[k]! + a = year at hw1 hyv
  simp +contextual (maxSteps := 1000000) (disch := first | omega | (with_reducible first | refine krN ?_ | refine krS ?_ | refine krP ?_ | refine krG ?_); kernel_rfl | refine kr ?_; simp only [go_sem, reduceCtorEq, hK, hs1, upd_upd, hA, hs2, hkl, ix_lst, hY, hw1]; done | fail) only [go_sem, seval, -List.reduceReplicate, hK, hs1, upd_upd, hA, hs2, hkl, ix_lst, hY, hw1]
  have he3 := hd.eras_l
  have hn8 := hd.notes_l
  refine wc_heap (by rfl) rfl (copy_to (b := 2) (d := D) (o1 := some false) (o2 := some false) (by omega) (by omega) (fun n hn => ?_)) ?_
  · have k := hd.notes n hn
    by_cases e : n.kind = 1
    · have := (k.years e).2.2.2.2.1; omega
    · rw [(k.span e).1]; simp
  rintro v hp2 nx2 ⟨rfl, q1, q2, q3, q4⟩
  obtain ⟨nt, hnt⟩ : ∃ nt, nt = yearNt k year (some true) := ⟨_, rfl⟩
  have hcl : (copyD D).notes.length = D.notes.length := by unfold copyD; simp
  have hap : ∀ t, isAppend Try.prog 23 23 (.own (nx' + 1) D.notes.length) (.lst 6 [.agg [.int .i64 1, .int .i64 k, .int .i64 0, .lst 1 [.int .i64 year] true, .int .i64 0, .int .i64 0]] t) { lc := [], hp := hp2, nx := nx2 } = some (.own (nx' + 1) (D.notes.length + 1), { lc := [], hp := upd hp2 (nx' + 1) (.arr 6 ((moreD D nt).notes.map encN)), nx := nx2 }) := fun t => by
    rw [ap23b q2 (by rw [List.length_map]; exact hcl) (by omega), hnt]
    unfold moreD
    rw [List.map_append]; rfl
  have hr1 : reify (upd hp2 (nx' + 1) (.arr 6 ((moreD D nt).notes.map encN))) (.own nx' D.eras.length) = some (.lst 2 (D.eras.map encS) false, [nx']) := reify_flat (.inl (by rw [upd_ne _ _ (by omega)]; exact q1)) rfl fun _ => rfl
  have hr2 : reify (upd hp2 (nx' + 1) (.arr 6 ((moreD D nt).notes.map encN))) (.own (nx' + 1) (D.notes.length + 1)) = some (.lst 6 ((moreD D nt).notes.map encN) false, [nx' + 1]) := reify_flat (.inl (upd_same _ _ _)) (by unfold moreD; simp [hcl]) fun n => reify_closedV _ (clN n)
  simp +contextual (maxSteps := 1000000) (disch := first | omega | (with_reducible first | refine krN ?_ | refine krS ?_ | refine krP ?_ | refine krG ?_); kernel_rfl | refine kr ?_; simp only [go_sem, reduceCtorEq, hap, hr1, hr2]; done | fail) only [go_sem, seval, -List.reduceReplicate, hap, hr1, hr2]
  have e2 : Vl.agg [.int .i64 D.stones, .lst 2 (D.eras.map encS) false, .lst 6 ((moreD D nt).notes.map encN) false] = encD (some false) (some false) (moreD D nt) := rfl
  rw [e2]
  have e3 : (moreD D nt).stones = D.stones := rfl
  have hp := told_pure hd hw (k := k) (y := year) (o := some true) (by omega) hyv (by rw [hDn]; omega)
  rw [← hnt] at hp
  obtain ⟨c0, c1, _, _⟩ := cut_1 hd hw (i := k) (y := year) (by omega) hyv
  clear hap hr1 hr2 e2 q1 q2 q3 q4
  generalize moreD D nt = X at hp e3
  have hX6 : X.stones.toNat = ys.length := by rw [e3]; exact hL
  rcases hp with ⟨hX, hv⟩ | ⟨hX, hv, hj, hiff⟩
  · rw [hv] at c1
    simp +contextual (maxSteps := 1000000) (disch := first | omega | (with_reducible first | refine krN ?_ | refine krS ?_ | refine krP ?_ | refine krG ?_); kernel_rfl | refine kr ?_; simp only [go_sem, reduceCtorEq, wc41, c0, hv, wc27, hf0, hX, len_spans, slot_spans, hL, hL', wc15]; done | fail) only [go_sem, seval, -List.reduceReplicate, wc41, c0, hv, wc27, hf0, hX, len_spans, slot_spans, hL, hL', wc15]
  · by_cases hjD : joinT (tabsL D) (1 + k) = (year, year)
    · have hv1 := hiff.2 hjD
      simp +contextual (maxSteps := 1000000) (disch := first | omega | (with_reducible first | refine krN ?_ | refine krS ?_ | refine krP ?_ | refine krG ?_); kernel_rfl | refine kr ?_; simp only [go_sem, reduceCtorEq, wc41, c0, hv1, wc27, hf0, hX, len_spans, slot_spans, hL, hL', wc15, hX6, ix_spans, hkl, hj, hjD, wc28, eqB, beq_self_eq_true]; done | fail) only [go_sem, seval, -List.reduceReplicate, wc41, c0, hv1, wc27, hf0, hX, len_spans, slot_spans, hL, hL', wc15, hX6, ix_spans, hkl, hj, hjD, wc28, eqB, beq_self_eq_true]
    · have hv3 : (cutV D k year).1 = 3 := by have : (cutV D k year).1 ≠ 1 := fun h => hjD (hiff.1 h); omega
      have hne2 : ¬ ((joinT (tabsL D) (1 + k)).1 = year ∧ (joinT (tabsL D) (1 + k)).2 = year) := fun h => hjD (Prod.ext h.1 h.2)
      simp +contextual (maxSteps := 1000000) (disch := first | omega | (with_reducible first | refine krN ?_ | refine krS ?_ | refine krP ?_ | refine krG ?_); kernel_rfl | refine kr ?_; simp only [go_sem, reduceCtorEq, wc41, c0, hv3, wc27, hf0, hX, len_spans, slot_spans, hL, hL', wc15, hX6, ix_spans, hkl, hj, hne2, wc28, eqB, beq_self_eq_true]; done | fail) only [go_sem, seval, -List.reduceReplicate, wc41, c0, hv3, wc27, hf0, hX, len_spans, slot_spans, hL, hL', wc15, hX6, ix_spans, hkl, hj, hne2, wc28, eqB, beq_self_eq_true]
end Go.Proofs
