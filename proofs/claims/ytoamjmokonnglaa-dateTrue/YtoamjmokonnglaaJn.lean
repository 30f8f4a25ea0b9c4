/- What functions of the given program do in the ideal machine (J22), and the plain laws of what they answer; the conditions stand in each theorem. -/
import Derived.Test.YtoamjmokonnglaaJm
set_option linter.all false
set_option linter.unusedSectionVars false
set_option linter.unusedSimpArgs false
set_option linter.unusedVariables false
namespace Go.Proofs
open Go Go.Idl Go.Dt
set_option linter.unusedSimpArgs false
variable {b : Nat}
section
variable {s : Int × Int} {es : List (Int × Int)} {ns : List Nt} {ys fs : List Int} {g : Nat → Ob}
theorem rfd1 : reify (HPd ⟨s, es, ns, ys, fs⟩ g) (.own 1 es.length) = some (.lst 2 (es.map encS) false, [1]) := reify_flat (.inl rfl) rfl fun _ => rfl
theorem rfd2 : reify (HPd ⟨s, es, ns, ys, fs⟩ g) (.own 2 ns.length) = some (.lst 6 (ns.map encN) false, [2]) := reify_flat (.inl rfl) rfl fun n => reify_closedV _ (clN n)
end
theorem upd_urn {h : Nat → Ob} {s : Int × Int} (e : h 0 = urnO s) : h = upd h 0 (.box (.agg [.int .u64 s.1, .int .u64 s.2])) := (upd_self e).symm
set_option maxRecDepth 10000 in
set_option maxHeartbeats 4000000 in
theorem true_to {xs : List Int} (hn : xs.length ≤ 9223372036854775807) {o : Option Bool} : Ans Try.prog (AA 2) 10 [SL 1 (xs.map I) o] (fun v => v = .bool true) := by
  refine Ans_of Try.func10 rfl rfl ?_
  simp +contextual (maxSteps := 1000000) (disch := first | omega | (with_reducible first | refine krN ?_ | refine krS ?_ | refine krP ?_ | refine krG ?_); kernel_rfl | refine kr ?_; simp only [go_sem, reduceCtorEq]; done | fail) only [go_sem, seval, -List.reduceReplicate]
  refine wc_heap (by rfl) rfl (newUrn_to (b := 2) hn) ?_
  rintro v hp' nx' ⟨rfl, rfl, s, rfl⟩
  have hfar := anyR_mem s (l := [3, 30]) (by simp) (by simp)
  simp +contextual (maxSteps := 1000000) (disch := first | omega | (with_reducible first | refine krN ?_ | refine krS ?_ | refine krP ?_ | refine krG ?_); kernel_rfl | refine kr ?_; simp only [go_sem, reduceCtorEq, upd_upd]; done | fail) only [go_sem, seval, -List.reduceReplicate, upd_upd]
  generalize anyR s [3, 30] = far at hfar
  have hf : 3 ≤ far ∧ far ≤ 60 := by simp at hfar; omega
  refine wc_heap (by rfl) rfl (datingOf_to (b := 2) (s := anyS s [3, 30]) (S := 6) (N := 7) (far := far) (by decide) (by decide) hf) ?_
  clear hfar
  rintro v hp' nx' ⟨s, base, st, es, ns, ys, fs, g, hM, rfl, rfl, hn5⟩
  have r1 := rfd1 (s := s) (es := es) (ns := ns) (ys := ys) (fs := fs) (g := g)
  have r2 := rfd2 (s := s) (es := es) (ns := ns) (ys := ys) (fs := fs) (g := g)
  have r3 : reify (killHp [1, 2] (HPd ⟨s, es, ns, ys, fs⟩ g)) (.own 3 ys.length) = some (.lst 1 (ys.map I) false, [3]) := reify_flat (.inl rfl) rfl fun _ => rfl
  have r4 : reify (killHp [1, 2] (HPd ⟨s, es, ns, ys, fs⟩ g)) (.own 4 fs.length) = some (.lst 1 (fs.map I) false, [4]) := reify_flat (.inl rfl) rfl fun _ => rfl
  simp +contextual (maxSteps := 1000000) (disch := first | omega | (with_reducible first | refine krN ?_ | refine krS ?_ | refine krP ?_ | refine krG ?_); kernel_rfl | refine kr ?_; simp only [go_sem, reduceCtorEq, r1, r2, r3, r4]; done | fail) only [go_sem, seval, -List.reduceReplicate, r1, r2, r3, r4]
  clear r1 r2 r3 r4
  have hu : killHp [3, 4] (killHp [1, 2] (HPd ⟨s, es, ns, ys, fs⟩ g)) 0 = urnO s := rfl
  generalize killHp [3, 4] (killHp [1, 2] (HPd ⟨s, es, ns, ys, fs⟩ g)) = hk at hu
  rw [upd_urn hu]
  have hd := hM.dtok (by decide) (by decide)
  have hw := hM.truth (by decide) (by omega)
  obtain ⟨D, hD⟩ : ∃ D : Dt, D = ⟨st, es, ns⟩ := ⟨_, rfl⟩
  have e1 : Vl.agg [.int .i64 st, .lst 2 (es.map encS) false, .lst 6 (ns.map encN) false] = encD (some false) (some false) D := by rw [hD]; rfl
  have hDs : D.stones = st := by rw [hD]
  have hDe : D.eras = es := by rw [hD]
  rw [e1]
  rw [← hD] at hd hw
  clear e1 hD
  obtain ⟨hne, hf0, hc0⟩ := tabs_some hd hw
  have hst := hM.st_b
  have hyl := hM.ys_l
  have hfl := hM.fs_l
  have hel := hM.es_l
  have hbs := hM.bs
  have hL : D.stones.toNat = ys.length := by omega
  have hL' : ((ys.length : Nat) : Int) = D.stones := by omega
  have hEl : D.eras.length = fs.length := by rw [hDe, hfl]
  simp +contextual (maxSteps := 1000000) (disch := first | omega | (with_reducible first | refine krN ?_ | refine krS ?_ | refine krP ?_ | refine krG ?_); kernel_rfl | refine kr ?_; simp only [go_sem, reduceCtorEq, wc27, hf0, wc38, len_spans, slot_spans, hL, hL', hEl]; done | fail) only [go_sem, seval, -List.reduceReplicate, wc27, hf0, wc38, len_spans, slot_spans, hL, hL', hEl]
  have hull := fun (v : Nat) (hv : v < 10) => (joinT_hull (tabs_GT hd) hne hv).1 _ ((tabs_tr hd _).2 hw)
  refine wp_loop_to fs.length (fun i st => ∃ ex, st = ({ sl := (3, .bp 0 0) :: (4, .loc (encD (some false) (some false) D)) :: (5, .loc (.agg [.lst 1 (ys.map I) false, .lst 1 (fs.map I) false])) :: (6, spansV (tabsL D) 1 ys.length) :: (8, spansV (tabsL D) 7 fs.length) :: (10, I i) :: ex, hp := upd hk 0 (.box (.agg [.int .u64 s.1, .int .u64 s.2])), nx := nx' } : FS)) ?_ 0 (Nat.zero_le _) ⟨_, rfl⟩
  rintro i st' hi ⟨ex, rfl⟩
  by_cases hc : i < fs.length
  · have hin := hull (7 + i) (by omega)
    rw [wOf_f] at hin
    have hin' := inT hin
    simp +contextual (maxSteps := 1000000) (disch := first | omega | (with_reducible first | refine krN ?_ | refine krS ?_ | refine krP ?_ | refine krG ?_); kernel_rfl | refine kr ?_; simp only [go_sem, reduceCtorEq, Int.ofNat_lt, hc, len_spans, slot_spans, ix_spans, ix_lst, hin']; done | fail) only [go_sem, seval, -List.reduceReplicate, Int.ofNat_lt, hc, len_spans, slot_spans, ix_spans, ix_lst, hin']
    exact ⟨_, rfl⟩
  have hie : i = fs.length := by omega
  subst hie
  simp +contextual (maxSteps := 1000000) (disch := first | omega | (with_reducible first | refine krN ?_ | refine krS ?_ | refine krP ?_ | refine krG ?_); kernel_rfl | refine kr ?_; simp only [go_sem, reduceCtorEq, Int.lt_irrefl, len_spans, slot_spans]; done | fail) only [go_sem, seval, -List.reduceReplicate, Int.lt_irrefl, len_spans, slot_spans]
  clear hi hc ex
  refine wp_loop_to ys.length (fun i st => ∃ (s : Int × Int) (ex : List (Nat × Vl)), st = ({ sl := (3, .bp 0 0) :: (4, .loc (encD (some false) (some false) D)) :: (5, .loc (.agg [.lst 1 (ys.map I) false, .lst 1 (fs.map I) false])) :: (6, spansV (tabsL D) 1 ys.length) :: (11, I i) :: ex, hp := upd hk 0 (.box (.agg [.int .u64 s.1, .int .u64 s.2])), nx := nx' } : FS)) ?_ 0 (Nat.zero_le _) ⟨s, _, rfl⟩
  clear s hu
  rintro i st' hi ⟨s, ex, rfl⟩
  by_cases hc : i < ys.length
  case neg =>
    have hie : i = ys.length := by omega
    subst hie
    simp +contextual (maxSteps := 1000000) (disch := first | omega | (with_reducible first | refine krN ?_ | refine krS ?_ | refine krP ?_ | refine krG ?_); kernel_rfl | refine kr ?_; simp only [go_sem, reduceCtorEq, Int.lt_irrefl, len_spans, slot_spans, wc15]; done | fail) only [go_sem, seval, -List.reduceReplicate, Int.lt_irrefl, len_spans, slot_spans, wc15]
  have a1 := fromR_b s (lo := -3) (hi := 3) (by omega) (by omega) (by omega) (by omega)
  have a2 := anyR_mem (fromS s (-3) 3) (l := [0, fromR s (-3) 3]) (by simp) (by simp)
  simp only [List.mem_cons, List.not_mem_nil, or_false] at a2
  generalize hA : anyR (fromS s (-3) 3) [0, fromR s (-3) 3] = a at a2
  generalize hs1 : anyS (fromS s (-3) 3) [0, fromR s (-3) 3] = s1
  have a3 := upR_b s1 (n := D.stones) (by omega)
  generalize hO : upR s1 D.stones = o at a3
  obtain ⟨on, rfl⟩ := Int.eq_ofNat_of_zero_le a3.1
  have hyi := hM.ys_b _ (get!_mem hc)
  have hw1 : IntKind.wrap .i64 (ys[i]! + a) = ys[i]! + a := wrap_i64 (by omega) (by omega)
  have hyv : -3000 ≤ ys[i]! + a ∧ ys[i]! + a ≤ 3000 := by omega
  obtain ⟨c1, c2⟩ := cut_fits hd hw (i := i) (by omega) hyv
  obtain ⟨d1, d2⟩ := ear_fits hd hw (a := i) (c := on) (by omega) (by omega)
  rw [wOf_y (by omega)] at c2 d2
  rw [wOf_y (by omega)] at d2
  have hin := hull (1 + i) (by omega)
  rw [wOf_y (by omega)] at hin
  have hin' := inT hin
  have hon : on < ys.length := by omega
  simp +contextual (maxSteps := 1000000) (disch := first | omega | (with_reducible first | refine krN ?_ | refine krS ?_ | refine krP ?_ | refine krG ?_); kernel_rfl | refine kr ?_; simp only [go_sem, reduceCtorEq, Int.ofNat_lt, hc, len_spans, slot_spans, ix_spans, ix_lst, hin', upd_upd, hA, hs1, hO, hw1, wc41, wc31, c1, d1, hon, c2, d2]; done | fail) only [go_sem, seval, -List.reduceReplicate, Int.ofNat_lt, hc, len_spans, slot_spans, ix_spans, ix_lst, hin', upd_upd, hA, hs1, hO, hw1, wc41, wc31, c1, d1, hon, c2, d2]
  exact ⟨upS s1 D.stones, _, rfl⟩
end Go.Proofs
