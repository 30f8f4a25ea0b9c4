/- What functions of the given program do in the ideal machine (Q4), and the plain laws of what they answer; the conditions stand in each theorem. -/
import Derived.Test.YtoamjmokonnglaaKb
import Derived.Test.YtoamjmokonnglaaJk
import Derived.Test.YtoamjmokonnglaaJn
set_option linter.all false
set_option linter.unusedSectionVars false
set_option linter.unusedSimpArgs false
set_option linter.unusedVariables false
namespace Go.Proofs
open Go Go.Idl Go.Dt
set_option linter.unusedSimpArgs false
variable {b : Nat}
theorem nine_mem {d : Dt} {i : Nat} (h : (i : Int) < d.stones) : nineN i ∈ (bndD d).notes := List.mem_append.2 (.inr (List.mem_map.2 ⟨i, List.mem_range.2 (by omega), rfl⟩))
theorem bnd_notes {d : Dt} {n : Nt} (h : n ∈ (bndD d).notes) : n ∈ d.notes ∨ ∃ i : Nat, (i : Int) < d.stones ∧ n = nineN i := by
  rcases List.mem_append.1 h with h | h
  · exact .inl (List.mem_of_mem_take h)
  · obtain ⟨i, hi, rfl⟩ := List.mem_map.1 h
    have := List.mem_range.1 hi
    exact .inr ⟨i, by omega, rfl⟩
theorem nine_ok {d : Dt} {i : Nat} (h : (i : Int) < d.stones) : NtOk d (nineN i) where
  kind := ⟨(by decide : (1 : Int) ≤ 2), (by decide : (2 : Int) ≤ 4)⟩
  stone := ⟨(by omega : (0 : Int) ≤ i), h⟩
  years := fun e => absurd e (by decide : (2 : Int) ≠ 1)
  span := fun _ => ⟨rfl, by unfold SpanOk nineN; dsimp only; omega⟩
  plain := fun _ => rfl
  era := fun e => absurd e (by decide : (2 : Int) ≠ 3)
  after := fun e => absurd e (by decide : (2 : Int) ≠ 4)
theorem made_sh {N far base st y : Int} {es : List (Int × Int)} {ns : List Nt} {ys fs : List Int} (hM : Made 4 N far base st es ns ys fs) (hN : N ≤ 8) (hy : -500 ≤ y ∧ y ≤ 500) : ShOk y (bndD ⟨st, es, ns⟩) := by
  have hd := hM.dtok (by decide) hN
  have hk : keepB ⟨st, es, ns⟩ + st.toNat ≤ 8 := by
    have := hM.st_b
    unfold keepB; dsimp only; omega
  have reok : ∀ n, NtOk ⟨st, es, ns⟩ n → NtOk (bndD ⟨st, es, ns⟩) n := fun n k => ⟨k.kind, k.stone, k.years, k.span, k.plain, k.era, k.after⟩
  refine ⟨⟨hd.stones, hd.eras_l, hd.eras, ?_, fun n hn => ?_⟩, hy, fun s hs => ?_, fun n hn e => ?_, fun n hn x hx => ?_, fun i hi => ?_⟩
  · unfold bndD
    rw [List.length_append, List.length_map, List.length_range, List.length_take]
    dsimp only; omega
  · rcases bnd_notes hn with h | ⟨i, hi, rfl⟩
    · exact reok n (hd.notes n h)
    · exact reok _ (nine_ok hi)
  · have := hM.es_b s hs; omega
  · rcases bnd_notes hn with h | ⟨i, hi, rfl⟩
    · have := (hM.ns_ok n h).bnd; omega
    · unfold nineN; dsimp only; omega
  · rcases bnd_notes hn with h | ⟨i, hi, rfl⟩
    · have := (hM.ns_ok n h).bnd.2.2 x hx; omega
    · cases hx
  · exact ⟨nineN i, nine_mem hi, rfl, rfl, rfl, rfl⟩
theorem ok_bnd {d : Dt} (h : DtOk d) : ∀ n ∈ d.notes, (-5000 ≤ n.lo ∧ n.lo ≤ 5000 ∧ -5000 ≤ n.hi ∧ n.hi ≤ 5000) ∧ n.ys.length ≤ 20 ∧ ∀ y ∈ n.ys, -5000 ≤ y ∧ y ≤ 5000 := fun n hn => by
  have k := h.notes n hn
  by_cases e : n.kind = 1
  · obtain ⟨_, a2, a3, _, a5, a6, _⟩ := k.years e
    exact ⟨by omega, by omega, fun y hy => by have := a6 y hy; omega⟩
  · obtain ⟨a1, a2⟩ := k.span e
    unfold SpanOk at a2
    exact ⟨by omega, by rw [a1]; simp, fun y hy => by rw [a1] at hy; cases hy⟩
theorem hull_b {d : Dt} (h : DtOk d) (hne : tabsL d ≠ []) {v : Nat} (hv : v < 10) : -3000 ≤ (joinT (tabsL d) v).1 ∧ (joinT (tabsL d) v).1 ≤ 3000 ∧ -3000 ≤ (joinT (tabsL d) v).2 ∧ (joinT (tabsL d) v).2 ≤ 3000 := by
  obtain ⟨_, ⟨w2, t2, a2⟩, w3, t3, a3⟩ := hullD h hne hv
  have := t2.bnd v hv
  have := t3.bnd v hv
  omega
theorem years_two {d e : Dt} (h : DtOk d) (h' : DtOk e) (hs : e.stones = d.stones) (hn : tabsL d = [] ↔ tabsL e = []) : ∃ (m : Nat) (E : Int), (m : Int) ≤ d.stones ∧ (0 < m → tabsL d ≠ []) ∧
    (Vl.tup [if (foundV d).2 = 0 then spansV (tabsL d) 1 d.stones.toNat else .nils, I (foundV d).2] = .tup [spansV (tabsL d) 1 m, I E]) ∧ (Vl.tup [if (foundV e).2 = 0 then spansV (tabsL e) 1 e.stones.toNat else .nils, I (foundV e).2] = .tup [spansV (tabsL e) 1 m, I E]) := by
  have h0 := checkE_ok.2 h
  have h0' := checkE_ok.2 h'
  have h6 := h.stones
  by_cases c : tabsL d = []
  · have c' := hn.1 c
    have f1 : foundV d = (.nils, 9) := by unfold foundV; rw [if_neg (fun k => k h0), c]; rfl
    have f2 : foundV e = (.nils, 9) := by unfold foundV; rw [if_neg (fun k => k h0'), c']; rfl
    exact ⟨0, 9, by omega, fun h => absurd h (Nat.lt_irrefl _), by rw [f1]; rfl, by rw [f2]; rfl⟩
  · have c' : tabsL e ≠ [] := fun k => c (hn.2 k)
    have f1 : (foundV d).2 = 0 := by unfold foundV; rw [if_neg (fun k => k h0), if_neg (fun k => c (List.length_eq_zero_iff.1 k))]
    have f2 : (foundV e).2 = 0 := by unfold foundV; rw [if_neg (fun k => k h0'), if_neg (fun k => c' (List.length_eq_zero_iff.1 k))]
    exact ⟨d.stones.toNat, 0, by omega, fun _ => c, by rw [if_pos f1, f1], by rw [if_pos f2, f2, hs]⟩
section
variable {m : Mem} {K : Vl → Mem → Prop}
theorem wc25 {d : Dt} (hS : 1 ≤ d.stones ∧ d.stones ≤ 6) (he : d.eras.length ≤ 1000) (hn : d.notes.length ≤ 1000) {o1 o2 : Option Bool} : WC Try.prog (AA b) (.fn (.func 25) [] []) [.v (encD o1 o2 d)] m K = K (encD (some false) (some false) (bndD d)) m :=
  WC_closed (by simp only [mkAnn, K25]) (rfAs (xs := [encD o1 o2 d]) (by simp only [closedL, clD, Bool.and_self])) (clD _ _ _) (bound_to hS he hn)
theorem wc26 {d : Dt} {y : Int} (h : ShOk y d) {o1 o2 : Option Bool} : WC Try.prog (AA b) (.fn (.func 26) [] []) [.v (encD o1 o2 d), .v (.int .i64 y)] m K = K (encD (some false) (some false) (shD y d)) m :=
  WC_closed (by simp only [mkAnn, K26]) (rfAs (xs := [encD o1 o2 d, I y]) (by simp only [closedL, clD]; rfl)) (clD _ _ _) (moved_to h.y (by have := h.ok.eras_l; omega) (fun s hs => by have := h.eras s hs; have := h.ok.eras s hs; unfold SpanOk at this; omega) (by have := h.ok.notes_l; omega) (ok_bnd h.ok))
theorem wc29 {d : Dt} (hn : d.notes.length ≤ 1000) (hb : ∀ n ∈ d.notes, (-5000 ≤ n.lo ∧ n.lo ≤ 5000 ∧ -5000 ≤ n.hi ∧ n.hi ≤ 5000) ∧ n.ys.length ≤ 20 ∧ ∀ y ∈ n.ys, -5000 ≤ y ∧ y ≤ 5000) {o1 o2 : Option Bool} : WC Try.prog (AA b) (.fn (.func 29) [] []) [.v (encD o1 o2 d)] m K = K (encD none (some false) (tuD d)) m :=
  WC_closed (by simp only [mkAnn, K29]) (rfAs (xs := [encD o1 o2 d]) (by simp only [closedL, clD, Bool.and_self])) (clD _ _ _) (turned_to hn hb)
end
set_option maxRecDepth 10000 in
set_option maxHeartbeats 4000000 in
theorem shift4_to {xs : List Int} (hn : xs.length ≤ 9223372036854775807) {o : Option Bool} : Ans Try.prog (AA 2) 4 [SL 1 (xs.map I) o] (fun v => v = .bool true) := by
  refine Ans_of Try.func4 rfl rfl ?_
  simp +contextual (maxSteps := 1000000) (disch := first | omega | (with_reducible first | refine krN ?_ | refine krS ?_ | refine krP ?_ | refine krG ?_); kernel_rfl | refine kr ?_; simp only [go_sem, reduceCtorEq]; done | fail) only [go_sem, seval, -List.reduceReplicate]
  refine wc_heap (by rfl) rfl (newUrn_to (b := 2) hn) ?_
  rintro v hp' nx' ⟨rfl, rfl, s, rfl⟩
  simp +contextual (maxSteps := 1000000) (disch := first | omega | (with_reducible first | refine krN ?_ | refine krS ?_ | refine krP ?_ | refine krG ?_); kernel_rfl | refine kr ?_; simp only [go_sem, reduceCtorEq]; done | fail) only [go_sem, seval, -List.reduceReplicate]
  refine wc_heap (by rfl) rfl (datingOf_to (b := 2) (s := s) (S := 4) (N := 5) (far := 12) (by decide) (by decide) (by decide)) ?_
  rintro v hp' nx' ⟨s, base, st, es, ns, ys, fs, g, hM, rfl, rfl, hn5⟩
  have r1 := rfd1 (s := s) (es := es) (ns := ns) (ys := ys) (fs := fs) (g := g)
  have r2 := rfd2 (s := s) (es := es) (ns := ns) (ys := ys) (fs := fs) (g := g)
  simp +contextual (maxSteps := 1000000) (disch := first | omega | (with_reducible first | refine krN ?_ | refine krS ?_ | refine krP ?_ | refine krG ?_); kernel_rfl | refine kr ?_; simp only [go_sem, reduceCtorEq, r1, r2]; done | fail) only [go_sem, seval, -List.reduceReplicate, r1, r2]
  clear r1 r2
  have hu : killHp [1, 2] (HPd ⟨s, es, ns, ys, fs⟩ g) 0 = urnO s := rfl
  generalize killHp [1, 2] (HPd ⟨s, es, ns, ys, fs⟩ g) = hk at hu
  rw [upd_urn hu]
  have hd := hM.dtok (by decide) (by decide)
  have hSh := fun y (hy : -500 ≤ y ∧ y ≤ 500) => made_sh hM (by decide) hy
  obtain ⟨D, hD⟩ : ∃ D : Dt, D = ⟨st, es, ns⟩ := ⟨_, rfl⟩
  have e1 : Vl.agg [.int .i64 st, .lst 2 (es.map encS) false, .lst 6 (ns.map encN) false] = encD (some false) (some false) D := by rw [hD]; rfl
  rw [e1]
  rw [← hD] at hd hSh
  clear hD e1 hM
  have a1 := fromR_b s (lo := -500) (hi := 500) (by omega) (by omega) (by omega) (by omega)
  generalize hA : fromR s (-500) 500 = y at a1
  generalize hs1 : fromS s (-500) 500 = s1
  have hSy := hSh y a1
  clear hSh
  have w25 := fun (m : Mem) (K : Vl → Mem → Prop) => wc25 (b := 2) (d := D) hd.stones (by have := hd.eras_l; omega) (by have := hd.notes_l; omega) (o1 := some false) (o2 := some false) (m := m) (K := K)
  obtain ⟨B, hB⟩ : ∃ B, bndD D = B := ⟨_, rfl⟩
  rw [hB] at w25 hSy
  have hBs : B.stones = D.stones := by rw [← hB]; rfl
  have w26 := fun (m : Mem) (K : Vl → Mem → Prop) => wc26 (b := 2) hSy (o1 := some false) (o2 := some false) (m := m) (K := K)
  have hX := hSy.sh
  have hXs : (shD y B).stones = B.stones := rfl
  obtain ⟨m1, E1, hm1, hm2, hv1, hv2⟩ := years_two hSy.ok hX hXs ⟨fun k => sh_none hSy k, fun k => Classical.byContradiction fun c => by
    have h6 := hSy.ok.stones
    exact (sh_hull hSy c (i := 0) (by omega)).1 k⟩
  have hh1 := fun (i : Nat) (hi : i < m1) => sh_hull hSy (hm2 (by omega)) (i := i) (by omega)
  have hb1 := fun (i : Nat) (hi : i < m1) => hull_b hSy.ok (hm2 (by omega)) (v := 1 + i) (by have := hSy.ok.stones; omega)
  have w27 := fun (m : Mem) (K : Vl → Mem → Prop) => wc27 (b := 2) (d := B) (o1 := some false) (o2 := some false) (m := m) (K := K)
  have w27x := fun (m : Mem) (K : Vl → Mem → Prop) => wc27 (b := 2) (d := shD y B) (o1 := some false) (o2 := some false) (m := m) (K := K)
  rw [hv1] at w27
  rw [hv2] at w27x
  have hm10 : m1 ≤ 6 := by have := hSy.ok.stones; omega
  simp +contextual (maxSteps := 1000000) (disch := first | omega | (with_reducible first | refine krN ?_ | refine krS ?_ | refine krP ?_ | refine krG ?_); kernel_rfl | refine kr ?_; simp only [go_sem, reduceCtorEq, w25, hA, hs1, w26]; done | fail) only [go_sem, seval, -List.reduceReplicate, w25, hA, hs1, w26]
  generalize shD y B = X at w27x hh1
  simp +contextual (maxSteps := 1000000) (disch := first | omega | (with_reducible first | refine krN ?_ | refine krS ?_ | refine krP ?_ | refine krG ?_); kernel_rfl | refine kr ?_; simp only [go_sem, reduceCtorEq, w27, w27x, len_spans, slot_spans]; done | fail) only [go_sem, seval, -List.reduceReplicate, w27, w27x, len_spans, slot_spans]
  refine wp_loop_to m1 (fun i st => ∃ ex, st = ({ sl := (3, .bp 0 0) :: (4, .loc (encD (some false) (some false) B)) :: (6, I y) :: (8, spansV (tabsL B) 1 m1) :: (10, spansV (tabsL X) 1 m1) :: (12, I i) :: ex, hp := upd hk 0 (.box (.agg [.int .u64 s1.1, .int .u64 s1.2])), nx := nx' } : FS)) ?_ 0 (Nat.zero_le _) ⟨_, rfl⟩
  rintro i st' hi ⟨ex, rfl⟩
  by_cases hc : i < m1
  · obtain ⟨_, q1, q2⟩ := hh1 i hc
    have q3 := hb1 i hc
    have hw1 : IntKind.wrap .i64 ((joinT (tabsL B) (1 + i)).1 + y) = (joinT (tabsL B) (1 + i)).1 + y := wrap_i64 (by omega) (by omega)
    have hw2 : IntKind.wrap .i64 ((joinT (tabsL B) (1 + i)).2 + y) = (joinT (tabsL B) (1 + i)).2 + y := wrap_i64 (by omega) (by omega)
    simp +contextual (maxSteps := 1000000) (disch := first | omega | (with_reducible first | refine krN ?_ | refine krS ?_ | refine krP ?_ | refine krG ?_); kernel_rfl | refine kr ?_; simp only [go_sem, reduceCtorEq, Int.ofNat_lt, hc, len_spans, slot_spans, ix_spans, encS, hw1, hw2, wc28, neS, q1, q2]; done | fail) only [go_sem, seval, -List.reduceReplicate, Int.ofNat_lt, hc, len_spans, slot_spans, ix_spans, encS, hw1, hw2, wc28, neS, q1, q2]
    exact ⟨_, rfl⟩
  have hie : i = m1 := by omega
  subst hie
  simp +contextual (maxSteps := 1000000) (disch := first | omega | (with_reducible first | refine krN ?_ | refine krS ?_ | refine krP ?_ | refine krG ?_); kernel_rfl | refine kr ?_; simp only [go_sem, reduceCtorEq, Int.lt_irrefl, len_spans, slot_spans]; done | fail) only [go_sem, seval, -List.reduceReplicate, Int.lt_irrefl, len_spans, slot_spans]
  clear hh1 hb1 hv1 hv2 w27 w27x hX hi hc ex hXs
  have hB6 := hSy.ok.stones
  have hBn := hSy.ok.notes_l
  have hb9 := ok_bnd hSy.ok
  have hYf := tuD_flat (tuD_ok (d := ⟨B.stones, [], B.notes⟩) hB6 hBn fun n hn h3 => by
    have k := hSy.ok.notes n hn
    exact ⟨k.kind, k.stone, k.years, k.span, k.plain, fun e => absurd e h3, k.after⟩)
  have w29a : ∀ (m : Mem) (K : Vl → Mem → Prop), WC Try.prog (AA 2) (.fn (.func 29) [] []) [.v (.agg [I B.stones, .nils, SL 6 (B.notes.map encN) (some false)])] m K = K (encD none (some false) (tuD ⟨B.stones, [], B.notes⟩)) m := fun m K => wc29 (b := 2) (d := ⟨B.stones, [], B.notes⟩) (o1 := none) (o2 := some false) (m := m) (K := K) (by dsimp only; omega) hb9
  have hYs : (tuD ⟨B.stones, [], B.notes⟩).stones = B.stones := rfl
  generalize tuD ⟨B.stones, [], B.notes⟩ = Y at hYf w29a hYs
  have w29b := fun (m : Mem) (K : Vl → Mem → Prop) => wc29 (b := 2) (d := Y) (by have := hYf.ok.notes_l; omega) (ok_bnd hYf.ok) (o1 := none) (o2 := some false) (m := m) (K := K)
  have hZs : (tuD Y).stones = Y.stones := rfl
  have hZe := fun (p q : Nat) (hp : (p : Int) < Y.stones) (hq : (q : Int) < Y.stones) => tu_ear hYf hp hq
  obtain ⟨m2, E2, hm3, hm4, hv3, hv4⟩ := years_two hYf.turn.ok hYf.ok rfl ⟨fun k => Classical.byContradiction fun c => (tu_hull hYf c (i := 0) (by omega)).1 k, fun k => tu_none hYf k⟩
  have hh2 := fun (i : Nat) (hi : i < m2) (hne : tabsL Y ≠ []) => tu_hull hYf hne (i := i) (by rw [hZs] at hm3; omega)
  have hne2 : 0 < m2 → tabsL Y ≠ [] := fun h k => hm4 h (tu_none hYf k)
  have hb2 := fun (i : Nat) (hi : i < m2) => hull_b hYf.turn.ok (hm4 (by omega)) (v := 1 + i) (by rw [hZs] at hm3; omega)
  have w27 := fun (m : Mem) (K : Vl → Mem → Prop) => wc27 (b := 2) (d := Y) (o1 := none) (o2 := some false) (m := m) (K := K)
  have w27z := fun (m : Mem) (K : Vl → Mem → Prop) => wc27 (b := 2) (d := tuD Y) (o1 := none) (o2 := some false) (m := m) (K := K)
  rw [hv4] at w27
  rw [hv3] at w27z
  have w31 := fun (a c : Int) (m : Mem) (K : Vl → Mem → Prop) => wc31 (b := 2) (d := Y) (o1 := none) (o2 := some false) (a := a) (c := c) (m := m) (K := K)
  have w31z := fun (a c : Int) (m : Mem) (K : Vl → Mem → Prop) => wc31 (b := 2) (d := tuD Y) (o1 := none) (o2 := some false) (a := a) (c := c) (m := m) (K := K)
  clear hv3 hv4
  generalize tuD Y = Z at *
  have a2 := upR_b s1 (n := Z.stones) (by omega)
  generalize hP : upR s1 Z.stones = p at a2
  generalize hs2 : upS s1 Z.stones = s2
  have a3 := upR_b s2 (n := Z.stones) (by omega)
  generalize hQ : upR s2 Z.stones = q at a3
  generalize hs3 : upS s2 Z.stones = s3
  obtain ⟨p, rfl⟩ := Int.eq_ofNat_of_zero_le a2.1
  obtain ⟨q, rfl⟩ := Int.eq_ofNat_of_zero_le a3.1
  have hE := hZe p q (by omega) (by omega)
  have hm26 : m2 ≤ 6 := by omega
  simp +contextual (maxSteps := 1000000) (disch := first | omega | (with_reducible first | refine krN ?_ | refine krS ?_ | refine krP ?_ | refine krG ?_); kernel_rfl | refine kr ?_; simp only [go_sem, reduceCtorEq, w29a, w29b, hP, hs2, hQ, hs3, upd_upd, w31, w31z, w27, w27z, hE, len_spans, slot_spans]; done | fail) only [go_sem, seval, -List.reduceReplicate, w29a, w29b, hP, hs2, hQ, hs3, upd_upd, w31, w31z, w27, w27z, hE, len_spans, slot_spans]
  refine wp_loop_to m2 (fun i st => ∃ ex, st = ({ sl := (20, spansV (tabsL Z) 1 m2) :: (22, spansV (tabsL Y) 1 m2) :: (24, I i) :: ex, hp := upd hk 0 (.box (.agg [.int .u64 s3.1, .int .u64 s3.2])), nx := nx' } : FS)) ?_ 0 (Nat.zero_le _) ⟨_, rfl⟩
  rintro i st' hi ⟨ex, rfl⟩
  by_cases hc : i < m2
  · obtain ⟨_, q1, q2⟩ := hh2 i hc (hne2 (by omega))
    have q3 := hb2 i hc
    have hw1 : IntKind.wrap .i64 (-(joinT (tabsL Z) (1 + i)).1) = -(joinT (tabsL Z) (1 + i)).1 := wrap_i64 (by omega) (by omega)
    have hw2 : IntKind.wrap .i64 (-(joinT (tabsL Z) (1 + i)).2) = -(joinT (tabsL Z) (1 + i)).2 := wrap_i64 (by omega) (by omega)
    have q4 : (joinT (tabsL Y) (1 + i)).1 = -(joinT (tabsL Z) (1 + i)).2 := by omega
    have q5 : (joinT (tabsL Y) (1 + i)).2 = -(joinT (tabsL Z) (1 + i)).1 := by omega
    simp +contextual (maxSteps := 1000000) (disch := first | omega | (with_reducible first | refine krN ?_ | refine krS ?_ | refine krP ?_ | refine krG ?_); kernel_rfl | refine kr ?_; simp only [go_sem, reduceCtorEq, Int.ofNat_lt, hc, len_spans, slot_spans, ix_spans, encS, Int.zero_sub, hw1, hw2, wc28, neS, q4, q5]; done | fail) only [go_sem, seval, -List.reduceReplicate, Int.ofNat_lt, hc, len_spans, slot_spans, ix_spans, encS, Int.zero_sub, hw1, hw2, wc28, neS, q4, q5]
    exact ⟨_, rfl⟩
  have hie : i = m2 := by omega
  subst hie
  simp +contextual (maxSteps := 1000000) (disch := first | omega | (with_reducible first | refine krN ?_ | refine krS ?_ | refine krP ?_ | refine krG ?_); kernel_rfl | refine kr ?_; simp only [go_sem, reduceCtorEq, Int.lt_irrefl, len_spans, slot_spans, wc15]; done | fail) only [go_sem, seval, -List.reduceReplicate, Int.lt_irrefl, len_spans, slot_spans, wc15]
end Go.Proofs
