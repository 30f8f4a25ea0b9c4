/- What functions of the given program do in the ideal machine (J28), and the plain laws of what they answer; the conditions stand in each theorem. -/
import Derived.Test.YtoamjmokonnglaaJn
set_option linter.all false
set_option linter.unusedSectionVars false
set_option linter.unusedSimpArgs false
set_option linter.unusedVariables false
namespace Go.Proofs
open Go Go.Idl Go.Dt
set_option linter.unusedSimpArgs false
variable {b : Nat}
theorem ap62b {m : Mem} {id n : Nat} {xs : List Vl} {x : Vl} {o : Bool} (ho : m.hp id = .arr 1 xs) (hn : xs.length = n) (hs : n < 100000) : isAppend Try.prog 62 62 (.own id n) (.lst 1 [x] o) m = some (.own id (n + 1), { m with hp := upd m.hp id (.arr 1 (xs ++ [x])) }) :=
  app1_own (by rw [td62]) ho hn (grow_ok rfl rfl (by decide) (by decide) (by omega))
@[reducible] def rowE (E : Nat → Nat → Int) (n i : Nat) : Vl := .lst 1 ((List.range n).map fun k => I (E i k)) false
theorem rng_snoc {α : Type} {f : Nat → α} {k : Nat} : (List.range k).map f ++ [f k] = (List.range (k + 1)).map f := by rw [List.range_succ, List.map_append]; rfl
theorem rowE_cl {E : Nat → Nat → Int} {n i : Nat} : (rowE E n i).closed = true := closedL_map (fun _ => rfl) _
theorem sub_row {E : Nat → Nat → Int} {n i : Nat} : sub false 1 0 (rowE E n i) = some (rowE E n i) := sub_1 rfl
theorem ix_row {E : Nat → Nat → Int} {n i k eb : Nat} {ez : Vl} {kd : IntKind} {m : Mem} (h : k < n) : indexAddrV (.slice 1 eb ez) (.v (rowE E n i)) (.int kd (k : Int)) m = some (.v (.fp (I (E i k)) 0), m) := ix_rng h (by decide)
attribute [go_sem] sub_row
set_option maxRecDepth 10000 in
set_option maxHeartbeats 4000000 in
theorem order_to {xs : List Int} (hn : xs.length ≤ 9223372036854775807) {o : Option Bool} : Ans Try.prog (AA 2) 5 [SL 1 (xs.map I) o] (fun v => v = .bool true) := by
  refine Ans_of Try.func5 rfl rfl ?_
  simp +contextual (maxSteps := 1000000) (disch := first | omega | (with_reducible first | refine krN ?_ | refine krS ?_ | refine krP ?_ | refine krG ?_); kernel_rfl | refine kr ?_; simp only [go_sem, reduceCtorEq]; done | fail) only [go_sem, seval, -List.reduceReplicate]
  refine wc_heap (by rfl) rfl (newUrn_to (b := 2) hn) ?_
  rintro v hp' nx' ⟨rfl, rfl, s, rfl⟩
  have hfar := anyR_mem s (l := [3, 12]) (by simp) (by simp)
  simp +contextual (maxSteps := 1000000) (disch := first | omega | (with_reducible first | refine krN ?_ | refine krS ?_ | refine krP ?_ | refine krG ?_); kernel_rfl | refine kr ?_; simp only [go_sem, reduceCtorEq, upd_upd]; done | fail) only [go_sem, seval, -List.reduceReplicate, upd_upd]
  generalize anyR s [3, 12] = far at hfar
  have hf : 3 ≤ far ∧ far ≤ 60 := by simp at hfar; omega
  refine wc_heap (by rfl) rfl (datingOf_to (b := 2) (s := anyS s [3, 12]) (S := 4) (N := 7) (far := far) (by decide) (by decide) hf) ?_
  rintro v hp' nx' ⟨s, base, st, es, ns, ys, fs, g, hM, rfl, rfl, hn5⟩
  have r1 := rfd1 (s := s) (es := es) (ns := ns) (ys := ys) (fs := fs) (g := g)
  have r2 := rfd2 (s := s) (es := es) (ns := ns) (ys := ys) (fs := fs) (g := g)
  have r3 : reify (killHp [1, 2] (HPd ⟨s, es, ns, ys, fs⟩ g)) (.own 3 ys.length) = some (.lst 1 (ys.map I) false, [3]) := reify_flat (.inl rfl) rfl fun _ => rfl
  have r4 : reify (killHp [1, 2] (HPd ⟨s, es, ns, ys, fs⟩ g)) (.own 4 fs.length) = some (.lst 1 (fs.map I) false, [4]) := reify_flat (.inl rfl) rfl fun _ => rfl
  simp +contextual (maxSteps := 1000000) (disch := first | omega | (with_reducible first | refine krN ?_ | refine krS ?_ | refine krP ?_ | refine krG ?_); kernel_rfl | refine kr ?_; simp only [go_sem, reduceCtorEq, r1, r2, r3, r4]; done | fail) only [go_sem, seval, -List.reduceReplicate, r1, r2, r3, r4]
  clear r1 r2 r3 r4
  have hu : killHp [3, 4] (killHp [1, 2] (HPd ⟨s, es, ns, ys, fs⟩ g)) 0 = urnO s := rfl
  generalize killHp [3, 4] (killHp [1, 2] (HPd ⟨s, es, ns, ys, fs⟩ g)) = hk at hu
  rw [upd_urn hu]
  have hd := hM.dtok (by decide) (by decide)
  have hw := hM.truth (by decide) (by omega)
  obtain ⟨D, hD⟩ : ∃ D : Dt, D = ⟨st, es, ns⟩ := ⟨_, rfl⟩
  have e1 : Vl.agg [.int .i64 st, .lst 2 (es.map encS) false, .lst 6 (ns.map encN) false] = encD (some false) (some false) D := by rw [hD]; rfl
  have hDs : D.stones = st := by rw [hD]
  have hDe : D.eras = es := by rw [hD]
  have hDn : D.notes = ns := by rw [hD]
  rw [e1]
  rw [← hD] at hd hw
  clear e1 hD
  obtain ⟨hne, hf0, hc0⟩ := tabs_some hd hw
  have hst := hM.st_b
  have hyl := hM.ys_l
  have hfl := hM.fs_l
  have hel := hM.es_l
  have hbs := hM.bs
  have hnl := hM.ns_l
  have hL6 : D.stones.toNat = ys.length := by omega
  have hL' : ((ys.length : Nat) : Int) = D.stones := by omega
  have hEl : D.eras.length = fs.length := by rw [hDe, hfl]
  have hu' : upd hk 0 (.box (.agg [.int .u64 s.1, .int .u64 s.2])) = hk := (upd_urn hu).symm
  rw [hu']
  have he3 := hd.eras_l
  have hn8 := hd.notes_l
  refine wc_heap (by rfl) rfl (copy_to (b := 2) (d := D) (o1 := some false) (o2 := some false) (by omega) (by omega) (fun n hn => ?_)) ?_
  · have k := hd.notes n hn
    by_cases e : n.kind = 1
    · have := (k.years e).2.2.2.2.1; omega
    · rw [(k.span e).1]; simp
  rintro v hp2 nx2 ⟨rfl, q1, q2, q3, q4⟩
  dsimp only at q1 q2 q3 q4
  have q5 : hp2 0 = urnO s := by rw [q3 0 (by omega), hu]
  simp +contextual (maxSteps := 1000000) (disch := first | omega | (with_reducible first | refine krN ?_ | refine krS ?_ | refine krP ?_ | refine krG ?_); kernel_rfl | refine kr ?_; simp only [go_sem, reduceCtorEq]; done | fail) only [go_sem, seval, -List.reduceReplicate]
  refine wc_heap (by rfl) rfl (row_to (b := 2) (n := D.notes.length) (by omega) (by dsimp only; omega) q5) ?_
  rintro v hp3 nx3 ⟨s1, L, hL, rfl, rfl, rfl⟩
  dsimp only
  have hLl : L.length = D.notes.length := by rw [hL.length_eq, List.length_range]
  have hLb : ∀ k ∈ L, k < D.notes.length := fun k hk => List.mem_range.1 (hL.mem_iff.1 hk)
  have hLa : ∀ i, i < D.notes.length → i ∈ L := fun i hi => hL.mem_iff.2 (List.mem_range.2 hi)
  simp +contextual (maxSteps := 1000000) (disch := first | omega | (with_reducible first | refine krN ?_ | refine krS ?_ | refine krP ?_ | refine krG ?_); kernel_rfl | refine kr ?_; simp only [go_sem, reduceCtorEq]; done | fail) only [go_sem, seval, -List.reduceReplicate]
  have p1 : RW hp2 nx2 s1 L nx' = .arr 2 (D.eras.map encS) := (RW_ne (by omega) (by omega)).trans q1
  have p2 : RW hp2 nx2 s1 L (nx' + 1) = .arr 6 ((copyD D).notes.map encN) := (RW_ne (by omega) (by omega)).trans q2
  have p3 : RW hp2 nx2 s1 L nx2 = .arr 1 (L.map fun k : Nat => I k) := RW_at (by omega)
  have hcl : (copyD D).notes.length = D.notes.length := by unfold copyD; rw [List.length_map]
  generalize RW hp2 nx2 s1 L = h0 at p1 p2 p3
  generalize (copyD D).notes = Q0 at p2 hcl
  refine wp_loop_to D.notes.length (fun i st => ∃ (h : Nat → Ob) (Q : List Nt) (ex : List (Nat × Vl)), Q.length = D.notes.length ∧ (∀ j, j < i → Q[j]! = D.notes[L[j]!]!) ∧ h nx' = .arr 2 (D.eras.map encS) ∧ h (nx' + 1) = .arr 6 (Q.map encN) ∧ h nx2 = .arr 1 (L.map fun k : Nat => I k) ∧
    st = ({ sl := (4, .loc (encD (some false) (some false) D)) :: (6, .loc (.agg [I D.stones, .own nx' D.eras.length, .own (nx' + 1) D.notes.length])) :: (7, .own nx2 D.notes.length) :: (8, I i) :: ex, hp := h, nx := nx2 + 1 } : FS)) ?_ 0 (Nat.zero_le _) ⟨_, Q0, _, hcl, fun j h => absurd h (Nat.not_lt_zero _), p1, p2, p3, rfl⟩
  clear p1 p2 p3 hcl
  rintro i st hi ⟨h, Q, ex, hQl, hQ, p1, p2, p3, rfl⟩
  by_cases hc : i < D.notes.length
  · have hki : L[i]! < D.notes.length := hLb _ (get!_mem (by omega))
    have x1 := fun (n' : Nat) (lc : List (Nat × Vl)) (eb : Nat) (ez : Vl) => ixM (lc := lc) (n' := n') (eb := eb) (ez := ez) (kd := .i64) (i := (i : Int)) p3 hLl (by omega) (by omega) (by decide)
    have x2 := fun (n' : Nat) (lc : List (Nat × Vl)) => rdM (lc := lc) (n' := n') (off := 0) (ag := false) (sz := 1) p3 hLl hc
    have x3 := fun (n' : Nat) (lc : List (Nat × Vl)) (eb : Nat) (ez : Vl) => ixM (lc := lc) (n' := n') (eb := eb) (ez := ez) (kd := .i64) (i := (i : Int)) p2 hQl (by omega) (by omega) (by decide)
    have x4 := fun (n' : Nat) (lc : List (Nat × Vl)) => wrM (lc := lc) (n' := n') (off := 0) (v := encN D.notes[L[i]!]!) p2 hQl hc put_N
    simp +contextual (maxSteps := 1000000) (disch := first | omega | (with_reducible first | refine krN ?_ | refine krS ?_ | refine krP ?_ | refine krG ?_); kernel_rfl | refine kr ?_; simp only [go_sem, reduceCtorEq, Int.ofNat_lt, hc, x1, x2, x3, x4, ix_lst, ix_map, hki]; done | fail) only [go_sem, seval, -List.reduceReplicate, Int.ofNat_lt, hc, x1, x2, x3, x4, ix_lst, ix_map, hki]
    refine ⟨_, Q.set i D.notes[L[i]!]!, _, ?_, fun j hj => ?_, ?_, ?_, ?_, rfl⟩
    · rw [List.length_set]; exact hQl
    · rw [get!_set (by omega)]
      split
      · rename_i e; subst e; rfl
      · exact hQ j (by omega)
    · rw [upd_ne _ _ (by omega)]; exact p1
    · exact upd_same _ _ _
    · rw [upd_ne _ _ (by omega)]; exact p3
  have hie : i = D.notes.length := by omega
  subst hie
  have hQe : Q = L.map fun i => D.notes[i]! := by
    apply List.ext_getElem (by rw [List.length_map]; omega)
    intro j h1 h2
    have := hQ j (by omega)
    rw [get!_eq h1, get!_eq (show j < L.length by omega)] at this
    rw [List.getElem_map]; exact this
  obtain ⟨X, hX⟩ : ∃ X, X = reN D Q := ⟨_, rfl⟩
  have hmem : ∀ m, m ∈ Q ↔ m ∈ D.notes := fun m => by
    rw [hQe, List.mem_map]
    constructor
    · rintro ⟨k, hk, rfl⟩; exact get!_mem (hLb k hk)
    · intro hm
      obtain ⟨k, hk, rfl⟩ := List.getElem_of_mem hm
      exact ⟨k, hLa k hk, get!_eq hk⟩
  have hXd : DtOk X := by rw [hX]; exact reN_ok hd (by omega) fun m hm => (hmem m).1 hm
  have hXT : ∀ u, TrD X u ↔ TrD D u := fun u => by rw [hX]; exact reN_tr hmem
  have hXs : X.stones = D.stones := by rw [hX]; rfl
  have f1 : reify h (.own nx' D.eras.length) = some (.lst 2 (D.eras.map encS) false, [nx']) := reify_flat (.inl p1) rfl fun _ => rfl
  have f2 : reify h (.own (nx' + 1) D.notes.length) = some (.lst 6 (Q.map encN) false, [nx' + 1]) := reify_flat (.inl p2) hQl fun n => reify_closedV _ (clN n)
  simp +contextual (maxSteps := 1000000) (disch := first | omega | (with_reducible first | refine krN ?_ | refine krS ?_ | refine krP ?_ | refine krG ?_); kernel_rfl | refine kr ?_; simp only [go_sem, reduceCtorEq, Int.lt_irrefl, f1, f2]; done | fail) only [go_sem, seval, -List.reduceReplicate, Int.lt_irrefl, f1, f2]
  have e2 : Vl.agg [.int .i64 D.stones, .lst 2 (D.eras.map encS) false, .lst 6 (Q.map encN) false] = encD (some false) (some false) X := by rw [hX]; rfl
  rw [e2]
  clear f1 f2 e2 p1 p2 p3 hQe hQ hmem hX hQl hi hc
  generalize killHp _ h = h1
  obtain ⟨_, hfX, _⟩ := tabs_some hXd ((hXT _).2 hw)
  have hsp := spans_same hd hXd hw hXT (k := 1) (n := ys.length) (by omega)
  have hX6 : X.stones.toNat = ys.length := by rw [hXs]; exact hL6
  have hes : ∀ i k : Nat, i < ys.length → k < ys.length → earV X (i : Int) (k : Int) = earV D (i : Int) (k : Int) := fun i k hi hk => ear_same hd hXd hXs hw hXT (by omega) (by omega)
  have he0 : ∀ i k : Nat, i < ys.length → k < ys.length → (earV D (i : Int) (k : Int)).2 = 0 := fun i k hi hk => (ear_1 hd hw (by omega) (by omega)).1
  obtain ⟨E, hE⟩ : ∃ E : Nat → Nat → Int, E = fun (i k : Nat) => (earV D (i : Int) (k : Int)).1 := ⟨_, rfl⟩
  have hE1 : ∀ i k : Nat, (earV D (i : Int) (k : Int)).1 = E i k := fun i k => by rw [hE]
  have g1 : ∀ i, i < ys.length → E i i = 2 := fun i hi => by rw [hE]; exact ear_ii hd hw (by omega)
  have g2 : ∀ i k, i < ys.length → k < ys.length → E i k = 1 → E k i = 2 := fun i k hi hk => by rw [hE]; exact ear_anti hd hw (by omega) (by omega)
  have g3 : ∀ i k m, i < ys.length → k < ys.length → m < ys.length → E i k = 1 → E k m = 1 → E i m = 1 := fun i k m hi hk hm => by rw [hE]; exact ear_trans hd hw (by omega) (by omega) (by omega)
  clear hE
  have w34 := fun (m : Mem) (K : Vl → Mem → Prop) => wc34s (b := 2) (m := m) (K := K) (l := tabsL D) (k := 1) (n := ys.length) (by omega)
  simp +contextual (maxSteps := 1000000) (disch := first | omega | (with_reducible first | refine krN ?_ | refine krS ?_ | refine krP ?_ | refine krG ?_); kernel_rfl | refine kr ?_; simp only [go_sem, reduceCtorEq, wc27, hf0, hfX, len_spans, slot_spans, hL6, hX6, hsp, w34]; done | fail) only [go_sem, seval, -List.reduceReplicate, wc27, hf0, hfX, len_spans, slot_spans, hL6, hX6, hsp, w34]
  refine wp_loop_to ys.length (fun i st => ∃ (h : Nat → Ob) (nq : Nat) (ex : List (Nat × Vl)), nx2 + 1 < nq ∧ h (nx2 + 1) = .arr 1 ((List.range i).map (rowE E ys.length)) ∧
    st = ({ sl := (4, .loc (encD (some false) (some false) D)) :: (6, .loc (encD (some false) (some false) X)) :: (13, .own (nx2 + 1) i) :: (14, I i) :: ex, hp := h, nx := nq } : FS)) ?_ 0 (Nat.zero_le _) ⟨_, nx2 + 1 + 1, _, by omega, upd_same _ _ _, rfl⟩
  rintro i st hi ⟨h, nq, ex, hnq, p1, rfl⟩
  by_cases hc : i < ys.length
  · have hc' : (i : Int) < D.stones := by omega
    simp +contextual (maxSteps := 1000000) (disch := first | omega | (with_reducible first | refine krN ?_ | refine krS ?_ | refine krP ?_ | refine krG ?_); kernel_rfl | refine kr ?_; simp only [go_sem, reduceCtorEq, hc, hc']; done | fail) only [go_sem, seval, -List.reduceReplicate, hc, hc']
    refine wp_loop_to ys.length (fun k st => ∃ (h : Nat → Ob) (ex : List (Nat × Vl)), h (nx2 + 1) = .arr 1 ((List.range i).map (rowE E ys.length)) ∧ h nq = .arr 1 ((List.range k).map fun k => I (E i k)) ∧
      st = ({ sl := (4, .loc (encD (some false) (some false) D)) :: (6, .loc (encD (some false) (some false) X)) :: (13, .own (nx2 + 1) i) :: (14, I i) :: (15, .own nq k) :: (16, I k) :: ex, hp := h, nx := nq + 1 } : FS)) ?_ 0 (Nat.zero_le _) ⟨_, _, by rw [upd_ne _ _ (by omega)]; exact p1, upd_same _ _ _, rfl⟩
    clear p1 h
    rintro k st hk ⟨h, ex, p1, p2, rfl⟩
    by_cases hck : k < ys.length
    · have hck' : (k : Int) < D.stones := by omega
      have v1 := hes i k hc hck
      have v2 := he0 i k hc hck
      have hap := fun (x : Vl) (t : Bool) (n' : Nat) => ap26b (m := ⟨[], h, n'⟩) (x := x) (o := t) p2 (by rw [List.length_map, List.length_range]) (by omega)
      simp +contextual (maxSteps := 1000000) (disch := first | omega | (with_reducible first | refine krN ?_ | refine krS ?_ | refine krP ?_ | refine krG ?_); kernel_rfl | refine kr ?_; simp only [go_sem, reduceCtorEq, hck, hck', wc31, v1, v2, hE1, hap]; done | fail) only [go_sem, seval, -List.reduceReplicate, hck, hck', wc31, v1, v2, hE1, hap]
      refine ⟨_, _, ?_, ?_, rfl⟩
      · rw [upd_ne _ _ (by omega)]; exact p1
      · rw [upd_same, List.map_append]; rfl
    · have hke : k = ys.length := by omega
      subst hke
      have hck' : ¬ ((ys.length : Nat) : Int) < D.stones := by omega
      have f1 : reify h (.own nq ys.length) = some (rowE E ys.length i, [nq]) := reify_flat (.inl p2) (by rw [List.length_range]) fun _ => rfl
      have p3 : killHp [nq] h (nx2 + 1) = .arr 1 ((List.range i).map (rowE E ys.length)) := by rw [killHp_one, upd_ne _ _ (by omega)]; exact p1
      have e3 : ∃ h2, h2 = killHp [nq] h := ⟨_, rfl⟩
      obtain ⟨h2, e3⟩ := e3
      rw [← e3] at p3
      have hap := fun (x : Vl) (t : Bool) (n' : Nat) => ap62b (m := ⟨[], h2, n'⟩) (x := x) (o := t) p3 (by rw [List.length_map, List.length_range]) (by omega)
      simp +contextual (maxSteps := 1000000) (disch := first | omega | (with_reducible first | refine krN ?_ | refine krS ?_ | refine krP ?_ | refine krG ?_); kernel_rfl | refine kr ?_; simp only [go_sem, reduceCtorEq, hck', hc, f1, ← e3, hap]; done | fail) only [go_sem, seval, -List.reduceReplicate, hck', hc, f1, ← e3, hap]
      refine ⟨_, nq + 1, _, by omega, ?_, rfl⟩
      rw [upd_same, List.map_append]; rfl
  have hie : i = ys.length := by omega
  subst hie
  have hc' : ¬ ((ys.length : Nat) : Int) < D.stones := by omega
  have f1 : reify h (.own (nx2 + 1) ys.length) = some (.lst 1 ((List.range ys.length).map (rowE E ys.length)) false, [nx2 + 1]) := reify_flat (.inl p1) (by rw [List.length_range]) fun n => reify_closedV _ rowE_cl
  simp +contextual (maxSteps := 1000000) (disch := first | omega | (with_reducible first | refine krN ?_ | refine krS ?_ | refine krP ?_ | refine krG ?_); kernel_rfl | refine kr ?_; simp only [go_sem, reduceCtorEq, hc', f1]; done | fail) only [go_sem, seval, -List.reduceReplicate, hc', f1]
  generalize killHp _ h = h2
  clear p1 f1 hc hi hc'
  obtain ⟨N, hN⟩ : ∃ N, N = ys.length := ⟨_, rfl⟩
  rw [← hN] at g1 g2 g3 hL' ⊢
  refine wp_loop_to N (fun i st => ∃ (ex : List (Nat × Vl)), st = ({ sl := (4, .loc (encD (some false) (some false) D)) :: (13, .lst 1 ((List.range N).map (rowE E N)) false) :: (21, I i) :: ex, hp := h2, nx := nq } : FS)) ?_ 0 (Nat.zero_le _) ⟨_, rfl⟩
  rintro i st hi ⟨ex, rfl⟩
  by_cases hc : i < N
  case neg =>
    have hc' : ¬ (i : Int) < D.stones := by omega
    simp +contextual (maxSteps := 1000000) (disch := first | omega | (with_reducible first | refine krN ?_ | refine krS ?_ | refine krP ?_ | refine krG ?_); kernel_rfl | refine kr ?_; simp only [go_sem, reduceCtorEq, hc', wc15]; done | fail) only [go_sem, seval, -List.reduceReplicate, hc', wc15]
  have hc' : (i : Int) < D.stones := by omega
  simp +contextual (maxSteps := 1000000) (disch := first | omega | (with_reducible first | refine krN ?_ | refine krS ?_ | refine krP ?_ | refine krG ?_); kernel_rfl | refine kr ?_; simp only [go_sem, reduceCtorEq, hc, hc']; done | fail) only [go_sem, seval, -List.reduceReplicate, hc, hc']
  refine wp_loop_to N (fun k st => ∃ (ex : List (Nat × Vl)), st = ({ sl := (4, .loc (encD (some false) (some false) D)) :: (13, .lst 1 ((List.range N).map (rowE E N)) false) :: (21, I i) :: (22, I k) :: ex, hp := h2, nx := nq } : FS)) ?_ 0 (Nat.zero_le _) ⟨_, rfl⟩
  rintro k st hk ⟨ex, rfl⟩
  by_cases hck : k < N
  case neg =>
    have hck' : ¬ (k : Int) < D.stones := by omega
    simp +contextual (maxSteps := 1000000) (disch := first | omega | (with_reducible first | refine krN ?_ | refine krS ?_ | refine krP ?_ | refine krG ?_); kernel_rfl | refine kr ?_; simp only [go_sem, reduceCtorEq, hck']; done | fail) only [go_sem, seval, -List.reduceReplicate, hck']
    exact ⟨_, rfl⟩
  have hck' : (k : Int) < D.stones := by omega
  have y1 := g1 i hc
  by_cases h1 : E i k = 1
  · have y2 := g2 i k hc hck h1
    simp +contextual (maxSteps := 1000000) (disch := first | omega | (with_reducible first | refine krN ?_ | refine krS ?_ | refine krP ?_ | refine krG ?_); kernel_rfl | refine kr ?_; simp only [go_sem, reduceCtorEq, hck', ix_rng, ix_row, hc, hck, y1, h1, y2]; done | fail) only [go_sem, seval, -List.reduceReplicate, hck', ix_rng, ix_row, hc, hck, y1, h1, y2]
    refine wp_loop_to N (fun m st => ∃ (ex : List (Nat × Vl)), st = ({ sl := (4, .loc (encD (some false) (some false) D)) :: (13, .lst 1 ((List.range N).map (rowE E N)) false) :: (21, I i) :: (22, I k) :: (23, I m) :: ex, hp := h2, nx := nq } : FS)) ?_ 0 (Nat.zero_le _) ⟨_, rfl⟩
    rintro m st hm ⟨ex, rfl⟩
    by_cases hcm : m < N
    case neg =>
      have hcm' : ¬ (m : Int) < D.stones := by omega
      simp +contextual (maxSteps := 1000000) (disch := first | omega | (with_reducible first | refine krN ?_ | refine krS ?_ | refine krP ?_ | refine krG ?_); kernel_rfl | refine kr ?_; simp only [go_sem, reduceCtorEq, hcm']; done | fail) only [go_sem, seval, -List.reduceReplicate, hcm']
      exact ⟨_, rfl⟩
    have hcm' : (m : Int) < D.stones := by omega
    by_cases h3 : E k m = 1
    · have y3 := g3 i k m hc hck hcm h1 h3
      simp +contextual (maxSteps := 1000000) (disch := first | omega | (with_reducible first | refine krN ?_ | refine krS ?_ | refine krP ?_ | refine krG ?_); kernel_rfl | refine kr ?_; simp only [go_sem, reduceCtorEq, hcm', ix_rng, ix_row, hc, hck, hcm, h1, h3, y3]; done | fail) only [go_sem, seval, -List.reduceReplicate, hcm', ix_rng, ix_row, hc, hck, hcm, h1, h3, y3]
      exact ⟨_, rfl⟩
    · simp +contextual (maxSteps := 1000000) (disch := first | omega | (with_reducible first | refine krN ?_ | refine krS ?_ | refine krP ?_ | refine krG ?_); kernel_rfl | refine kr ?_; simp only [go_sem, reduceCtorEq, hcm', ix_rng, ix_row, hc, hck, hcm, h1, h3]; done | fail) only [go_sem, seval, -List.reduceReplicate, hcm', ix_rng, ix_row, hc, hck, hcm, h1, h3]
      exact ⟨_, rfl⟩
  · simp +contextual (maxSteps := 1000000) (disch := first | omega | (with_reducible first | refine krN ?_ | refine krS ?_ | refine krP ?_ | refine krG ?_); kernel_rfl | refine kr ?_; simp only [go_sem, reduceCtorEq, hck', ix_rng, ix_row, hc, hck, y1, h1]; done | fail) only [go_sem, seval, -List.reduceReplicate, hck', ix_rng, ix_row, hc, hck, y1, h1]
    refine wp_loop_to N (fun m st => ∃ (ex : List (Nat × Vl)), st = ({ sl := (4, .loc (encD (some false) (some false) D)) :: (13, .lst 1 ((List.range N).map (rowE E N)) false) :: (21, I i) :: (22, I k) :: (23, I m) :: ex, hp := h2, nx := nq } : FS)) ?_ 0 (Nat.zero_le _) ⟨_, rfl⟩
    rintro m st hm ⟨ex, rfl⟩
    by_cases hcm : m < N
    case neg =>
      have hcm' : ¬ (m : Int) < D.stones := by omega
      simp +contextual (maxSteps := 1000000) (disch := first | omega | (with_reducible first | refine krN ?_ | refine krS ?_ | refine krP ?_ | refine krG ?_); kernel_rfl | refine kr ?_; simp only [go_sem, reduceCtorEq, hcm']; done | fail) only [go_sem, seval, -List.reduceReplicate, hcm']
      exact ⟨_, rfl⟩
    have hcm' : (m : Int) < D.stones := by omega
    simp +contextual (maxSteps := 1000000) (disch := first | omega | (with_reducible first | refine krN ?_ | refine krS ?_ | refine krP ?_ | refine krG ?_); kernel_rfl | refine kr ?_; simp only [go_sem, reduceCtorEq, hcm', ix_rng, ix_row, hc, hck, hcm, h1]; done | fail) only [go_sem, seval, -List.reduceReplicate, hcm', ix_rng, ix_row, hc, hck, hcm, h1]
    exact ⟨_, rfl⟩
end Go.Proofs
