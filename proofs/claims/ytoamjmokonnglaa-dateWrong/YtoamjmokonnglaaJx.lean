/- What functions of the given program do in the ideal machine (J34), and the plain laws of what they answer; the conditions stand in each theorem. -/
import Derived.Test.YtoamjmokonnglaaJo
import Derived.Test.YtoamjmokonnglaaJw
set_option linter.all false
set_option linter.unusedSectionVars false
set_option linter.unusedSimpArgs false
set_option linter.unusedVariables false
namespace Go.Proofs
open Go Go.Idl Go.Dt
set_option linter.unusedSimpArgs false
variable {b : Nat}
theorem sub_enc0 {n : Nt} : sub false 1 0 (encN n) = some (I n.kind) := by rcases SL_cases 1 (n.ys.map I) n.fl with ⟨_, e⟩ | ⟨x, e⟩ <;> simp only [encN, e] <;> rfl
theorem sub_enc3 {n : Nt} : sub false 1 3 (encN n) = some (SL 1 (n.ys.map I) n.fl) := by rcases SL_cases 1 (n.ys.map I) n.fl with ⟨_, e⟩ | ⟨x, e⟩ <;> simp only [encN, e] <;> rfl
theorem sub_enc4 {n : Nt} : sub false 1 4 (encN n) = some (I n.lo) := by rcases SL_cases 1 (n.ys.map I) n.fl with ⟨_, e⟩ | ⟨x, e⟩ <;> simp only [encN, e] <;> rfl
theorem sub_enc5 {n : Nt} : sub false 1 5 (encN n) = some (I n.hi) := by rcases SL_cases 1 (n.ys.map I) n.fl with ⟨_, e⟩ | ⟨x, e⟩ <;> simp only [encN, e] <;> rfl
theorem put_enc3 {n : Nt} {y : Int} (h : n.kind = 1) : put 3 (.lst 1 [I (n.ys[0]! + y)] true) (encN n) = some (encN (movN n y)) := by
  unfold movN; rw [if_pos h]
  rcases SL_cases 1 (n.ys.map I) n.fl with ⟨_, e⟩ | ⟨x, e⟩ <;> simp only [encN, e] <;> rfl
theorem put_enc4 {n : Nt} {y : Int} (h : n.kind ≠ 1) : put 4 (Sp (n.lo + y) (n.hi + y)) (encN n) = some (encN (movN n y)) := by
  unfold movN; rw [if_neg h]
  rcases SL_cases 1 (n.ys.map I) n.fl with ⟨_, e⟩ | ⟨x, e⟩ <;> simp only [encN, e] <;> rfl
set_option maxRecDepth 10000 in
set_option maxHeartbeats 4000000 in
theorem wrongs_to {xs : List Int} (hn : xs.length ≤ 9223372036854775807) {o : Option Bool} : Ans Try.prog (AA 2) 6 [SL 1 (xs.map I) o] (fun v => v = .bool true) := by
  refine Ans_of Try.func6 rfl rfl ?_
  simp +contextual (maxSteps := 1000000) (disch := first | omega | (with_reducible first | refine krN ?_ | refine krS ?_ | refine krP ?_ | refine krG ?_); kernel_rfl | refine kr ?_; simp only [go_sem, reduceCtorEq]; done | fail) only [go_sem, seval, -List.reduceReplicate]
  refine wc_heap (by rfl) rfl (newUrn_to (b := 2) hn) ?_
  rintro v hp' nx' ⟨rfl, rfl, s, rfl⟩
  simp +contextual (maxSteps := 1000000) (disch := first | omega | (with_reducible first | refine krN ?_ | refine krS ?_ | refine krP ?_ | refine krG ?_); kernel_rfl | refine kr ?_; simp only [go_sem, reduceCtorEq]; done | fail) only [go_sem, seval, -List.reduceReplicate]
  refine wc_heap (by rfl) rfl (datingOf_to (b := 2) (s := s) (S := 3) (N := 5) (far := 8) (by decide) (by decide) (by decide)) ?_
  rintro v hp' nx' ⟨s, base, st, es, ns, ys, fs, g, hM, rfl, rfl, hn5⟩
  simp +contextual (maxSteps := 1000000) (disch := first | omega | (with_reducible first | refine krN ?_ | refine krS ?_ | refine krP ?_ | refine krG ?_); kernel_rfl | refine kr ?_; simp only [go_sem, reduceCtorEq]; done | fail) only [go_sem, seval, -List.reduceReplicate]
  have hnl := hM.ns_l
  have hst := hM.st_b
  refine wp_loop_to ns.length (fun i st' => ∃ (s : Int × Int) (Q : List Nt) (ex : List (Nat × Vl)), Q.length = ns.length ∧ (∀ j, j < ns.length → NtOk ⟨st, es, []⟩ Q[j]! ∧ (i ≤ j → Q[j]! = ns[j]!)) ∧
    st' = ({ sl := (3, .bp 0 0) :: (4, .loc (vD st es.length ns.length)) :: (6, I i) :: ex, hp := HPd ⟨s, es, Q, ys, fs⟩ g, nx := nx' } : FS)) ?_ 0 (Nat.zero_le _) ⟨s, ns, _, rfl, fun j hj => ⟨(hM.ns_ok _ (get!_mem hj)).ok, fun _ => rfl⟩, rfl⟩
  clear s
  rintro i st' hi ⟨s, Q, ex, hQl, hQ, rfl⟩
  by_cases hc : i < ns.length
  · obtain ⟨hQi, hQe⟩ := hQ i hc
    have hQe := hQe (Nat.le_refl _)
    have hnm := hM.ns_ok _ (get!_mem hc)
    rw [← hQe] at hnm
    have hkb := hnm.ok.kind
    have hbn := hnm.bnd
    have x1 := fun (s : Int × Int) (n' : Nat) (lc : List (Nat × Vl)) (eb : Nat) (ez : Vl) => ixM (f := encN) (xs := Q) (e := 6) (id := 2) (lc := lc) (n' := n') (eb := eb) (ez := ez) (kd := .i64) (i := (i : Int)) (hp := HPd ⟨s, es, Q, ys, fs⟩ g) rfl hQl (by omega) (by omega) (by decide)
    have x2 := fun (s : Int × Int) (n' : Nat) (lc : List (Nat × Vl)) (ag : Bool) (sz off : Nat) => rdM (f := encN) (xs := Q) (e := 6) (id := 2) (lc := lc) (n' := n') (off := off) (ag := ag) (sz := sz) (hp := HPd ⟨s, es, Q, ys, fs⟩ g) rfl hQl hc
    have x3 := fun (s : Int × Int) (n' : Nat) (lc : List (Nat × Vl)) (off : Nat) (v : Vl) (y : Nt) (h : put off v (encN Q[i]!) = some (encN y)) => wrM (f := encN) (xs := Q) (e := 6) (id := 2) (lc := lc) (n' := n') (off := off) (v := v) (hp := HPd ⟨s, es, Q, ys, fs⟩ g) rfl hQl hc h
    have hset : ∀ y, -20 ≤ y ∧ y ≤ 20 → (Q[i]!.kind = 3 → 0 ≤ y) → (Q.set i (movN Q[i]! y)).length = ns.length ∧ ∀ j, j < ns.length → NtOk ⟨st, es, []⟩ (Q.set i (movN Q[i]! y))[j]! ∧ (i + 1 ≤ j → (Q.set i (movN Q[i]! y))[j]! = ns[j]!) := fun y hy h3 => by
      refine ⟨by rw [List.length_set]; exact hQl, fun j hj => ?_⟩
      rw [get!_set (by omega)]
      split
      · rename_i e; subst e
        exact ⟨movN_ok hnm hy h3, fun h => by omega⟩
      · exact ⟨(hQ j hj).1, fun h => (hQ j hj).2 (by omega)⟩
    have hset0 : ∀ j, j < ns.length → NtOk ⟨st, es, []⟩ Q[j]! ∧ (i + 1 ≤ j → Q[j]! = ns[j]!) := fun j hj => ⟨(hQ j hj).1, fun h => (hQ j hj).2 (by omega)⟩
    generalize hs2 : upS s 2 = s2
    have a1 := fromR_b s2 (lo := -20) (hi := 20) (by omega) (by omega) (by omega) (by omega)
    generalize hs3 : fromS s2 (-20) 20 = s3
    have a2 := fromR_b s3 (lo := 0) (hi := 20) (by omega) (by omega) (by omega) (by omega)
    generalize hs4 : fromS s3 0 20 = s4
    generalize hA : fromR s2 (-20) 20 = a at a1
    generalize hB : fromR s3 0 20 = c at a2
    cases hod : oddsR s 1 2 with
    | false =>
      simp +contextual (maxSteps := 1000000) (disch := first | omega | (with_reducible first | refine krN ?_ | refine krS ?_ | refine krP ?_ | refine krG ?_); kernel_rfl | refine kr ?_; simp only [go_sem, reduceCtorEq, Int.ofNat_lt, hc, x1, hod, hs2]; done | fail) only [go_sem, seval, -List.reduceReplicate, Int.ofNat_lt, hc, x1, hod, hs2]
      exact ⟨_, Q, _, hQl, hset0, rfl⟩
    | true =>
      by_cases hk1 : Q[i]!.kind = 1
      · have hyl := (hnm.ok.years hk1).2.2.2.1
        have hy0 := hbn.2.2 _ (get!_mem (xs := Q[i]!.ys) (i := 0) (by omega))
        have hw1 : IntKind.wrap .i64 (Q[i]!.ys[0]! + a) = Q[i]!.ys[0]! + a := wrap_i64 (by omega) (by omega)
        have x3' := fun s n' lc => x3 s n' lc 3 _ _ (put_enc3 (y := a) hk1)
        have hix0 := fun (m : Mem) (eb : Nat) (ez : Vl) => ix_map (f := I) (xs := Q[i]!.ys) (o := Q[i]!.fl) (k := .i64) (i := 0) (m := m) (e := 1) (eb := eb) (ez := ez) (by omega) (by omega) (by decide)
        obtain ⟨g1, g2⟩ := hset a (by omega) (fun h => by omega)
        simp +contextual (maxSteps := 1000000) (disch := first | omega | (with_reducible first | refine krN ?_ | refine krS ?_ | refine krP ?_ | refine krG ?_); kernel_rfl | refine kr ?_; simp only [go_sem, reduceCtorEq, Int.ofNat_lt, hc, x1, x2, sub_enc0, sub_enc3, hod, hs2, hs3, hA, hk1, hix0, hw1, x3']; done | fail) only [go_sem, seval, -List.reduceReplicate, Int.ofNat_lt, hc, x1, x2, sub_enc0, sub_enc3, hod, hs2, hs3, hA, hk1, hix0, hw1, x3']
        exact ⟨_, _, _, g1, g2, rfl⟩
      · have hl := (hnm.ok.span hk1).2
        unfold SpanOk at hl
        by_cases hk3 : Q[i]!.kind = 3
        · have hw1 : IntKind.wrap .i64 (Q[i]!.lo + c) = Q[i]!.lo + c := wrap_i64 (by omega) (by omega)
          have hw2 : IntKind.wrap .i64 (Q[i]!.hi + c) = Q[i]!.hi + c := wrap_i64 (by omega) (by omega)
          have x3' := fun s n' lc => x3 s n' lc 4 _ _ (put_enc4 (y := c) hk1)
          obtain ⟨g1, g2⟩ := hset c (by omega) (fun h => by omega)
          simp +contextual (maxSteps := 1000000) (disch := first | omega | (with_reducible first | refine krN ?_ | refine krS ?_ | refine krP ?_ | refine krG ?_); kernel_rfl | refine kr ?_; simp only [go_sem, reduceCtorEq, Int.ofNat_lt, hc, x1, x2, sub_enc0, sub_enc4, sub_enc5, hod, hs2, hs3, hs4, hA, hB, hk3, hw1, hw2, wc28, x3']; done | fail) only [go_sem, seval, -List.reduceReplicate, Int.ofNat_lt, hc, x1, x2, sub_enc0, sub_enc4, sub_enc5, hod, hs2, hs3, hs4, hA, hB, hk3, hw1, hw2, wc28, x3']
          exact ⟨_, _, _, g1, g2, rfl⟩
        · have hw1 : IntKind.wrap .i64 (Q[i]!.lo + a) = Q[i]!.lo + a := wrap_i64 (by omega) (by omega)
          have hw2 : IntKind.wrap .i64 (Q[i]!.hi + a) = Q[i]!.hi + a := wrap_i64 (by omega) (by omega)
          have x3' := fun s n' lc => x3 s n' lc 4 _ _ (put_enc4 (y := a) hk1)
          obtain ⟨g1, g2⟩ := hset a (by omega) (fun h => absurd h hk3)
          simp +contextual (maxSteps := 1000000) (disch := first | omega | (with_reducible first | refine krN ?_ | refine krS ?_ | refine krP ?_ | refine krG ?_); kernel_rfl | refine kr ?_; simp only [go_sem, reduceCtorEq, Int.ofNat_lt, hc, x1, x2, sub_enc0, sub_enc4, sub_enc5, hod, hs2, hs3, hA, hk1, hk3, hw1, hw2, wc28, x3']; done | fail) only [go_sem, seval, -List.reduceReplicate, Int.ofNat_lt, hc, x1, x2, sub_enc0, sub_enc4, sub_enc5, hod, hs2, hs3, hA, hk1, hk3, hw1, hw2, wc28, x3']
          exact ⟨_, _, _, g1, g2, rfl⟩
  have hie : i = ns.length := by omega
  subst hie
  have r1 := rfd1 (s := s) (es := es) (ns := Q) (ys := ys) (fs := fs) (g := g)
  have r2 := rfd2 (s := s) (es := es) (ns := Q) (ys := ys) (fs := fs) (g := g)
  rw [hQl] at r2
  simp +contextual (maxSteps := 1000000) (disch := first | omega | (with_reducible first | refine krN ?_ | refine krS ?_ | refine krP ?_ | refine krG ?_); kernel_rfl | refine kr ?_; simp only [go_sem, reduceCtorEq, Int.lt_irrefl, r1, r2]; done | fail) only [go_sem, seval, -List.reduceReplicate, Int.lt_irrefl, r1, r2]
  clear r1 r2
  generalize killHp [1, 2] (HPd ⟨s, es, Q, ys, fs⟩ g) = hk
  obtain ⟨D, hD⟩ : ∃ D : Dt, D = ⟨st, es, Q⟩ := ⟨_, rfl⟩
  have e1 : Vl.agg [.int .i64 st, .lst 2 (es.map encS) false, .lst 6 (Q.map encN) false] = encD (some false) (some false) D := by rw [hD]; rfl
  have hd : DtOk D := by
    have h2 := hM.es_l
    rw [hD]
    refine ⟨by dsimp only; omega, by dsimp only; omega, hM.es_ok, by dsimp only; omega, fun n hn => ?_⟩
    obtain ⟨j, hj, rfl⟩ := List.getElem_of_mem hn
    have g := (hQ j (by rw [← hQl]; exact hj)).1
    rw [get!_eq hj] at g
    exact ⟨g.kind, g.stone, g.years, g.span, g.plain, g.era, g.after⟩
  have hn : D.notes.length = ns.length := by rw [hD]; exact hQl
  rw [e1, ← hn]
  have hn5' : D.notes.length ≤ 5 := by omega
  clear e1 hD hQ hQl hM hn hi hc hnl
  have hc0 := checkE_ok.2 hd
  have w21 := fun (m : Mem) (K : Vl → Mem → Prop) => wc21 (c := 1) (d := D) (fun _ => by omega) (o1 := some false) (o2 := some false) (m := m) (K := K)
  obtain ⟨S, hS⟩ : ∃ S, wrongF D = some S := by
    cases e : wrongF D with
    | some S => exact ⟨S, rfl⟩
    | none =>
      exfalso
      refine first_not hd hn5' fun k hk x hx => ?_
      have h1 : (srtL D.notes.length).find? (mayS D) = none := e
      rw [List.find?_eq_none] at h1
      have h2 : x ∈ srtL D.notes.length := (List.mem_filter.1 hx).1
      have := h1 x h2
      cases h : mayS D x with
      | false => rfl
      | true => exact absurd h this
  have hwV : wrongV D = (setV S, 0) := by unfold wrongV; rw [if_neg (fun h => h hc0), hS]
  have hsv : ∀ t, slotV t (setV S) = .v (setV S) := fun t => SL_slot
  simp +contextual (maxSteps := 1000000) (disch := first | omega | (with_reducible first | refine krN ?_ | refine krS ?_ | refine krP ?_ | refine krG ?_); kernel_rfl | refine kr ?_; simp only [go_sem, reduceCtorEq, w21, hwV, hsv]; done | fail) only [go_sem, seval, -List.reduceReplicate, w21, hwV, hsv]
  obtain ⟨n, hnn⟩ : ∃ n, n = D.notes.length := ⟨_, rfl⟩
  rw [← hnn] at hn5'
  refine wp_loop_to (n + 1) (fun i st => ∃ (ex : List (Nat × Vl)), (∀ k, k < i → ∀ x ∈ mL n k, mayS D x = false) ∧ st = ({ sl := (4, .loc (encD (some false) (some false) D)) :: (9, setV S) :: (10, I 0) :: (11, I i) :: ex, hp := hk, nx := nx' } : FS)) ?_ 0 (Nat.zero_le _) ⟨_, fun k h => absurd h (Nat.not_lt_zero _), rfl⟩
  rintro m st' hm ⟨ex, hno, rfl⟩
  by_cases hc : m < n + 1
  case neg =>
    have : m = n + 1 := by omega
    subst this
    exact (first_not hd (by omega) (by rw [← hnn]; exact hno)).elim
  have hmn : (m : Int) ≤ n := by omega
  have w35 := fun (mm : Mem) (K : Vl → Mem → Prop) => wc35 (b := 2) (n := n) (m := m) hn5' (by omega) (mm := mm) (K := K)
  have hLV : listsV n m = .lst 1 ((mL n m).map (setM m)) (m == 0) := rfl
  have hLl := mL_len (n := n) (m := m) hn5'
  simp +contextual (maxSteps := 1000000) (disch := first | omega | (with_reducible first | refine krN ?_ | refine krS ?_ | refine krP ?_ | refine krG ?_); kernel_rfl | refine kr ?_; simp only [go_sem, reduceCtorEq, ← hnn, hmn, w35, hLV, hsv]; done | fail) only [go_sem, seval, -List.reduceReplicate, ← hnn, hmn, w35, hLV, hsv]
  refine wp_loop_to (mL n m).length (fun j st => ∃ (ex : List (Nat × Vl)), (∀ k, k < j → mayS D (mL n m)[k]! = false) ∧ st = ({ sl := (4, .loc (encD (some false) (some false) D)) :: (9, setV S) :: (10, I 0) :: (11, I m) :: (12, .lst 1 ((mL n m).map (setM m)) (m == 0)) :: (13, I j) :: ex, hp := hk, nx := nx' } : FS)) ?_ 0 (Nat.zero_le _) ⟨_, fun k h => absurd h (Nat.not_lt_zero _), rfl⟩
  rintro j st' hj ⟨ex, hnj, rfl⟩
  by_cases hcj : j < (mL n m).length
  · have hix : ∀ (mm : Mem) (eb : Nat) (ez : Vl), indexAddrV (.slice 1 eb ez) (.v (.lst 1 ((mL n m).map (setM m)) (m == 0))) (.int .i64 (j : Int)) mm = some (.v (.fp (setM m (mL n m)[j]!) 0), mm) := fun mm eb ez => by
      have := ix_map (f := setM m) (xs := mL n m) (o := some (m == 0)) (k := .i64) (i := (j : Int)) (m := mm) (e := 1) (eb := eb) (ez := ez) (by omega) (by omega) (by decide)
      rwa [Int.toNat_natCast] at this
    have w36 := fun (mm : Mem) (K : Vl → Mem → Prop) => wc36 (b := 2) (d := D) (by omega) (s := (mL n m)[j]!) (o1 := some false) (o2 := some false) (o := if m = 1 then some true else none) (m := mm) (K := K)
    have hfe := mayS_err hd (s := (mL n m)[j]!)
    have hso : ∀ t s, slotV t (setM m s) = .v (setM m s) := fun t s => SL_slot
    have hsb : ∀ s, sub false 1 0 (setM m s) = some (setM m s) := fun s => by
      rcases SL_cases 1 ((bitsN s).map I) (if m = 1 then some true else none) with ⟨_, e⟩ | ⟨x, e⟩ <;> rw [setM, e] <;> rfl
    cases hp : mayS D (mL n m)[j]! with
    | false =>
      rw [hp, if_neg (by decide)] at hfe
      simp +contextual (maxSteps := 1000000) (disch := first | omega | (with_reducible first | refine krN ?_ | refine krS ?_ | refine krP ?_ | refine krG ?_); kernel_rfl | refine kr ?_; simp only [go_sem, reduceCtorEq, Int.ofNat_lt, hcj, hix, w36, wc27, hfe, hso, hsb, hsv]; done | fail) only [go_sem, seval, -List.reduceReplicate, Int.ofNat_lt, hcj, hix, w36, wc27, hfe, hso, hsb, hsv]
      refine ⟨_, fun k hk => ?_, rfl⟩
      by_cases h : k < j
      · exact hnj k h
      · obtain rfl : k = j := by omega
        exact hp
    | true =>
      rw [hp, if_pos rfl] at hfe
      have hw := first_at (d := D) (by omega) (m := m) (j := j) (by omega) (by rw [← hnn]; exact hcj) (by rw [← hnn]; exact hno) (by rw [← hnn]; exact hnj) (by rw [← hnn]; exact hp)
      rw [← hnn, hS] at hw
      have hw := Option.some.inj hw
      have w23 : ∀ (mm : Mem) (K : Vl → Mem → Prop), WC Try.prog (AA 2) (.fn (.func 23) [] []) [.v (setV S), .v (setM m S)] mm K = K (.bool true) mm := fun mm K => wc23 (b := 2) (A := bitsN S) (by have := bits_len (s := S); omega) (o1 := none) (o2 := if m = 1 then some true else none) (m := mm) (K := K)
      rw [← hw] at hix w36 hfe
      simp +contextual (maxSteps := 1000000) (disch := first | omega | (with_reducible first | refine krN ?_ | refine krS ?_ | refine krP ?_ | refine krG ?_); kernel_rfl | refine kr ?_; simp only [go_sem, reduceCtorEq, Int.ofNat_lt, hcj, hix, w36, wc27, hfe, hso, hsb, hsv, w23, wc15]; done | fail) only [go_sem, seval, -List.reduceReplicate, Int.ofNat_lt, hcj, hix, w36, wc27, hfe, hso, hsb, hsv, w23, wc15]
  · have hje : j = (mL n m).length := by omega
    subst hje
    simp +contextual (maxSteps := 1000000) (disch := first | omega | (with_reducible first | refine krN ?_ | refine krS ?_ | refine krP ?_ | refine krG ?_); kernel_rfl | refine kr ?_; simp only [go_sem, reduceCtorEq, Int.lt_irrefl, hsv, hc]; done | fail) only [go_sem, seval, -List.reduceReplicate, Int.lt_irrefl, hsv, hc]
    refine ⟨_, fun k hk x hx => ?_, rfl⟩
    by_cases h : k < m
    · exact hno k h x hx
    · obtain rfl : k = m := by omega
      obtain ⟨i, hi, rfl⟩ := List.getElem_of_mem hx
      have := hnj i hi
      rwa [get!_eq hi] at this
end Go.Proofs
