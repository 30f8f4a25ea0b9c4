/- What functions of the given program do in the ideal machine (J51, J52, J53), and the plain laws of what they answer; the conditions stand in each theorem. -/
import Derived.Test.YtoamjmokonnglaaJw
import Derived.Test.YtoamjmokonnglaaJt
import Derived.Test.YtoamjmokonnglaaJu
import Derived.Test.YtoamjmokonnglaaJx
set_option linter.all false
set_option linter.unusedSectionVars false
set_option linter.unusedSimpArgs false
set_option linter.unusedVariables false
namespace Go.Proofs
open Go Go.Idl Go.Dt
set_option linter.unusedSimpArgs false
variable {b : Nat}
def WR (d : Dt) (v : Vl) : Prop := (checkE d ≠ 0 ∧ v = .tup [.nils, I (checkE d)]) ∨ (checkE d = 0 ∧ ∃ (S : Nat) (o : Option Bool), wrongF d = some S ∧ v = .tup [SL 1 ((bitsN S).map I) o, I 0])
theorem WR.cl {d : Dt} {v : Vl} (h : WR d v) : v.closed = true := by
  rcases h with ⟨_, rfl⟩ | ⟨_, S, o, _, rfl⟩
  · rfl
  · show ((SL 1 ((bitsN S).map I) o).closed && true) = true
    rw [closed_SL (closedL_map (fun _ => rfl) _)]; rfl
theorem mL_full {n : Nat} (hn : n ≤ 5) : mL n n = [2 ^ n - 1] := by
  have h6 : n = 0 ∨ n = 1 ∨ n = 2 ∨ n = 3 ∨ n = 4 ∨ n = 5 := by omega
  rcases h6 with rfl | rfl | rfl | rfl | rfl | rfl <;> decide
set_option maxRecDepth 10000 in
set_option maxHeartbeats 4000000 in
theorem wrongR_to {d : Dt} (hn5 : checkE d = 0 → d.notes.length ≤ 5) {o1 o2 : Option Bool} : Ans Try.prog (AA b) 22 [encD o1 o2 d] (WR d) := by
  refine Ans_of Try.func22 rfl rfl ?_
  by_cases h1 : checkE d = 0
  case neg =>
    simp +contextual (maxSteps := 1000000) (disch := first | omega | (with_reducible first | refine krN ?_ | refine krS ?_ | refine krP ?_ | refine krG ?_); kernel_rfl | refine kr ?_; simp only [go_sem, reduceCtorEq, wc14, h1]; done | fail) only [go_sem, seval, -List.reduceReplicate, wc14, h1]
    exact .inl ⟨h1, rfl⟩
  have hd := checkE_ok.1 h1
  have hn5' := hn5 h1
  simp +contextual (maxSteps := 1000000) (disch := first | omega | (with_reducible first | refine krN ?_ | refine krS ?_ | refine krP ?_ | refine krG ?_); kernel_rfl | refine kr ?_; simp only [go_sem, reduceCtorEq, wc14, h1]; done | fail) only [go_sem, seval, -List.reduceReplicate, wc14, h1]
  obtain ⟨n, hnn⟩ : ∃ n, n = d.notes.length := ⟨_, rfl⟩
  refine wp_loop_to n (fun i st => ∃ (ex : List (Nat × Vl)), (∀ k, k < i → ∀ x ∈ mL n k, mayS d x = false) ∧ st = ({ sl := (1, .loc (encD o1 o2 d)) :: (5, I i) :: ex, hp := noHeap, nx := 0 } : FS)) ?_ 0 (Nat.zero_le _) ⟨_, fun k h => absurd h (Nat.not_lt_zero _), rfl⟩
  rintro m st' hm ⟨ex, hno, rfl⟩
  by_cases hc : m < n
  case neg =>
    have hmn : m = n := by omega
    subst hmn
    have w35 := fun (mm : Mem) (K : Vl → Mem → Prop) => wc35 (b := b) (n := m) (m := m) (by omega) (by omega) (mm := mm) (K := K)
    have hLV : listsV m m = .lst 1 ((mL m m).map (setM m)) (m == 0) := rfl
    have hml := mL_full (n := m) (by omega)
    have hix : ∀ (mm : Mem) (eb : Nat) (ez : Vl), indexAddrV (.slice 1 eb ez) (.v (.lst 1 ((mL m m).map (setM m)) (m == 0))) (.int .i64 0) mm = some (.v (.fp (setM m (mL m m)[0]!) 0), mm) := fun mm eb ez => by
      have := ix_map (f := setM m) (xs := mL m m) (o := some (m == 0)) (k := .i64) (i := 0) (m := mm) (e := 1) (eb := eb) (ez := ez) (by omega) (by rw [hml]; show (0 : Int) < ((1 : Nat) : Int); decide) (by decide)
      exact this
    have hsb : ∀ s, sub false 1 0 (setM m s) = some (setM m s) := fun s => by
      rcases SL_cases 1 ((bitsN s).map I) (if m = 1 then some true else none) with ⟨_, e⟩ | ⟨x, e⟩ <;> rw [setM, e] <;> rfl
    have hso : ∀ t s, slotV t (setM m s) = .v (setM m s) := fun t s => SL_slot
    have hw := first_at (d := d) (by omega) (m := m) (j := 0) (by omega) (by rw [← hnn, hml]; exact Nat.one_pos) (by rw [← hnn]; exact hno) (fun i hi => absurd hi (Nat.not_lt_zero _)) (by
      rw [← hnn, hml]; show mayS d (2 ^ m - 1) = true; rw [hnn]; exact mayS_all hd hn5')
    rw [← hnn] at hw
    have hcl := setM_cl m (mL m m)[0]!
    simp +contextual (maxSteps := 1000000) (disch := first | omega | (with_reducible first | refine krN ?_ | refine krS ?_ | refine krP ?_ | refine krG ?_); kernel_rfl | refine kr ?_; simp only [go_sem, reduceCtorEq, ← hnn, Int.lt_irrefl, w35, hLV, hix, hsb, hso]; done | fail) only [go_sem, seval, -List.reduceReplicate, ← hnn, Int.lt_irrefl, w35, hLV, hix, hsb, hso]
    exact OB_intro (reify_closedV _ hcl) (.inr ⟨h1, _, _, hw, rfl⟩)
  have hmn : (m : Int) < n := by omega
  have w35 := fun (mm : Mem) (K : Vl → Mem → Prop) => wc35 (b := b) (n := n) (m := m) (by omega) (by omega) (mm := mm) (K := K)
  have hLV : listsV n m = .lst 1 ((mL n m).map (setM m)) (m == 0) := rfl
  have hLl := mL_len (n := n) (m := m) (by omega)
  simp +contextual (maxSteps := 1000000) (disch := first | omega | (with_reducible first | refine krN ?_ | refine krS ?_ | refine krP ?_ | refine krG ?_); kernel_rfl | refine kr ?_; simp only [go_sem, reduceCtorEq, ← hnn, hmn, w35, hLV]; done | fail) only [go_sem, seval, -List.reduceReplicate, ← hnn, hmn, w35, hLV]
  refine wp_loop_to (mL n m).length (fun j st => ∃ (ex : List (Nat × Vl)), (∀ k, k < j → mayS d (mL n m)[k]! = false) ∧ st = ({ sl := (1, .loc (encD o1 o2 d)) :: (5, I m) :: (6, .lst 1 ((mL n m).map (setM m)) (m == 0)) :: (7, I j) :: ex, hp := noHeap, nx := 0 } : FS)) ?_ 0 (Nat.zero_le _) ⟨_, fun k h => absurd h (Nat.not_lt_zero _), rfl⟩
  rintro j st' hj ⟨ex, hnj, rfl⟩
  by_cases hcj : j < (mL n m).length
  · have hix : ∀ (mm : Mem) (eb : Nat) (ez : Vl), indexAddrV (.slice 1 eb ez) (.v (.lst 1 ((mL n m).map (setM m)) (m == 0))) (.int .i64 (j : Int)) mm = some (.v (.fp (setM m (mL n m)[j]!) 0), mm) := fun mm eb ez => by
      have := ix_map (f := setM m) (xs := mL n m) (o := some (m == 0)) (k := .i64) (i := (j : Int)) (m := mm) (e := 1) (eb := eb) (ez := ez) (by omega) (by omega) (by decide)
      rwa [Int.toNat_natCast] at this
    have w36 := fun (mm : Mem) (K : Vl → Mem → Prop) => wc36 (b := b) (d := d) (by omega) (s := (mL n m)[j]!) (o1 := o1) (o2 := o2) (o := if m = 1 then some true else none) (m := mm) (K := K)
    have hso : ∀ t s, slotV t (setM m s) = .v (setM m s) := fun t s => SL_slot
    have hsb : ∀ s, sub false 1 0 (setM m s) = some (setM m s) := fun s => by
      rcases SL_cases 1 ((bitsN s).map I) (if m = 1 then some true else none) with ⟨_, e⟩ | ⟨x, e⟩ <;> rw [setM, e] <;> rfl
    have hcl := setM_cl m (mL n m)[j]!
    have hXd := dropD_ok (s := (mL n m)[j]!) hd
    have hmay : mayS d (mL n m)[j]! = !(tabsL (dropD (mL n m)[j]! d)).isEmpty := rfl
    simp +contextual (maxSteps := 1000000) (disch := first | omega | (with_reducible first | refine krN ?_ | refine krS ?_ | refine krP ?_ | refine krG ?_); kernel_rfl | refine kr ?_; simp only [go_sem, reduceCtorEq, Int.ofNat_lt, hcj, hix, w36, hso, hsb]; done | fail) only [go_sem, seval, -List.reduceReplicate, Int.ofNat_lt, hcj, hix, w36, hso, hsb]
    obtain ⟨X, hX⟩ : ∃ X, X = dropD (mL n m)[j]! d := ⟨_, rfl⟩
    rw [← hX] at hXd hmay ⊢
    refine wc_ans (by simp only [mkAnn, K66]) (rfAs (xs := [encD o1 (some false) X]) (by simp only [closedL, clD, Bool.and_self])) (begin_to hXd) ?_
    rintro v ⟨K, rfl, g⟩
    refine ⟨kV_cl, ?_⟩
    simp +contextual (maxSteps := 1000000) (disch := first | omega | (with_reducible first | refine krN ?_ | refine krS ?_ | refine krP ?_ | refine krG ?_); kernel_rfl | refine kr ?_; simp only [go_sem, reduceCtorEq]; done | fail) only [go_sem, seval, -List.reduceReplicate]
    have hA := all_to (b := b) hXd (o1 := o1) (o2 := some false) X.notes.length 0 (by omega) K g.ub (fun _ => g.good)
    rw [List.drop_zero] at hA
    refine wc_ans (by simp only [mkAnn, K65]) (rfAs (xs := [encD o1 (some false) X, I ((0 : Nat) : Int), kV (ptsR X) K]) (by simp only [closedL, clD, kV_cl]; rfl)) hA ?_
    have hE := (waysR_ents hXd g).len
    unfold waysR at hE
    generalize waysK (ptsR X) (X.notes.map (wkR X)) K = ks at hE ⊢
    rintro v ⟨o, rfl⟩
    refine ⟨kVs_cl, ?_⟩
    have hl1 : ∀ mm, builtinV Try.prog .len [92] [SL 1 (ks.map (kV (ptsR X))) o] mm = some (.int .i64 ks.length, mm) := fun mm => by
      rw [len_SL (by rw [td92]; rfl), List.length_map]
    have hl92 : ks.length ≤ 6561 := by rw [hE]; exact tabs_len hXd
    cases hp : mayS d (mL n m)[j]! with
    | false =>
      have h0 : ks.length = 0 := by
        rw [hp] at hmay
        rw [hE]
        cases e : tabsL X with
        | nil => rfl
        | cons a t => rw [e] at hmay; cases hmay
      simp +contextual (maxSteps := 1000000) (disch := first | omega | (with_reducible first | refine krN ?_ | refine krS ?_ | refine krP ?_ | refine krG ?_); kernel_rfl | refine kr ?_; simp only [go_sem, reduceCtorEq, SL_slot, hl1, h0]; done | fail) only [go_sem, seval, -List.reduceReplicate, SL_slot, hl1, h0]
      refine ⟨_, fun k hk => ?_, rfl⟩
      by_cases h : k < j
      · exact hnj k h
      · obtain rfl : k = j := by omega
        exact hp
    | true =>
      have h0 : 0 < ks.length := by
        rw [hp] at hmay
        rw [hE]
        cases e : tabsL X with
        | nil => rw [e] at hmay; cases hmay
        | cons a t => simp
      have h0' : (0 : Int) < ks.length := by omega
      have hw := first_at (d := d) (by omega) (m := m) (j := j) (by omega) (by rw [← hnn]; exact hcj) (by rw [← hnn]; exact hno) (by rw [← hnn]; exact hnj) (by rw [← hnn]; exact hp)
      rw [← hnn] at hw
      simp +contextual (maxSteps := 1000000) (disch := first | omega | (with_reducible first | refine krN ?_ | refine krS ?_ | refine krP ?_ | refine krG ?_); kernel_rfl | refine kr ?_; simp only [go_sem, reduceCtorEq, SL_slot, hl1, h0', hix, hso, hsb, Int.ofNat_lt, hcj]; done | fail) only [go_sem, seval, -List.reduceReplicate, SL_slot, hl1, h0', hix, hso, hsb, Int.ofNat_lt, hcj]
      exact OB_intro (reify_closedV _ hcl) (.inr ⟨h1, _, _, hw, rfl⟩)
  · have hje : j = (mL n m).length := by omega
    subst hje
    simp +contextual (maxSteps := 1000000) (disch := first | omega | (with_reducible first | refine krN ?_ | refine krS ?_ | refine krP ?_ | refine krG ?_); kernel_rfl | refine kr ?_; simp only [go_sem, reduceCtorEq, Int.lt_irrefl, hc]; done | fail) only [go_sem, seval, -List.reduceReplicate, Int.lt_irrefl, hc]
    refine ⟨_, fun k hk x hx => ?_, rfl⟩
    by_cases h : k < m
    · exact hno k h x hx
    · obtain rfl : k = m := by omega
      obtain ⟨i, hi, rfl⟩ := List.getElem_of_mem hx
      have := hnj i hi
      rwa [get!_eq hi] at this
theorem dropNs_map {s : Nat} : ∀ (l : List Nt) (k : Nat), dropNs s k (l.map recl) = (dropNs s k l).map recl
  | [], _ => rfl
  | n :: l, k => by
    rw [List.map_cons, dropNs, dropNs]
    split
    · exact dropNs_map l (k + 1)
    · rw [List.map_cons, dropNs_map l (k + 1)]
theorem drop_copy {s : Nat} {d : Dt} : dropD s (copyD d) = copyD (dropD s d) := by
  show (⟨d.stones, d.eras, dropNs s 0 (d.notes.map recl)⟩ : Dt) = ⟨d.stones, d.eras, (dropNs s 0 d.notes).map recl⟩
  rw [dropNs_map]
theorem wrong_copy {d : Dt} : wrongF (copyD d) = wrongF d ∧ wrongV (copyD d) = wrongV d := by
  have h : wrongF (copyD d) = wrongF d := by
    unfold wrongF
    have hl : (copyD d).notes.length = d.notes.length := by unfold copyD; rw [List.length_map]
    rw [hl]
    congr 1
    funext s
    rw [drop_copy, tabs_copy]
  refine ⟨h, ?_⟩
  unfold wrongV
  rw [check_copy, h]
end Go.Proofs
namespace Go.Proofs
open Go Go.Idl Go.Dt
set_option linter.unusedSimpArgs false
variable {b : Nat}
theorem apO22 {m : Mem} {p : Nat} {l : List (Int × Int)} (hp : m.hp p = .arr 2 (l.map encS)) (hl : l.length ≤ 100000) : isAppend Try.prog 22 22 (.lst 2 [] true) (.own p l.length) m = some (.own m.nx l.length, { m with hp := upd m.hp m.nx (.arr 2 (l.map encS)), nx := m.nx + 1 }) := by
  have hg : okGrow 16 2 (.agg [.int .i64 0, .int .i64 0]) l.length = true := grow_ok rfl rfl (by decide) (by decide) (by omega)
  unfold isAppend appendV
  rw [td22]
  simp [Mem.elems, hp, hg]
theorem spansO {p : Nat} {l : List (Int × Int)} {hp : Nat → Ob} {nx : Nat} (h : hp p = .arr 2 (l.map encS)) (hl : l.length ≤ 100000) : HAns Try.prog (AA b) 58 [.own p l.length] hp nx fun v h n => v = .own nx l.length ∧ h = upd hp nx (.arr 2 (l.map encS)) ∧ n = nx + 1 := by
  refine HAns_of Try.func58 rfl ?_
  have hap := fun (lc : List (Nat × Vl)) => apO22 (m := ⟨lc, hp, nx⟩) h hl
  simp +contextual (maxSteps := 1000000) (disch := first | omega | (with_reducible first | refine krN ?_ | refine krS ?_ | refine krP ?_ | refine krG ?_); kernel_rfl | refine kr ?_; simp only [go_sem, reduceCtorEq, hap]; done | fail) only [go_sem, seval, -List.reduceReplicate, hap]
theorem wc58o {m : Mem} {K : Vl → Mem → Prop} {p : Nat} {l : List (Int × Int)} (h : m.hp p = .arr 2 (l.map encS)) (hl : l.length ≤ 100000) : WC Try.prog (AA b) (.fn (.func 58) [] []) [.v (.own p l.length)] m K = K (.own m.nx l.length) { m with hp := upd m.hp m.nx (.arr 2 (l.map encS)), nx := m.nx + 1 } :=
  WC_heap (by simp only [mkAnn, K58]) rfl (spansO h hl)
set_option maxRecDepth 10000 in
set_option maxHeartbeats 4000000 in
theorem copyO_to {d : Dt} (he : d.eras.length ≤ 1000) (hn : d.notes.length ≤ 1000) (hy : ∀ n ∈ d.notes, n.ys.length ≤ 1000) {hp : Nat → Ob} {nx p q : Nat} (hpn : p < nx) (hqn : q < nx) (hpe : hp p = .arr 2 (d.eras.map encS)) (hqe : hp q = .arr 6 (d.notes.map encN)) :
    HAns Try.prog (AA b) 18 [.agg [I d.stones, .own p d.eras.length, .own q d.notes.length]] hp nx fun v hp' nx' => v = .agg [I d.stones, .own nx d.eras.length, .own (nx + 1) d.notes.length] ∧ hp' nx = .arr 2 (d.eras.map encS) ∧ hp' (nx + 1) = .arr 6 ((copyD d).notes.map encN) ∧ (∀ i, i < nx → hp' i = hp i) ∧ nx + 2 ≤ nx' := by
  refine HAns_of Try.func18 rfl ?_
  have he' : d.eras.length ≤ 100000 := by omega
  have w58 := fun (lc : List (Nat × Vl)) (K : Vl → Mem → Prop) => wc58o (b := b) (m := ⟨lc, hp, nx⟩) (K := K) hpe he'
  simp +contextual (maxSteps := 1000000) (disch := first | omega | (with_reducible first | refine krN ?_ | refine krS ?_ | refine krP ?_ | refine krG ?_); kernel_rfl | refine kr ?_; simp only [go_sem, reduceCtorEq, w58]; done | fail) only [go_sem, seval, -List.reduceReplicate, w58]
  refine wp_loop_to d.notes.length (fun i st => ∃ (h : Nat → Ob) (nq : Nat) (ex : List (Nat × Vl)), h nx = .arr 2 (d.eras.map encS) ∧ h (nx + 1) = .arr 6 (((d.notes.take i).map recl).map encN) ∧ (∀ i, i < nx → h i = hp i) ∧ nx + 2 ≤ nq ∧
    st = ({ sl := (1, .loc (.agg [I d.stones, .own nx d.eras.length, .own (nx + 1) i])) :: (2, .loc (.agg [I 0, .nils, .nils])) :: (3, .own q d.notes.length) :: (4, I i) :: ex, hp := h, nx := nq } : FS)) ?_ 0 (Nat.zero_le _) ⟨_, _, _, by rw [upd_ne _ _ (by omega), upd_same], upd_same _ _ _, fun i hi => by rw [upd_ne _ _ (by omega), upd_ne _ _ (by omega)], by omega, rfl⟩
  rintro i st hi ⟨h, nq, ex, h1, h2, h3, h4, rfl⟩
  by_cases hc : i < d.notes.length
  · have htk := take_snoc hc
    have hyl := hy _ (get!_mem hc)
    have hyl' : (d.notes[i]!).ys.length ≤ 100000 := by omega
    have hlt : (d.notes.take i).length = i := by rw [List.length_take]; omega
    have hqh : h q = .arr 6 (d.notes.map encN) := by rw [h3 q hqn]; exact hqe
    have x1 := fun (lc : List (Nat × Vl)) (eb : Nat) (ez : Vl) => ixM (f := encN) (xs := d.notes) (e := 6) (id := q) (lc := lc) (n' := nq) (eb := eb) (ez := ez) (kd := .i64) (i := (i : Int)) (hp := h) hqh rfl (by omega) (by omega) (by decide)
    have x2 := fun (lc : List (Nat × Vl)) => (rdM (f := encN) (xs := d.notes) (e := 6) (id := q) (lc := lc) (n' := nq) (off := 0) (ag := true) (sz := 6) (hp := h) hqh rfl hc).trans (by rcases SL_cases 1 ((d.notes[i]!).ys.map I) (d.notes[i]!).fl with ⟨_, e⟩ | ⟨x, e⟩ <;> simp only [encN, e] <;> rfl : sub true 6 0 (encN d.notes[i]!) = some (encN d.notes[i]!))
    have hrf : reify (upd h nq (.arr 1 ((d.notes[i]!).ys.map I))) (.own nq (d.notes[i]!).ys.length) = some (.lst 1 ((d.notes[i]!).ys.map I) false, [nq]) := reify_flat (.inl (upd_same _ _ _)) rfl fun _ => rfl
    have hkl : killHp [nq] (upd h nq (.arr 1 ((d.notes[i]!).ys.map I))) = upd h nq (.fro 1 ((d.notes[i]!).ys.map I)) := by
      rw [killHp_one, upd_same, upd_upd]; rfl
    have hap : ∀ (x : Vl) (t : Bool), isAppend Try.prog 23 23 (.own (nx + 1) i) (.lst 6 [x] t) { lc := [], hp := upd h nq (.fro 1 ((d.notes[i]!).ys.map I)), nx := nq + 1 } = some (.own (nx + 1) (i + 1), { lc := [], hp := upd (upd h nq (.fro 1 ((d.notes[i]!).ys.map I))) (nx + 1) (.arr 6 (((d.notes.take i).map recl).map encN ++ [x])), nx := nq + 1 }) := fun x t =>
      app1_own (by rw [td23]) (by show upd h nq _ (nx + 1) = _; rw [upd_ne _ _ (by omega)]; exact h2) (by rw [List.length_map, List.length_map]; exact hlt) (grow_ok rfl rfl (by decide) (by decide) (by omega))
    simp +contextual (maxSteps := 1000000) (disch := first | omega | (with_reducible first | refine krN ?_ | refine krS ?_ | refine krP ?_ | refine krG ?_); kernel_rfl | refine kr ?_; simp only [go_sem, reduceCtorEq, Int.ofNat_lt, hc, x1, x2, wc59, hyl', hrf, hkl, hap]; done | fail) only [go_sem, seval, -List.reduceReplicate, Int.ofNat_lt, hc, x1, x2, wc59, hyl', hrf, hkl, hap]
    refine ⟨_, _, _, ?_, ?_, ?_, ?_, rfl⟩
    · rw [upd_ne _ _ (by omega), upd_ne _ _ (by omega)]; exact h1
    · rw [upd_same, htk, List.map_append, List.map_append, List.map_append]; rfl
    · intro k hk
      rw [upd_ne _ _ (by omega), upd_ne _ _ (by omega)]; exact h3 k hk
    · omega
  · have hie : i = d.notes.length := by omega
    subst hie
    rw [List.take_length] at h2
    simp +contextual (maxSteps := 1000000) (disch := first | omega | (with_reducible first | refine krN ?_ | refine krS ?_ | refine krP ?_ | refine krG ?_); kernel_rfl | refine kr ?_; simp only [go_sem, reduceCtorEq, Int.lt_irrefl]; done | fail) only [go_sem, seval, -List.reduceReplicate, Int.lt_irrefl]
    exact ⟨h1, h2, h3, h4⟩
theorem HPd_re {d : DD} {g h : Nat → Ob} (e : ∀ i, i < 5 → h i = HPd d g i) : h = HPd d h := by
  funext i
  by_cases k : i < 5
  · rw [e i k]
    unfold HPd
    by_cases h0 : i = 0
    · rw [if_pos h0, if_pos h0]
    rw [if_neg h0, if_neg h0]
    by_cases h1 : i = 1
    · rw [if_pos h1, if_pos h1]
    rw [if_neg h1, if_neg h1]
    by_cases h2 : i = 2
    · rw [if_pos h2, if_pos h2]
    rw [if_neg h2, if_neg h2]
    by_cases h3 : i = 3
    · rw [if_pos h3, if_pos h3]
    rw [if_neg h3, if_neg h3, if_pos (by omega), if_pos (by omega)]
  · rw [HPd_at (by omega)]
end Go.Proofs
namespace Go.Proofs
open Go Go.Idl Go.Dt
set_option linter.unusedSimpArgs false
variable {b : Nat}
set_option maxRecDepth 10000 in
set_option maxHeartbeats 4000000 in
theorem wrong3_to {d : Dt} {n : Nt} {xs : List Int} (hn : xs.length ≤ 9223372036854775807) {o1 o2 o : Option Bool} : Ans Try.prog (AA 2) 3 [encD o1 o2 d, encN n, SL 1 (xs.map I) o] (fun v => v = .bool true) := by
  refine Ans_of Try.func3 rfl rfl ?_
  simp +contextual (maxSteps := 1000000) (disch := first | omega | (with_reducible first | refine krN ?_ | refine krS ?_ | refine krP ?_ | refine krG ?_); kernel_rfl | refine kr ?_; simp only [go_sem, reduceCtorEq]; done | fail) only [go_sem, seval, -List.reduceReplicate]
  refine wc_ans (by simp only [mkAnn, K13]) (rfAs (xs := [encD o1 o2 d]) (by simp only [closedL, clD, Bool.and_self])) large_to ?_
  rintro v ⟨r, rfl, hr⟩
  refine ⟨rfl, ?_⟩
  cases r with
  | true => simp +contextual (maxSteps := 1000000) (disch := first | omega | (with_reducible first | refine krN ?_ | refine krS ?_ | refine krP ?_ | refine krG ?_); kernel_rfl | refine kr ?_; simp only [go_sem, reduceCtorEq, wc15]; done | fail) only [go_sem, seval, -List.reduceReplicate, wc15]
  | false =>
  have hds := hr rfl
  clear hr
  by_cases hy : 20 < n.ys.length
  · have hy' : 20 < (n.ys.length : Int) := by omega
    simp +contextual (maxSteps := 1000000) (disch := first | omega | (with_reducible first | refine krN ?_ | refine krS ?_ | refine krP ?_ | refine krG ?_); kernel_rfl | refine kr ?_; simp only [go_sem, reduceCtorEq, hy', wc15]; done | fail) only [go_sem, seval, -List.reduceReplicate, hy', wc15]
  have hy' : ¬ 20 < (n.ys.length : Int) := by omega
  have key : (5 < (d.notes.length : Int) ∧ checkE d = 0) ∨ (checkE d = 0 → d.notes.length ≤ 5) := by
    by_cases h : 5 < (d.notes.length : Int)
    · by_cases h2 : checkE d = 0
      · exact .inl ⟨h, h2⟩
      · exact .inr fun e => absurd e h2
    · exact .inr fun _ => by omega
  rcases key with ⟨k1, k2⟩ | key
  · simp +contextual (maxSteps := 1000000) (disch := first | omega | (with_reducible first | refine krN ?_ | refine krS ?_ | refine krP ?_ | refine krG ?_); kernel_rfl | refine kr ?_; simp only [go_sem, reduceCtorEq, hy', k1, wc14, k2, wc15]; done | fail) only [go_sem, seval, -List.reduceReplicate, hy', k1, wc14, k2, wc15]
  have hgd : (5 < (d.notes.length : Int) ∧ checkE d ≠ 0) ∨ ¬ 5 < (d.notes.length : Int) := by
    by_cases h : 5 < (d.notes.length : Int)
    · exact .inl ⟨h, fun e => by have := key e; omega⟩
    · exact .inr h
  rcases hgd with ⟨k1, k2⟩ | k1
  all_goals
    first | simp +contextual (maxSteps := 1000000) (disch := first | omega | (with_reducible first | refine krN ?_ | refine krS ?_ | refine krP ?_ | refine krG ?_); kernel_rfl | refine kr ?_; simp only [go_sem, reduceCtorEq, hy', k1, wc14, k2]; done | fail) only [go_sem, seval, -List.reduceReplicate, hy', k1, wc14, k2] | simp +contextual (maxSteps := 1000000) (disch := first | omega | (with_reducible first | refine krN ?_ | refine krS ?_ | refine krP ?_ | refine krG ?_); kernel_rfl | refine kr ?_; simp only [go_sem, reduceCtorEq, hy', k1]; done | fail) only [go_sem, seval, -List.reduceReplicate, hy', k1]
    clear k1
    refine wc_heap (by rfl) rfl (newUrn_to (b := 2) hn) ?_
    rintro v hp' nx' ⟨rfl, rfl, s, rfl⟩
    simp +contextual (maxSteps := 1000000) (disch := first | omega | (with_reducible first | refine krN ?_ | refine krS ?_ | refine krP ?_ | refine krG ?_); kernel_rfl | refine kr ?_; simp only [go_sem, reduceCtorEq]; done | fail) only [go_sem, seval, -List.reduceReplicate]
    refine wc_heap (by rfl) rfl (datingOf_to (b := 2) (s := s) (S := 3) (N := 4) (far := 8) (by decide) (by decide) (by decide)) ?_
    rintro v hp' nx' ⟨s, base, st, es, ns, ys, fs, g, hM, rfl, rfl, hn5⟩
    simp +contextual (maxSteps := 1000000) (disch := first | omega | (with_reducible first | refine krN ?_ | refine krS ?_ | refine krP ?_ | refine krG ?_); kernel_rfl | refine kr ?_; simp only [go_sem, reduceCtorEq]; done | fail) only [go_sem, seval, -List.reduceReplicate]
    have hnl := hM.ns_l
    have hst := hM.st_b
    have hdm := hM.dtok (by decide) (by decide)
    obtain ⟨hs1, hs2, hs3⟩ := small_ok hdm
    dsimp only at hs1 hs2 hs3
    refine wc_heap (by rfl) rfl (copyO_to (b := 2) (d := ⟨st, es, ns⟩) (p := 1) (q := 2) (by dsimp only; omega) (by dsimp only; omega) (fun n hn => by have := hs3 n hn; omega) (by show 1 < nx'; omega) (by show 2 < nx'; omega) rfl rfl) ?_
    rintro v hp2 nx2 ⟨rfl, q1, q2, q3, q4⟩
    dsimp only at q1 q2 q3 q4 ⊢
    have hcl : (copyD ⟨st, es, ns⟩).notes.length = ns.length := by unfold copyD; rw [List.length_map]
    have hap : ∀ t, isAppend Try.prog 23 23 (.own (nx' + 1) ns.length) (.lst 6 [encN n] t) { lc := [], hp := hp2, nx := nx2 } = some (.own (nx' + 1) (ns.length + 1), { lc := [], hp := upd hp2 (nx' + 1) (.arr 6 ((moreD ⟨st, es, ns⟩ n).notes.map encN)), nx := nx2 }) := fun t => by
      rw [ap23b q2 (by rw [List.length_map]; exact hcl) (by omega)]
      unfold moreD
      rw [List.map_append]; rfl
    simp +contextual (maxSteps := 1000000) (disch := first | omega | (with_reducible first | refine krN ?_ | refine krS ?_ | refine krP ?_ | refine krG ?_); kernel_rfl | refine kr ?_; simp only [go_sem, reduceCtorEq, hap]; done | fail) only [go_sem, seval, -List.reduceReplicate, hap]
    have p0 : ∀ i, i < 5 → upd hp2 (nx' + 1) (.arr 6 ((moreD ⟨st, es, ns⟩ n).notes.map encN)) i = HPd ⟨s, es, ns, ys, fs⟩ g i := fun i hi => by
      rw [upd_ne _ _ (by omega)]; exact q3 i (by omega)
    have p1 : upd hp2 (nx' + 1) (.arr 6 ((moreD ⟨st, es, ns⟩ n).notes.map encN)) nx' = .arr 2 (es.map encS) := by rw [upd_ne _ _ (by omega)]; exact q1
    have p2 : upd hp2 (nx' + 1) (.arr 6 ((moreD ⟨st, es, ns⟩ n).notes.map encN)) (nx' + 1) = .arr 6 ((moreD ⟨st, es, ns⟩ n).notes.map encN) := upd_same _ _ _
    have hXs : smallD (moreD ⟨st, es, ns⟩ n) := small_more hdm (by omega)
    have hXn : (moreD ⟨st, es, ns⟩ n).notes.length = ns.length + 1 := by unfold moreD; rw [List.length_append, hcl]; rfl
    have hXe : (moreD ⟨st, es, ns⟩ n).stones = st ∧ (moreD ⟨st, es, ns⟩ n).eras = es := by and_intros <;> rfl
    generalize upd hp2 (nx' + 1) (.arr 6 ((moreD ⟨st, es, ns⟩ n).notes.map encN)) = H at p0 p1 p2 ⊢
    have hH := HPd_re p0
    clear hap q1 q2 q3 q4
    generalize moreD ⟨st, es, ns⟩ n = X at p2 hXs hXn hXe
    rw [hH]
    refine wp_loop_to ns.length (fun i st' => ∃ (s : Int × Int) (Q : List Nt) (ex : List (Nat × Vl)), Q.length = ns.length ∧ (∀ j, j < ns.length → Q[j]!.ys.length ≤ 20 ∧ (i ≤ j → Q[j]! = ns[j]!)) ∧
      st' = ({ sl := (3, .loc (encD o1 o2 d)) :: (7, .bp 0 0) :: (8, .loc (vD st es.length ns.length)) :: (10, .loc (.agg [I st, .own nx' es.length, .own (nx' + 1) (ns.length + 1)])) :: (11, I i) :: ex, hp := HPd ⟨s, es, Q, ys, fs⟩ H, nx := nx2 } : FS)) ?_ 0 (Nat.zero_le _) ⟨s, ns, _, rfl, fun j hj => ⟨hs3 _ (get!_mem hj), fun _ => rfl⟩, rfl⟩
    clear hH p0
    clear s
    rintro i st' hi ⟨s, Q, ex, hQl, hQ, rfl⟩
    by_cases hc : i < ns.length
    · obtain ⟨hQi, hQe⟩ := hQ i hc
      have hQe := hQe (Nat.le_refl _)
      have hnm := hM.ns_ok _ (get!_mem hc)
      rw [← hQe] at hnm
      have hkb := hnm.ok.kind
      have hbn := hnm.bnd
      have x1 := fun (s : Int × Int) (n' : Nat) (lc : List (Nat × Vl)) (eb : Nat) (ez : Vl) => ixM (f := encN) (xs := Q) (e := 6) (id := 2) (lc := lc) (n' := n') (eb := eb) (ez := ez) (kd := .i64) (i := (i : Int)) (hp := HPd ⟨s, es, Q, ys, fs⟩ H) rfl hQl (by omega) (by omega) (by decide)
      have x2 := fun (s : Int × Int) (n' : Nat) (lc : List (Nat × Vl)) (ag : Bool) (sz off : Nat) => rdM (f := encN) (xs := Q) (e := 6) (id := 2) (lc := lc) (n' := n') (off := off) (ag := ag) (sz := sz) (hp := HPd ⟨s, es, Q, ys, fs⟩ H) rfl hQl hc
      have x3 := fun (s : Int × Int) (n' : Nat) (lc : List (Nat × Vl)) (off : Nat) (v : Vl) (y : Nt) (h : put off v (encN Q[i]!) = some (encN y)) => wrM (f := encN) (xs := Q) (e := 6) (id := 2) (lc := lc) (n' := n') (off := off) (v := v) (hp := HPd ⟨s, es, Q, ys, fs⟩ H) rfl hQl hc h
      have hset0 : ∀ j, j < ns.length → Q[j]!.ys.length ≤ 20 ∧ (i + 1 ≤ j → Q[j]! = ns[j]!) := fun j hj => ⟨(hQ j hj).1, fun h => (hQ j hj).2 (by omega)⟩
      by_cases hk1 : Q[i]!.kind = 1
      · simp +contextual (maxSteps := 1000000) (disch := first | omega | (with_reducible first | refine krN ?_ | refine krS ?_ | refine krP ?_ | refine krG ?_); kernel_rfl | refine kr ?_; simp only [go_sem, reduceCtorEq, Int.ofNat_lt, hc, x1, x2, sub_enc0, hk1]; done | fail) only [go_sem, seval, -List.reduceReplicate, Int.ofNat_lt, hc, x1, x2, sub_enc0, hk1]
        exact ⟨s, Q, _, hQl, hset0, rfl⟩
      generalize hs2 : upS s 2 = s2
      have a1 := fromR_b s2 (lo := 1) (hi := 30) (by omega) (by omega) (by omega) (by omega)
      generalize hs3 : fromS s2 1 30 = s3
      generalize hA : fromR s2 1 30 = a at a1
      cases hod : oddsR s 1 2 with
      | false =>
        simp +contextual (maxSteps := 1000000) (disch := first | omega | (with_reducible first | refine krN ?_ | refine krS ?_ | refine krP ?_ | refine krG ?_); kernel_rfl | refine kr ?_; simp only [go_sem, reduceCtorEq, Int.ofNat_lt, hc, x1, x2, sub_enc0, hk1, hod, hs2]; done | fail) only [go_sem, seval, -List.reduceReplicate, Int.ofNat_lt, hc, x1, x2, sub_enc0, hk1, hod, hs2]
        exact ⟨_, Q, _, hQl, hset0, rfl⟩
      | true =>
        have hl := (hnm.ok.span hk1).2
        unfold SpanOk at hl
        have hw1 : IntKind.wrap .i64 (Q[i]!.lo + a) = Q[i]!.lo + a := wrap_i64 (by omega) (by omega)
        have hw2 : IntKind.wrap .i64 (Q[i]!.hi + a) = Q[i]!.hi + a := wrap_i64 (by omega) (by omega)
        have x3' := fun s n' lc => x3 s n' lc 4 _ _ (put_enc4 (y := a) hk1)
        have hset : (Q.set i (movN Q[i]! a)).length = ns.length ∧ ∀ j, j < ns.length → (Q.set i (movN Q[i]! a))[j]!.ys.length ≤ 20 ∧ (i + 1 ≤ j → (Q.set i (movN Q[i]! a))[j]! = ns[j]!) := by
          refine ⟨by rw [List.length_set]; exact hQl, fun j hj => ?_⟩
          rw [get!_set (by omega)]
          split
          · rename_i e; subst e
            refine ⟨?_, fun h => by omega⟩
            unfold movN; rw [if_neg hk1]; exact hQi
          · exact ⟨(hQ j hj).1, fun h => (hQ j hj).2 (by omega)⟩
        simp +contextual (maxSteps := 1000000) (disch := first | omega | (with_reducible first | refine krN ?_ | refine krS ?_ | refine krP ?_ | refine krG ?_); kernel_rfl | refine kr ?_; simp only [go_sem, reduceCtorEq, Int.ofNat_lt, hc, x1, x2, sub_enc0, sub_enc4, sub_enc5, hk1, hod, hs2, hs3, hA, hw1, hw2, x3']; done | fail) only [go_sem, seval, -List.reduceReplicate, Int.ofNat_lt, hc, x1, x2, sub_enc0, sub_enc4, sub_enc5, hk1, hod, hs2, hs3, hA, hw1, hw2, x3']
        exact ⟨_, _, _, hset.1, hset.2, rfl⟩
    have hie : i = ns.length := by omega
    subst hie
    have r1 := rfd1 (s := s) (es := es) (ns := Q) (ys := ys) (fs := fs) (g := H)
    have r2 := rfd2 (s := s) (es := es) (ns := Q) (ys := ys) (fs := fs) (g := H)
    rw [hQl] at r2
    have hk1 : ∀ j, 5 ≤ j → killHp [1, 2] (HPd ⟨s, es, Q, ys, fs⟩ H) j = H j := fun j hj => by
      rw [killHp_ne _ _ _ (by simp; omega), HPd_at hj]
    have r3 : reify (killHp [1, 2] (HPd ⟨s, es, Q, ys, fs⟩ H)) (.own nx' es.length) = some (.lst 2 (es.map encS) false, [nx']) := reify_flat (.inl (by rw [hk1 _ (by omega)]; exact p1)) rfl fun _ => rfl
    have r4 : reify (killHp [1, 2] (HPd ⟨s, es, Q, ys, fs⟩ H)) (.own (nx' + 1) (ns.length + 1)) = some (.lst 6 (X.notes.map encN) false, [nx' + 1]) := reify_flat (.inl (by rw [hk1 _ (by omega)]; exact p2)) (by rw [hXn]) fun n => reify_closedV _ (clN n)
    simp +contextual (maxSteps := 1000000) (disch := first | omega | (with_reducible first | refine krN ?_ | refine krS ?_ | refine krP ?_ | refine krG ?_); kernel_rfl | refine kr ?_; simp only [go_sem, reduceCtorEq, Int.lt_irrefl, r1, r2, r3, r4]; done | fail) only [go_sem, seval, -List.reduceReplicate, Int.lt_irrefl, r1, r2, r3, r4]
    clear r1 r2 r3 r4 hk1
    generalize killHp [nx', nx' + 1] _ = hq
    obtain ⟨D, hD⟩ : ∃ D : Dt, D = ⟨st, es, Q⟩ := ⟨_, rfl⟩
    have hF : ∀ x ∈ [(⟨o1, o2, d⟩ : FD), ⟨some false, some false, ⟨st, es, Q⟩⟩, ⟨some false, some false, X⟩], smallD x.d ∧ (checkE x.d = 0 → x.d.notes.length ≤ 5) := by
      intro x hx
      simp only [List.mem_cons, List.not_mem_nil, or_false] at hx
      rcases hx with rfl | rfl | rfl
      · exact ⟨hds, key⟩
      · refine ⟨⟨hs1, by dsimp only; omega, fun n hn => ?_⟩, fun _ => by dsimp only; omega⟩
        obtain ⟨j, hj, rfl⟩ := List.getElem_of_mem hn
        have := (hQ j (by rw [← hQl]; exact hj)).1
        rwa [get!_eq hj] at this
      · exact ⟨hXs, fun _ => by dsimp only; omega⟩
    have hXv : encD (some false) (some false) X = .agg [I st, .lst 2 (es.map encS) false, .lst 6 (X.notes.map encN) false] := by rw [← hXe.1, ← hXe.2]; rfl
    obtain ⟨Fs, hFs⟩ : ∃ Fs, Fs = [(⟨o1, o2, d⟩ : FD), ⟨some false, some false, ⟨st, es, Q⟩⟩, ⟨some false, some false, X⟩] := ⟨_, rfl⟩
    have hl3 : Fs.length = 3 := by rw [hFs]; rfl
    rw [← hFs] at hF
    refine wp_loop_to Fs.length (fun i st => ∃ (h : Nat → Ob) (nq : Nat) (ex : List (Nat × Vl)), st = ({ sl := (14, .lst 3 (Fs.map encF) true) :: (15, I i) :: ex, hp := h, nx := nq } : FS)) ?_ 0 (Nat.zero_le _) ⟨_, _, [], by rw [hFs]; simp only [List.map_cons, List.map_nil, encF]; rw [hXv]; rfl⟩
    clear hFs hXv hQ hM p1 p2 hi hc
    rintro i st' hi ⟨h, nq, ex, rfl⟩
    by_cases hc : i < Fs.length
    case neg =>
      have hie : i = Fs.length := by omega
      subst hie
      simp +contextual (maxSteps := 1000000) (disch := first | omega | (with_reducible first | refine krN ?_ | refine krS ?_ | refine krP ?_ | refine krG ?_); kernel_rfl | refine kr ?_; simp only [go_sem, reduceCtorEq, Int.lt_irrefl, List.length_map, wc15]; done | fail) only [go_sem, seval, -List.reduceReplicate, Int.lt_irrefl, List.length_map, wc15]
    obtain ⟨hsm, h5⟩ := hF _ (get!_mem hc)
    obtain ⟨x, hx⟩ : ∃ x, Fs[i]! = x := ⟨_, rfl⟩
    obtain ⟨p1, p2, e⟩ := x
    rw [hx] at hsm h5
    obtain ⟨k1, k2, k3⟩ := hsm
    dsimp only at k1 k2 k3 h5
    simp +contextual (maxSteps := 1000000) (disch := first | omega | (with_reducible first | refine krN ?_ | refine krS ?_ | refine krP ?_ | refine krG ?_); kernel_rfl | refine kr ?_; simp only [go_sem, reduceCtorEq, Int.ofNat_lt, hc, ix_lst, hx, encF, List.length_map]; done | fail) only [go_sem, seval, -List.reduceReplicate, Int.ofNat_lt, hc, ix_lst, hx, encF, List.length_map]
    refine wc_heap (by rfl) rfl (copy_to (b := 2) (d := e) (o1 := p1) (o2 := p2) (by omega) (by omega) (fun n hn => by have := k3 n hn; omega)) ?_
    rintro v hp3 nx3 ⟨rfl, q1, q2, q3, q4⟩
    obtain ⟨r1, r2⟩ := rf_copy q1 q2
    have w24 := fun (o3 o4 : Option Bool) (m : Mem) (K : Vl → Mem → Prop) => wc24 (b := 2) (d := e) ⟨k1, k2, k3⟩ (o1 := some false) (o2 := some false) (o3 := o3) (o4 := o4) (m := m) (K := K)
    dsimp only at r1 r2
    have w21 := fun (m : Mem) (K : Vl → Mem → Prop) => wc21 (c := 1) (d := copyD e) (fun h => by rw [check_copy] at h; have := h5 h; unfold copyD; rw [List.length_map]; omega) (o1 := some false) (o2 := some false) (m := m) (K := K)
    rw [wrong_copy.2] at w21
    simp +contextual (maxSteps := 1000000) (disch := first | omega | (with_reducible first | refine krN ?_ | refine krS ?_ | refine krP ?_ | refine krG ?_); kernel_rfl | refine kr ?_; simp only [go_sem, reduceCtorEq, r1, r2]; done | fail) only [go_sem, seval, -List.reduceReplicate, r1, r2]
    rw [encD_copy]
    clear r1 r2 q1 q2 q3 q4
    generalize copyD e = Y at w24 w21
    simp +contextual (maxSteps := 1000000) (disch := first | omega | (with_reducible first | refine krN ?_ | refine krS ?_ | refine krP ?_ | refine krG ?_); kernel_rfl | refine kr ?_; simp only [go_sem, reduceCtorEq, w21, Int.ofNat_lt, hc, ix_lst, hx, encF, List.length_map]; done | fail) only [go_sem, seval, -List.reduceReplicate, w21, Int.ofNat_lt, hc, ix_lst, hx, encF, List.length_map]
    refine wc_ans (by simp only [mkAnn, K22]) (rfAs (xs := [encD p1 p2 e]) (by simp only [closedL, clD, Bool.and_self])) (wrongR_to h5) ?_
    intro v hv
    refine ⟨hv.cl, ?_⟩
    rcases hv with ⟨hz, rfl⟩ | ⟨hz, S, oo, hS, rfl⟩
    · have hwV : wrongV e = (.nils, checkE e) := by unfold wrongV; rw [if_pos hz]
      have w23 : ∀ (m : Mem) (K : Vl → Mem → Prop), WC Try.prog (AA 2) (.fn (.func 23) [] []) [.v .nils, .v .nils] m K = K (.bool true) m := fun m K => wc23 (b := 2) (m := m) (K := K) (A := []) (o1 := none) (o2 := none) (by simp)
      rw [hwV]
      simp +contextual (maxSteps := 1000000) (disch := first | omega | (with_reducible first | refine krN ?_ | refine krS ?_ | refine krP ?_ | refine krG ?_); kernel_rfl | refine kr ?_; simp only [go_sem, reduceCtorEq, w23, w24, SL_slot, Int.ofNat_lt, hc, ix_lst, hx, encF, List.length_map]; done | fail) only [go_sem, seval, -List.reduceReplicate, w23, w24, SL_slot, Int.ofNat_lt, hc, ix_lst, hx, encF, List.length_map]
      exact ⟨_, _, _, rfl⟩
    · have hwV : wrongV e = (SL 1 ((bitsN S).map I) none, 0) := by unfold wrongV; rw [if_neg (fun h => h hz), hS]; rfl
      have w23 := fun (m : Mem) (K : Vl → Mem → Prop) => wc23 (b := 2) (m := m) (K := K) (A := bitsN S) (o1 := none) (o2 := oo) (by have := bits_len (s := S); omega)
      rw [hwV]
      simp +contextual (maxSteps := 1000000) (disch := first | omega | (with_reducible first | refine krN ?_ | refine krS ?_ | refine krP ?_ | refine krG ?_); kernel_rfl | refine kr ?_; simp only [go_sem, reduceCtorEq, w23, w24, SL_slot, Int.ofNat_lt, hc, ix_lst, hx, encF, List.length_map]; done | fail) only [go_sem, seval, -List.reduceReplicate, w23, w24, SL_slot, Int.ofNat_lt, hc, ix_lst, hx, encF, List.length_map]
      exact ⟨_, _, _, rfl⟩
end Go.Proofs
