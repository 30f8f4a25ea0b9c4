/- What functions of the given program do in the ideal machine (J39), and the plain laws of what they answer; the conditions stand in each theorem. -/
import Derived.Test.YtoamjmokonnglaaJq
set_option linter.all false
set_option linter.unusedSectionVars false
set_option linter.unusedSimpArgs false
set_option linter.unusedVariables false
namespace Go.Proofs
open Go Go.Idl Go.Dt
set_option linter.unusedSimpArgs false
variable {b : Nat}
structure Acc (f : Nat → Int) (k : Nat) (lo hi : Int) : Prop where
  none : k = 0 → lo = 99 ∧ hi = -99
  bnd : ∀ j, j < k → lo ≤ f j ∧ f j ≤ hi
  one : 0 < k → (∃ j, j < k ∧ f j = lo) ∧ ∃ j, j < k ∧ f j = hi
theorem Acc.zero {f : Nat → Int} : Acc f 0 99 (-99) := ⟨fun _ => ⟨rfl, rfl⟩, fun j h => absurd h (Nat.not_lt_zero _), fun h => absurd h (Nat.lt_irrefl _)⟩
theorem Acc.step {f : Nat → Int} {k : Nat} {lo hi v : Int} (h : Acc f k lo hi) (hv : v = f k) (hb : -99 ≤ v ∧ v ≤ 99) : Acc f (k + 1) (min lo v) (max hi v) := by
  subst hv
  refine ⟨fun e => by omega, fun j hj => ?_, fun _ => ?_⟩
  · by_cases e : j < k
    · have := h.bnd j e; omega
    · obtain rfl : j = k := by omega
      omega
  · by_cases k0 : k = 0
    · have := h.none k0
      exact ⟨⟨k, by omega, by omega⟩, k, by omega, by omega⟩
    · obtain ⟨⟨a, a1, a2⟩, c, c1, c2⟩ := h.one (by omega)
      constructor
      · by_cases e : lo ≤ f k
        · exact ⟨a, by omega, by omega⟩
        · exact ⟨k, by omega, by omega⟩
      · by_cases e : f k ≤ hi
        · exact ⟨c, by omega, by omega⟩
        · exact ⟨k, by omega, by omega⟩
structure Cnt (P : Nat → Prop) (k : Nat) (o : Int) : Prop where
  bnd : 0 ≤ o ∧ o ≤ k
  all : o = k ↔ ∀ j, j < k → P j
  none : o = 0 ↔ ∀ j, j < k → ¬ P j
theorem Cnt.zero {P : Nat → Prop} : Cnt P 0 0 := ⟨⟨Int.le_refl _, Int.le_refl _⟩, ⟨fun _ j h => absurd h (Nat.not_lt_zero _), fun _ => rfl⟩, ⟨fun _ j h => absurd h (Nat.not_lt_zero _), fun _ => rfl⟩⟩
theorem Cnt.yes {P : Nat → Prop} {k : Nat} {o : Int} (h : Cnt P k o) (hp : P k) : Cnt P (k + 1) (o + 1) := by
  have hb := h.bnd
  refine ⟨by omega, ⟨fun e j hj => ?_, fun g => ?_⟩, ⟨fun e => by omega, fun g => absurd hp (g k (by omega))⟩⟩
  · by_cases e2 : j < k
    · exact h.all.1 (by omega) j e2
    · obtain rfl : j = k := by omega
      exact hp
  · have := h.all.2 fun j hj => g j (by omega)
    omega
theorem Cnt.no {P : Nat → Prop} {k : Nat} {o : Int} (h : Cnt P k o) (hp : ¬ P k) : Cnt P (k + 1) o := by
  have hb := h.bnd
  refine ⟨by omega, ⟨fun e => by omega, fun g => absurd (g k (by omega)) hp⟩, ⟨fun e j hj => ?_, fun g => h.none.2 fun j hj => g j (by omega)⟩⟩
  by_cases e2 : j < k
  · exact h.none.1 e j e2
  · obtain rfl : j = k := by omega
    exact hp
theorem said_eq {P : Nat → Prop} {n : Nat} {o v : Int} (h : Cnt P n o) (hn : 0 < n) (hv : 1 ≤ v ∧ v ≤ 3) (h1 : v = 1 ↔ ∀ j, j < n → P j) (h2 : v = 2 ↔ ∀ j, j < n → ¬ P j) : saidV o n = v := by
  have a1 := h.all.trans h1.symm
  have a2 := h.none.trans h2.symm
  unfold saidV
  by_cases e1 : o = n
  · rw [if_pos e1]; omega
  · rw [if_neg e1]
    by_cases e2 : o = 0
    · rw [if_pos e2]; omega
    · rw [if_neg e2]; omega
theorem acc_hull {d : Dt} (hd : DtOk d) (hne : tabsL d ≠ []) {v : Nat} (hv : v < 10) {f : Nat → Int} {n : Nat} (hn : 0 < n) (h1 : ∀ u, TrD d u → ∃ j, j < n ∧ f j = u v) (h2 : ∀ j, j < n → ∃ u, TrD d u ∧ u v = f j) {lo hi : Int} (h : Acc f n lo hi) : joinT (tabsL d) v = (lo, hi) := by
  obtain ⟨a1, ⟨w1, a2, a3⟩, w2, a4, a5⟩ := hullD hd hne hv
  obtain ⟨⟨j1, b1, b2⟩, j2, b3, b4⟩ := h.one hn
  obtain ⟨j3, c1, c2⟩ := h1 w1 a2
  obtain ⟨j4, c3, c4⟩ := h1 w2 a4
  obtain ⟨u1, d1, d2⟩ := h2 j1 b1
  obtain ⟨u2, d3, d4⟩ := h2 j2 b3
  have := a1 u1 d1
  have := a1 u2 d3
  have := h.bnd j3 c1
  have := h.bnd j4 c3
  exact Prod.ext (by dsimp only; omega) (by dsimp only; omega)
theorem sub_W0 {p : List Int × List Int} : sub false 1 0 (encW p) = some (SL 1 (p.1.map I) none) := by
  rcases SL_cases 1 (p.1.map I) none with ⟨_, e⟩ | ⟨x, e⟩ <;> simp only [encW, e] <;> rfl
theorem sub_W1 {p : List Int × List Int} : sub false 1 1 (encW p) = some (SL 1 (p.2.map I) none) := by
  rcases SL_cases 1 (p.2.map I) none with ⟨_, e⟩ | ⟨x, e⟩ <;> simp only [encW, e] <;> rfl
theorem neS1 (x y z w : Int) (h : x = z ∧ y = w) : binOpV { ok := true, agg := true, size := 2, zero := Vl.agg [I 0, I 0], flat := some [CK.i, CK.i], k := TK.struct [(0, false, 1), (1, false, 1)] } .neq (Vl.agg [.int .i64 x, .int .i64 y]) (Vl.agg [.int .i64 z, .int .i64 w]) = some (.bool false) := by
  obtain ⟨rfl, rfl⟩ := h
  simp [binOpV, eqCells, eqCell]
set_option maxRecDepth 10000 in
set_option maxHeartbeats 4000000 in
theorem ends_to {xs : List Int} (hn : xs.length ≤ 9223372036854775807) {o : Option Bool} : Ans Try.prog (AA 2) 11 [SL 1 (xs.map I) o] (fun v => v = .bool true) := by
  refine Ans_of Try.func11 rfl rfl ?_
  simp +contextual (maxSteps := 1000000) (disch := first | omega | (with_reducible first | refine krN ?_ | refine krS ?_ | refine krP ?_ | refine krG ?_); kernel_rfl | refine kr ?_; simp only [go_sem, reduceCtorEq]; done | fail) only [go_sem, seval, -List.reduceReplicate]
  refine wc_heap (by rfl) rfl (newUrn_to (b := 2) hn) ?_
  rintro v hp' nx' ⟨rfl, rfl, s, rfl⟩
  simp +contextual (maxSteps := 1000000) (disch := first | omega | (with_reducible first | refine krN ?_ | refine krS ?_ | refine krP ?_ | refine krG ?_); kernel_rfl | refine kr ?_; simp only [go_sem, reduceCtorEq]; done | fail) only [go_sem, seval, -List.reduceReplicate]
  refine wc_heap (by rfl) rfl (little_to (b := 2) (s := s)) ?_
  rintro v hp' nx' ⟨s, st, es, ns, g, hM, rfl, rfl, hn3⟩
  have r1 : reify (HPl s es ns g) (.own 1 es.length) = some (.lst 2 (es.map encS) false, [1]) := reify_flat (.inl rfl) rfl fun _ => rfl
  have r2 : reify (HPl s es ns g) (.own 2 ns.length) = some (.lst 6 (ns.map encN) false, [2]) := reify_flat (.inl rfl) rfl fun n => reify_closedV _ (clN n)
  simp +contextual (maxSteps := 1000000) (disch := first | omega | (with_reducible first | refine krN ?_ | refine krS ?_ | refine krP ?_ | refine krG ?_); kernel_rfl | refine kr ?_; simp only [go_sem, reduceCtorEq, r1, r2, wc28]; done | fail) only [go_sem, seval, -List.reduceReplicate, r1, r2, wc28]
  clear r1 r2
  have hu : killHp [1, 2] (HPl s es ns g) 0 = urnO s := rfl
  generalize killHp [1, 2] (HPl s es ns g) = hk at hu
  obtain ⟨D, hD⟩ : ∃ D : Dt, D = ⟨st, es, ns⟩ := ⟨_, rfl⟩
  have e1 : Vl.agg [.int .i64 st, .lst 2 (es.map encS) false, .lst 6 (ns.map encN) false] = encD (some false) (some false) D := by rw [hD]; rfl
  have hst := hM.st_b
  have hel := hM.es_l
  have heo := hM.es_ok
  have hd : DtOk D := by
    have h2 := hM.ns_l
    rw [hD]
    refine ⟨by dsimp only; omega, by dsimp only; omega, fun s hs => by have := heo s hs; unfold SpanOk; omega, by dsimp only; omega, fun n hn => ?_⟩
    have g := hM.ns_ok n hn
    exact ⟨g.kind, g.stone, g.years, g.span, g.plain, g.era, g.after⟩
  have hin : ∀ w, TrD D w → ∀ i : Nat, (i : Int) < D.stones → 0 ≤ w (1 + i) ∧ w (1 + i) ≤ 7 := fun w hw i hi => by
    obtain ⟨n, n1, n2⟩ := hM.ns_in i (by rw [hD] at hi; exact hi)
    have := hw.notes n (by rw [hD]; exact n1)
    have h0 := hw.zero
    have hwk : n.wk = ⟨0, 1 + i, [(n.lo, n.hi)]⟩ := by
      unfold Nt.wk
      rw [n2.kind, n2.stone, if_neg (by decide), if_neg (by decide), if_neg (by decide), Int.toNat_natCast]
    unfold Nt.right Wk.right at this
    rw [hwk] at this
    obtain ⟨s, hs, h1, h2⟩ := this
    rw [List.mem_singleton.1 hs] at h1 h2
    dsimp only at h1 h2
    have := n2.lo
    omega
  rw [e1]
  have hDs : D.stones = st := by rw [hD]
  have hDe : D.eras = es := by rw [hD]
  rw [← hDe] at hel heo
  clear e1 hD hM
  have hst3 : D.stones.toNat ≤ 3 := by omega
  have h83 : 8 ^ D.stones.toNat * 5 ^ D.eras.length ≤ 100000 := by
    have a1 : 8 ^ D.stones.toNat ≤ 8 ^ 3 := Nat.pow_le_pow_right (by decide) hst3
    have a2 : 5 ^ D.eras.length ≤ 5 ^ 1 := Nat.pow_le_pow_right (by decide) hel
    have := Nat.mul_le_mul a1 a2
    omega
  refine wc_heap (by rfl) rfl (truY_to (b := 2) hd (fun s hs => by have := heo s hs; omega) (o1 := some false) (o2 := some false) (U := urnO s) D.stones.toNat (ys := []) (w1 := .nils) (k1 := []) (v := .nils) (L := []) (by simp only [List.length_nil]; omega) (by simp) rfl (.inl ⟨rfl, rfl⟩) hu (by dsimp only; omega) (by simp only [List.length_nil]; omega)) ?_
  rintro v hp2 nx2 ⟨c1, c2, c3⟩
  rw [List.nil_append] at c2
  dsimp only at c3
  have hsv := c2.slot
  have hAl5 : (truY D D.stones.toNat []).length ≤ 100000 := Nat.le_trans (truY_len (fun s hs => by have := heo s hs; omega) _ _) h83
  have hfw := fun (a c : List Int) => all_fwd hd (a := a) (c := c)
  have hbw := fun (w : Nat → Int) (hw : TrD D w) => all_bwd hd hw (hin w hw)
  generalize truY D D.stones.toNat [] = A at c2 hfw hbw hAl5
  have hc0 := checkE_ok.2 hd
  rcases c2 with ⟨hA, rfl⟩ | ⟨id, i1, i2, rfl, hA, i5⟩
  · have hno : tabsL D = [] := (tabs_none hd).2 fun u hu => by
      have := hbw u hu
      rw [hA] at this
      cases this
    have hf9 : foundV D = (.nils, 9) := by unfold foundV; rw [if_neg (fun k => k hc0), hno]; rfl
    simp +contextual (maxSteps := 1000000) (disch := first | omega | (with_reducible first | refine krN ?_ | refine krS ?_ | refine krP ?_ | refine krG ?_); kernel_rfl | refine kr ?_; simp only [go_sem, reduceCtorEq, frzV_nils, wc27, wc38, hf9, wc15]; done | fail) only [go_sem, seval, -List.reduceReplicate, frzV_nils, wc27, wc38, hf9, wc15]
  have r1 : reify hp2 (.own id A.length) = some (.lst 2 (A.map encW) false, [id]) := reify_flat (.inl i5) rfl fun p => reify_closedV _ (clW p)
  have hk0 : killHp [id] hp2 0 = urnO s := by rw [killHp_ne _ _ _ (by simp; omega)]; exact c1
  have hAl : 0 < A.length := List.length_pos_iff.2 hA
  obtain ⟨w0, hw0⟩ : ∃ w, TrD D w := ⟨_, (hfw _ _ (get!_mem hAl)).2.2.2⟩
  obtain ⟨hne, hf0, _⟩ := tabs_some hd hw0
  obtain ⟨n, hn⟩ : ∃ n, n = D.stones.toNat := ⟨_, rfl⟩
  have hn' : (n : Int) = D.stones := by omega
  obtain ⟨n2, hn2⟩ : ∃ n2, n2 = D.eras.length := ⟨_, rfl⟩
  have hAne : ¬ (A.length : Int) = 0 := by omega
  simp +contextual (maxSteps := 1000000) (disch := first | omega | (with_reducible first | refine krN ?_ | refine krS ?_ | refine krP ?_ | refine krG ?_); kernel_rfl | refine kr ?_; simp only [go_sem, reduceCtorEq, r1, wc27, wc38, hf0, hAne, len_spans, slot_spans, ← hn, hn', ← hn2, List.length_map]; done | fail) only [go_sem, seval, -List.reduceReplicate, r1, wc27, wc38, hf0, hAne, len_spans, slot_spans, ← hn, hn', ← hn2, List.length_map]
  generalize killHp [id] hp2 = H at hk0
  have hA1 : ∀ k, k < A.length → A[k]!.1.length = n ∧ A[k]!.2.length = n2 ∧ (∀ y ∈ A[k]!.1, 0 ≤ y ∧ y ≤ 7) ∧ TrD D (wOf A[k]!.1 A[k]!.2) := fun k hk => by
    have := hfw A[k]!.1 A[k]!.2 (get!_mem hk)
    rw [← hn, ← hn2] at this; exact this
  have gR : ∀ (f : Nat → Int) (n i : Nat), i < n → ((List.range n).map f)[i]! = f i := fun f n i hi => by
    rw [get!_eq (by rw [List.length_map, List.length_range]; exact hi), List.getElem_map, List.getElem_range]
  have hA2 : ∀ u, TrD D u → ∃ j, j < A.length ∧ (∀ i, i < n → A[j]!.1[i]! = u (1 + i)) ∧ ∀ i, i < n2 → A[j]!.2[i]! = u (7 + i) := fun u hu => by
    have hm := hbw u hu
    rw [← hn, ← hn2] at hm
    obtain ⟨j, hj, e⟩ := List.getElem_of_mem hm
    refine ⟨j, hj, fun i hi => ?_, fun i hi => ?_⟩
    · rw [get!_eq hj, e]; exact gR _ _ _ hi
    · rw [get!_eq hj, e]; exact gR _ _ _ hi
  rw [upd_urn hk0]
  have hn6 : n ≤ 3 := by omega
  have hn26 : n2 ≤ 1 := by omega
  refine wp_loop_to n (fun i st => ∃ (s : Int × Int) (ex : List (Nat × Vl)), st = ({ sl := (3, .bp 0 0) :: (4, .loc (encD (some false) (some false) D)) :: (5, .lst 2 (A.map encW) false) :: (6, spansV (tabsL D) 1 n) :: (8, spansV (tabsL D) 7 n2) :: (10, I i) :: ex, hp := upd H 0 (.box (.agg [.int .u64 s.1, .int .u64 s.2])), nx := nx2 } : FS)) ?_ 0 (Nat.zero_le _) ⟨s, _, rfl⟩
  clear hk0 c1 i5 hfw hbw hsv r1
  rintro i st' hi ⟨s, ex, rfl⟩
  by_cases hc : i < n
  · have a1 := upR_b s (n := 9) (by omega)
    generalize hY : upR s 9 = year at a1
    generalize hs1 : upS s 9 = s1
    have a2 := upR_b s1 (n := D.stones) (by omega)
    generalize hO : upR s1 D.stones = o at a2
    generalize hs2 : upS s1 D.stones = s2
    obtain ⟨on, rfl⟩ := Int.eq_ofNat_of_zero_le a2.1
    have hon : on < n := by omega
    simp +contextual (maxSteps := 1000000) (disch := first | omega | (with_reducible first | refine krN ?_ | refine krS ?_ | refine krP ?_ | refine krG ?_); kernel_rfl | refine kr ?_; simp only [go_sem, reduceCtorEq, Int.ofNat_lt, hc, len_spans, slot_spans, wc28, upd_upd, hY, hs1, hO, hs2]; done | fail) only [go_sem, seval, -List.reduceReplicate, Int.ofNat_lt, hc, len_spans, slot_spans, wc28, upd_upd, hY, hs1, hO, hs2]
    refine wp_loop_to A.length (fun k st => ∃ (lo hi of before : Int) (ex : List (Nat × Vl)), Acc (fun j => A[j]!.1[i]!) k lo hi ∧ Cnt (fun j => A[j]!.1[i]! = year) k of ∧ Cnt (fun j => A[j]!.1[i]! < A[j]!.1[on]!) k before ∧
      st = ({ sl := (3, .bp 0 0) :: (4, .loc (encD (some false) (some false) D)) :: (5, .lst 2 (A.map encW) false) :: (6, spansV (tabsL D) 1 n) :: (8, spansV (tabsL D) 7 n2) :: (10, I i) :: (11, .loc (Sp lo hi)) :: (12, I year) :: (13, I on) :: (14, I of) :: (15, I before) :: (16, I k) :: ex, hp := upd H 0 (.box (.agg [.int .u64 s2.1, .int .u64 s2.2])), nx := nx2 } : FS)) ?_ 0 (Nat.zero_le _) ⟨99, -99, 0, 0, _, Acc.zero, Cnt.zero, Cnt.zero, rfl⟩
    rintro k st' hk ⟨lo, hi', of, before, ex, q1, q2, q3, rfl⟩
    by_cases hck : k < A.length
    · obtain ⟨g1, g2, g3, _⟩ := hA1 k hck
      have hik : i < A[k]!.1.length := by omega
      have hok : on < A[k]!.1.length := by omega
      have hv := g3 _ (get!_mem hik)
      have t1 := q1.step (v := A[k]!.1[i]!) rfl (by omega)
      generalize hV : A[k]!.1[i]! = v at hv t1
      generalize hZ : A[k]!.1[on]! = z
      have hb2 := q2.bnd
      have hb3 := q3.bnd
      have w1 : IntKind.wrap .i64 (of + 1) = of + 1 := wrap_i64 (by omega) (by omega)
      have w2 : IntKind.wrap .i64 (before + 1) = before + 1 := wrap_i64 (by omega) (by omega)
      have u1 : v = year → Cnt (fun j => A[j]!.1[i]! = year) (k + 1) (of + 1) := fun h => q2.yes (by show A[k]!.1[i]! = year; rw [hV]; exact h)
      have u2 : ¬ v = year → Cnt (fun j => A[j]!.1[i]! = year) (k + 1) of := fun h => q2.no (by show ¬ A[k]!.1[i]! = year; rw [hV]; exact h)
      have u3 : v < z → Cnt (fun j => A[j]!.1[i]! < A[j]!.1[on]!) (k + 1) (before + 1) := fun h => q3.yes (by show A[k]!.1[i]! < A[k]!.1[on]!; rw [hV, hZ]; exact h)
      have u4 : ¬ v < z → Cnt (fun j => A[j]!.1[i]! < A[j]!.1[on]!) (k + 1) before := fun h => q3.no (by show ¬ A[k]!.1[i]! < A[k]!.1[on]!; rw [hV, hZ]; exact h)
      by_cases p1 : v = year
      · have t2 := u1 p1
        subst p1
        by_cases p2 : v < z
        · simp +contextual (maxSteps := 1000000) (disch := first | omega | (with_reducible first | refine krN ?_ | refine krS ?_ | refine krP ?_ | refine krG ?_); kernel_rfl | refine kr ?_; simp only [go_sem, reduceCtorEq, Int.ofNat_lt, hck, ix_lst, ix_map, sub_W0, hik, hok, hV, hZ, wc28, w1, w2, p2, List.length_map, slot_spans]; done | fail) only [go_sem, seval, -List.reduceReplicate, Int.ofNat_lt, hck, ix_lst, ix_map, sub_W0, hik, hok, hV, hZ, wc28, w1, w2, p2, List.length_map, slot_spans]
          exact ⟨_, _, _, _, _, t1, t2, u3 p2, rfl⟩
        · simp +contextual (maxSteps := 1000000) (disch := first | omega | (with_reducible first | refine krN ?_ | refine krS ?_ | refine krP ?_ | refine krG ?_); kernel_rfl | refine kr ?_; simp only [go_sem, reduceCtorEq, Int.ofNat_lt, hck, ix_lst, ix_map, sub_W0, hik, hok, hV, hZ, wc28, w1, w2, p2, List.length_map, slot_spans]; done | fail) only [go_sem, seval, -List.reduceReplicate, Int.ofNat_lt, hck, ix_lst, ix_map, sub_W0, hik, hok, hV, hZ, wc28, w1, w2, p2, List.length_map, slot_spans]
          exact ⟨_, _, _, _, _, t1, t2, u4 p2, rfl⟩
      · have t2 := u2 p1
        by_cases p2 : v < z
        · simp +contextual (maxSteps := 1000000) (disch := first | omega | (with_reducible first | refine krN ?_ | refine krS ?_ | refine krP ?_ | refine krG ?_); kernel_rfl | refine kr ?_; simp only [go_sem, reduceCtorEq, Int.ofNat_lt, hck, ix_lst, ix_map, sub_W0, hik, hok, hV, hZ, wc28, w1, w2, p1, p2, List.length_map, slot_spans]; done | fail) only [go_sem, seval, -List.reduceReplicate, Int.ofNat_lt, hck, ix_lst, ix_map, sub_W0, hik, hok, hV, hZ, wc28, w1, w2, p1, p2, List.length_map, slot_spans]
          exact ⟨_, _, _, _, _, t1, t2, u3 p2, rfl⟩
        · simp +contextual (maxSteps := 1000000) (disch := first | omega | (with_reducible first | refine krN ?_ | refine krS ?_ | refine krP ?_ | refine krG ?_); kernel_rfl | refine kr ?_; simp only [go_sem, reduceCtorEq, Int.ofNat_lt, hck, ix_lst, ix_map, sub_W0, hik, hok, hV, hZ, wc28, w1, w2, p1, p2, List.length_map, slot_spans]; done | fail) only [go_sem, seval, -List.reduceReplicate, Int.ofNat_lt, hck, ix_lst, ix_map, sub_W0, hik, hok, hV, hZ, wc28, w1, w2, p1, p2, List.length_map, slot_spans]
          exact ⟨_, _, _, _, _, t1, t2, u4 p2, rfl⟩
    have hke : k = A.length := by omega
    subst hke
    have hfY : ∀ x, x < n → ∀ j, j < A.length → ∃ u, TrD D u ∧ u (1 + x) = A[j]!.1[x]! := fun x hx j hj => ⟨_, (hA1 j hj).2.2.2, wOf_y (by omega)⟩
    have hj1 := acc_hull hd hne (v := 1 + i) (by omega) hAl (fun u hu => by obtain ⟨j, j1, j2, _⟩ := hA2 u hu; exact ⟨j, j1, j2 i hc⟩) (hfY i hc) q1
    obtain ⟨v0, v1, v2, v3⟩ := cut_1 hd hw0 (i := i) (y := year) (by omega) (by omega)
    have hv := said_eq q2 hAl v1 (v2.trans ⟨fun h j hj => by have := h _ (hA1 j hj).2.2.2; rwa [wOf_y (by omega)] at this, fun h u hu => by obtain ⟨j, j1, j2, _⟩ := hA2 u hu; rw [← j2 i hc]; exact h j j1⟩) (v3.trans ⟨fun h j hj => by have := h _ (hA1 j hj).2.2.2; rwa [wOf_y (by omega)] at this, fun h u hu => by obtain ⟨j, j1, j2, _⟩ := hA2 u hu; rw [← j2 i hc]; exact h j j1⟩)
    obtain ⟨z0, z1, z2, z3⟩ := ear_1 hd hw0 (a := i) (c := on) (by omega) (by omega)
    have hz := said_eq q3 hAl z1 (z2.trans ⟨fun h j hj => by have := h _ (hA1 j hj).2.2.2; rwa [wOf_y (by omega), wOf_y (by omega)] at this, fun h u hu => by obtain ⟨j, j1, j2, _⟩ := hA2 u hu; rw [← j2 i hc, ← j2 on hon]; exact h j j1⟩) (z3.trans ⟨fun h j hj => by have := h _ (hA1 j hj).2.2.2; rwa [wOf_y (by omega), wOf_y (by omega)] at this, fun h u hu => by obtain ⟨j, j1, j2, _⟩ := hA2 u hu; rw [← j2 i hc, ← j2 on hon]; exact h j j1⟩)
    simp +contextual (maxSteps := 1000000) (disch := first | omega | (with_reducible first | refine krN ?_ | refine krS ?_ | refine krP ?_ | refine krG ?_); kernel_rfl | refine kr ?_; simp only [go_sem, reduceCtorEq, hc, Int.lt_irrefl, slot_spans, wc41, wc31, v0, z0, ix_spans, hj1, neS1, and_self, wc48, hv, hz, List.length_map]; done | fail) only [go_sem, seval, -List.reduceReplicate, hc, Int.lt_irrefl, slot_spans, wc41, wc31, v0, z0, ix_spans, hj1, neS1, and_self, wc48, hv, hz, List.length_map]
    exact ⟨s2, _, rfl⟩
  have hie : i = n := by omega
  subst hie
  simp +contextual (maxSteps := 1000000) (disch := first | omega | (with_reducible first | refine krN ?_ | refine krS ?_ | refine krP ?_ | refine krG ?_); kernel_rfl | refine kr ?_; simp only [go_sem, reduceCtorEq, Int.lt_irrefl, len_spans, slot_spans]; done | fail) only [go_sem, seval, -List.reduceReplicate, Int.lt_irrefl, len_spans, slot_spans]
  clear hi hc ex
  generalize upd H 0 _ = H2
  refine wp_loop_to n2 (fun i st => ∃ (ex : List (Nat × Vl)), st = ({ sl := (5, .lst 2 (A.map encW) false) :: (8, spansV (tabsL D) 7 n2) :: (22, I i) :: ex, hp := H2, nx := nx2 } : FS)) ?_ 0 (Nat.zero_le _) ⟨_, rfl⟩
  rintro j st' hi ⟨ex, rfl⟩
  by_cases hc : j < n2
  · simp +contextual (maxSteps := 1000000) (disch := first | omega | (with_reducible first | refine krN ?_ | refine krS ?_ | refine krP ?_ | refine krG ?_); kernel_rfl | refine kr ?_; simp only [go_sem, reduceCtorEq, Int.ofNat_lt, hc, len_spans, slot_spans, wc28]; done | fail) only [go_sem, seval, -List.reduceReplicate, Int.ofNat_lt, hc, len_spans, slot_spans, wc28]
    refine wp_loop_to A.length (fun k st => ∃ (lo hi : Int) (ex : List (Nat × Vl)), Acc (fun i => A[i]!.2[j]!) k lo hi ∧
      st = ({ sl := (5, .lst 2 (A.map encW) false) :: (8, spansV (tabsL D) 7 n2) :: (22, I j) :: (23, .loc (Sp lo hi)) :: (24, I k) :: ex, hp := H2, nx := nx2 } : FS)) ?_ 0 (Nat.zero_le _) ⟨99, -99, _, Acc.zero, rfl⟩
    rintro k st' hk ⟨lo, hi', ex, q1, rfl⟩
    by_cases hck : k < A.length
    · obtain ⟨g1, g2, g3, g4⟩ := hA1 k hck
      have hik : j < A[k]!.2.length := by omega
      have hv := g4.eras j (by omega)
      rw [wOf_f] at hv
      have hso := heo _ (get!_mem (i := j) (by omega))
      have t1 := q1.step (v := A[k]!.2[j]!) rfl (by omega)
      generalize hV : A[k]!.2[j]! = v at hv t1
      simp +contextual (maxSteps := 1000000) (disch := first | omega | (with_reducible first | refine krN ?_ | refine krS ?_ | refine krP ?_ | refine krG ?_); kernel_rfl | refine kr ?_; simp only [go_sem, reduceCtorEq, Int.ofNat_lt, hck, ix_lst, ix_map, sub_W1, hik, hV, wc28, List.length_map, slot_spans]; done | fail) only [go_sem, seval, -List.reduceReplicate, Int.ofNat_lt, hck, ix_lst, ix_map, sub_W1, hik, hV, wc28, List.length_map, slot_spans]
      exact ⟨_, _, _, t1, rfl⟩
    have hke : k = A.length := by omega
    subst hke
    have hj1 := acc_hull hd hne (v := 7 + j) (by omega) hAl (fun u hu => by obtain ⟨i, j1, _, j2⟩ := hA2 u hu; exact ⟨i, j1, j2 j hc⟩) (fun i hi => ⟨_, (hA1 i hi).2.2.2, wOf_f⟩) q1
    simp +contextual (maxSteps := 1000000) (disch := first | omega | (with_reducible first | refine krN ?_ | refine krS ?_ | refine krP ?_ | refine krG ?_); kernel_rfl | refine kr ?_; simp only [go_sem, reduceCtorEq, hc, Int.lt_irrefl, slot_spans, ix_spans, hj1, neS1, and_self, List.length_map]; done | fail) only [go_sem, seval, -List.reduceReplicate, hc, Int.lt_irrefl, slot_spans, ix_spans, hj1, neS1, and_self, List.length_map]
    exact ⟨_, rfl⟩
  have hie : j = n2 := by omega
  subst hie
  simp +contextual (maxSteps := 1000000) (disch := first | omega | (with_reducible first | refine krN ?_ | refine krS ?_ | refine krP ?_ | refine krG ?_); kernel_rfl | refine kr ?_; simp only [go_sem, reduceCtorEq, Int.lt_irrefl, len_spans, slot_spans, wc15]; done | fail) only [go_sem, seval, -List.reduceReplicate, Int.lt_irrefl, len_spans, slot_spans, wc15]
end Go.Proofs
