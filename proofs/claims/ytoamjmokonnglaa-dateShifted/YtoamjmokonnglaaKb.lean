/- What functions of the given program do in the ideal machine (Q1, Q2, Q3), and the plain laws of what they answer; the conditions stand in each theorem. -/
import Derived.Test.YtoamjmokonnglaaKa
import Derived.Test.YtoamjmokonnglaaJn
set_option linter.all false
set_option linter.unusedSectionVars false
set_option linter.unusedSimpArgs false
set_option linter.unusedVariables false
namespace Go.Proofs
open Go Go.Idl Go.Dt
set_option linter.unusedSimpArgs false
variable {b : Nat}
theorem to28 {lo hi : Int} : Ans Try.prog (AA b) 28 [I lo, I hi] (fun v => v = Sp lo hi) := by
  refine Ans_of Try.func28 rfl rfl ?_
  simp +contextual (maxSteps := 1000000) (disch := first | omega | (with_reducible first | refine krN ?_ | refine krS ?_ | refine krP ?_ | refine krG ?_); kernel_rfl | refine kr ?_; simp only [go_sem, reduceCtorEq]; done | fail) only [go_sem, seval, -List.reduceReplicate]
theorem wc28 {lo hi : Int} {m : Mem} {K : Vl → Mem → Prop} : WC Try.prog (AA b) (.fn (.func 28) [] []) [.v (.int .i64 lo), .v (.int .i64 hi)] m K = K (Sp lo hi) m := WC_flat (by simp only [mkAnn, K28]) rfl to28 rfl
theorem ap23q {m : Mem} {id n : Nat} {xs : List Vl} {x : Vl} {o : Bool} (ho : m.hp id = .arr 6 xs) (hn : xs.length = n) (hs : n < 100000) : isAppend Try.prog 23 23 (.own id n) (.lst 6 [x] o) m = some (.own id (n + 1), { m with hp := upd m.hp id (.arr 6 (xs ++ [x])) }) :=
  app1_own (by rw [td23]) ho hn (grow_ok rfl rfl (by decide) (by decide) (by omega))
def nineN (i : Nat) : Nt := ⟨2, i, 0, -900, 900, [], none⟩
def keepB (d : Dt) : Nat := min d.notes.length (8 - d.stones.toNat)
def bndD (d : Dt) : Dt := ⟨d.stones, d.eras, d.notes.take (keepB d) ++ (List.range d.stones.toNat).map nineN⟩
@[reducible] def hB (d : Dt) (L : List Nt) : Nat → Ob := upd (upd noHeap 0 (.arr 2 (d.eras.map encS))) 1 (.arr 6 (L.map encN))
theorem rng_sn {f : Nat → Nt} {k : Nat} : (List.range k).map f ++ [f k] = (List.range (k + 1)).map f := by rw [List.range_succ, List.map_append]; rfl
theorem hB_app {d : Dt} {L : List Nt} {n nx : Nat} {x : Nt} {o : Bool} {lc : List (Nat × Vl)} (hn : L.length = n) (hs : n < 100000) : isAppend Try.prog 23 23 (.own 1 n) (.lst 6 [encN x] o) ⟨lc, hB d L, nx⟩ = some (.own 1 (n + 1), ⟨lc, hB d (L ++ [x]), nx⟩) := by
  rw [ap23q (xs := L.map encN) (show hB d L 1 = _ from upd_same _ _ _) (by rw [List.length_map]; exact hn) hs]
  show some (Vl.own 1 (n + 1), (⟨lc, upd (hB d L) 1 (.arr 6 (L.map encN ++ [encN x])), nx⟩ : Mem)) = _
  unfold hB
  rw [upd_upd, List.map_append]; rfl
set_option maxRecDepth 10000 in
set_option maxHeartbeats 4000000 in
theorem bound_to {d : Dt} (hS : 1 ≤ d.stones ∧ d.stones ≤ 6) (he : d.eras.length ≤ 1000) (hn : d.notes.length ≤ 1000) {o1 o2 : Option Bool} : Ans Try.prog (AA b) 25 [encD o1 o2 d] (fun v => v = encD (some false) (some false) (bndD d)) := by
  refine Ans_of Try.func25 rfl rfl ?_
  have he' : d.eras.length ≤ 100000 := by omega
  obtain ⟨S, hSS⟩ := Int.eq_ofNat_of_zero_le (show 0 ≤ d.stones by omega)
  have hSn : d.stones.toNat = S := by omega
  simp +contextual (maxSteps := 1000000) (disch := first | omega | (with_reducible first | refine krN ?_ | refine krS ?_ | refine krP ?_ | refine krG ?_); kernel_rfl | refine kr ?_; simp only [go_sem, reduceCtorEq, wc58, he']; done | fail) only [go_sem, seval, -List.reduceReplicate, wc58, he']
  have hk : keepB d ≤ d.notes.length ∧ (keepB d : Int) + d.stones ≤ 8 ∧ (keepB d = d.notes.length ∨ keepB d + S = 8) := by unfold keepB; omega
  have hbn : bndD d = ⟨d.stones, d.eras, d.notes.take (keepB d) ++ (List.range S).map nineN⟩ := by unfold bndD; rw [hSn]
  rw [hbn]
  generalize keepB d = k at hk
  refine wp_loop_to k (fun i st => ∃ ex, st = ({ sl := (1, .loc (encD o1 o2 d)) :: (2, .loc (.agg [I 0, .nils, .nils])) :: (3, .loc (.agg [I d.stones, .own 0 d.eras.length, .own 1 i])) :: (4, I i) :: ex, hp := hB d (d.notes.take i), nx := 2 } : FS)) ?_ 0 (Nat.zero_le _) ⟨_, rfl⟩
  rintro i st hi ⟨ex, rfl⟩
  have hw : IntKind.wrap .i64 ((i : Int) + d.stones) = i + d.stones := wrap_i64 (by omega) (by omega)
  by_cases hc : i < k
  · have h1 : (i : Int) < d.notes.length := by omega
    have h1' : i < d.notes.length := by omega
    have h2 : (i : Int) + d.stones < 8 := by omega
    have hap := fun (lc : List (Nat × Vl)) (o : Bool) (nx : Nat) => hB_app (d := d) (L := d.notes.take i) (n := i) (x := d.notes[i]!) (o := o) (nx := nx) (lc := lc) (by rw [List.length_take]; omega) (by omega)
    have htk := take_snoc h1'
    rw [← htk] at hap
    simp +contextual (maxSteps := 1000000) (disch := first | omega | (with_reducible first | refine krN ?_ | refine krS ?_ | refine krP ?_ | refine krG ?_); kernel_rfl | refine kr ?_; simp only [go_sem, reduceCtorEq, hw, h1, h1', h2, hc, ix_map, hap]; done | fail) only [go_sem, seval, -List.reduceReplicate, hw, h1, h1', h2, hc, ix_map, hap]
    exact ⟨_, rfl⟩
  have hie : i = k := by omega
  subst hie
  have fin : ∀ ex, (∃ ex', ({ sl := (1, .loc (encD o1 o2 d)) :: (2, .loc (.agg [I 0, .nils, .nils])) :: (3, .loc (.agg [I d.stones, .own 0 d.eras.length, .own 1 i])) :: (5, I 0) :: ex, hp := hB d (d.notes.take i), nx := 2 } : FS) = { sl := (1, .loc (encD o1 o2 d)) :: (2, .loc (.agg [I 0, .nils, .nils])) :: (3, .loc (.agg [I d.stones, .own 0 d.eras.length, .own 1 (i + 0)])) :: (5, I ((0 : Nat) : Int)) :: ex', hp := hB d (d.notes.take i ++ (List.range 0).map nineN), nx := 2 }) := fun ex => ⟨ex, by rw [List.range_zero, List.map_nil, List.append_nil]; rfl⟩
  have hl : (d.notes.take i).length = i := by rw [List.length_take]; omega
  have hor : ¬ ((i : Int) < d.notes.length) ∨ ((i : Int) < d.notes.length ∧ ¬ ((i : Int) + d.stones < 8)) := by omega
  rcases hor with h1 | ⟨h1, h2⟩
  all_goals
    first | simp +contextual (maxSteps := 1000000) (disch := first | omega | (with_reducible first | refine krN ?_ | refine krS ?_ | refine krP ?_ | refine krG ?_); kernel_rfl | refine kr ?_; simp only [go_sem, reduceCtorEq, hw, h1, h2]; done | fail) only [go_sem, seval, -List.reduceReplicate, hw, h1, h2] | simp +contextual (maxSteps := 1000000) (disch := first | omega | (with_reducible first | refine krN ?_ | refine krS ?_ | refine krP ?_ | refine krG ?_); kernel_rfl | refine kr ?_; simp only [go_sem, reduceCtorEq, hw, h1]; done | fail) only [go_sem, seval, -List.reduceReplicate, hw, h1]
    refine wp_loop_to S (fun j st => ∃ ex, st = ({ sl := (1, .loc (encD o1 o2 d)) :: (2, .loc (.agg [I 0, .nils, .nils])) :: (3, .loc (.agg [I d.stones, .own 0 d.eras.length, .own 1 (i + j)])) :: (5, I j) :: ex, hp := hB d (d.notes.take i ++ (List.range j).map nineN), nx := 2 } : FS)) ?_ 0 (Nat.zero_le _) (fin _)
    clear ex
    rintro j st hj ⟨ex, rfl⟩
    by_cases hcj : j < S
    · have hc' : (j : Int) < d.stones := by omega
      have hap : ∀ (lc : List (Nat × Vl)) (o : Bool) (nx : Nat), isAppend Try.prog 23 23 (.own 1 (i + j)) (.lst 6 [.agg [.int .i64 2, .int .i64 j, .int .i64 0, .nils, .int .i64 (-900), .int .i64 900]] o) ⟨lc, hB d (d.notes.take i ++ (List.range j).map nineN), nx⟩ = some (.own 1 (i + j + 1), ⟨lc, hB d (d.notes.take i ++ (List.range (j + 1)).map nineN), nx⟩) := fun lc o nx => by
        have := hB_app (d := d) (L := d.notes.take i ++ (List.range j).map nineN) (n := i + j) (x := nineN j) (o := o) (nx := nx) (lc := lc) (by rw [List.length_append, hl, List.length_map, List.length_range]) (by omega)
        rw [List.append_assoc, rng_sn] at this
        exact this
      simp +contextual (maxSteps := 1000000) (disch := first | omega | (with_reducible first | refine krN ?_ | refine krS ?_ | refine krP ?_ | refine krG ?_); kernel_rfl | refine kr ?_; simp only [go_sem, reduceCtorEq, hc', hcj, wc28, hap]; done | fail) only [go_sem, seval, -List.reduceReplicate, hc', hcj, wc28, hap]
      exact ⟨_, rfl⟩
    · have hje : j = S := by omega
      subst hje
      have hc' : ¬ (j : Int) < d.stones := by omega
      have f1 : reify (hB d (d.notes.take i ++ (List.range j).map nineN)) (.own 0 d.eras.length) = some (.lst 2 (d.eras.map encS) false, [0]) := reify_flat (.inl (by show upd _ 1 _ 0 = _; rw [upd_ne _ _ (by omega)]; exact upd_same _ _ _)) rfl fun _ => rfl
      have f2 : reify (hB d (d.notes.take i ++ (List.range j).map nineN)) (.own 1 (i + j)) = some (.lst 6 ((d.notes.take i ++ (List.range j).map nineN).map encN) false, [1]) := reify_flat (.inl (upd_same _ _ _)) (by rw [List.length_append, hl, List.length_map, List.length_range]) fun n => reify_closedV _ (clN n)
      simp +contextual (maxSteps := 1000000) (disch := first | omega | (with_reducible first | refine krN ?_ | refine krS ?_ | refine krP ?_ | refine krG ?_); kernel_rfl | refine kr ?_; simp only [go_sem, reduceCtorEq, hc', f1, f2]; done | fail) only [go_sem, seval, -List.reduceReplicate, hc', f1, f2]
      rfl
end Go.Proofs
namespace Go.Proofs
open Go Go.Idl Go.Dt
set_option linter.unusedSimpArgs false
variable {b : Nat}
def negs (l : List Int) : List Int := (l.map fun y => -y).reverse
theorem negs_snoc {l : List Int} {j : Nat} (h : j < l.length) : (negs l).take (j + 1) = (negs l).take j ++ [-l[l.length - 1 - j]!] := by
  have hl : (negs l).length = l.length := by unfold negs; simp
  rw [take_snoc (by omega)]
  congr 2
  unfold negs
  rw [rev_get! (by rw [List.length_map]; omega), List.length_map, map_get! (by omega)]
def tuL (d : Dt) (i : Nat) : List Nt := ((d.notes.take i).filter fun n => decide (n.kind ≠ 3)).map tuN
theorem tuL_snoc {d : Dt} {i : Nat} (h : i < d.notes.length) : tuL d (i + 1) = if d.notes[i]!.kind = 3 then tuL d i else tuL d i ++ [tuN d.notes[i]!] := by
  unfold tuL
  rw [take_snoc h, List.filter_append]
  by_cases e : d.notes[i]!.kind = 3
  · rw [if_pos e, List.filter_cons, if_neg (fun h => absurd e (of_decide_eq_true h)), List.filter_nil, List.append_nil]
  · rw [if_neg e, List.filter_cons, if_pos (decide_eq_true e), List.filter_nil, List.map_append]; rfl
theorem tuL_len {d : Dt} {i : Nat} : (tuL d i).length ≤ d.notes.length := by
  unfold tuL
  rw [List.length_map]
  refine Nat.le_trans (List.length_filter_le _ _) ?_
  rw [List.length_take]; omega
theorem tuL_all {d : Dt} : tuL d d.notes.length = (tuD d).notes := by unfold tuL tuD; rw [List.take_length]
set_option maxRecDepth 10000 in
set_option maxHeartbeats 4000000 in
theorem turned_to {d : Dt} (hn : d.notes.length ≤ 1000) (hb : ∀ n ∈ d.notes, (-5000 ≤ n.lo ∧ n.lo ≤ 5000 ∧ -5000 ≤ n.hi ∧ n.hi ≤ 5000) ∧ n.ys.length ≤ 20 ∧ ∀ y ∈ n.ys, -5000 ≤ y ∧ y ≤ 5000) {o1 o2 : Option Bool} : Ans Try.prog (AA b) 29 [encD o1 o2 d] (fun v => v = encD none (some false) (tuD d)) := by
  refine Ans_of Try.func29 rfl rfl ?_
  simp +contextual (maxSteps := 1000000) (disch := first | omega | (with_reducible first | refine krN ?_ | refine krS ?_ | refine krP ?_ | refine krG ?_); kernel_rfl | refine kr ?_; simp only [go_sem, reduceCtorEq]; done | fail) only [go_sem, seval, -List.reduceReplicate]
  refine wp_loop_to d.notes.length (fun i st => ∃ (h : Nat → Ob) (nq : Nat) (ex : List (Nat × Vl)), 0 < nq ∧ h 0 = .arr 6 ((tuL d i).map encN) ∧ st = ({ sl := (1, .loc (encD o1 o2 d)) :: (2, .loc (.agg [I 0, .nils, .nils])) :: (3, .loc (.agg [I d.stones, .nils, .own 0 (tuL d i).length])) :: (4, I i) :: ex, hp := h, nx := nq } : FS)) ?_ 0 (Nat.zero_le _) ⟨_, 1, _, by decide, upd_same _ _ _, rfl⟩
  rintro i st hi ⟨h, nq, ex, hq, p0, rfl⟩
  by_cases hc : i < d.notes.length
  case neg =>
    have hie : i = d.notes.length := by omega
    subst hie
    have hc' : ¬ (d.notes.length : Int) < d.notes.length := by omega
    have f1 : reify h (.own 0 (tuL d d.notes.length).length) = some (.lst 6 ((tuL d d.notes.length).map encN) false, [0]) := reify_flat (.inl p0) rfl fun n => reify_closedV _ (clN n)
    simp +contextual (maxSteps := 1000000) (disch := first | omega | (with_reducible first | refine krN ?_ | refine krS ?_ | refine krP ?_ | refine krG ?_); kernel_rfl | refine kr ?_; simp only [go_sem, reduceCtorEq, hc', f1]; done | fail) only [go_sem, seval, -List.reduceReplicate, hc', f1]
    rw [tuL_all]; rfl
  have hc' : (i : Int) < d.notes.length := by omega
  obtain ⟨⟨b1, b2, b3, b4⟩, b5, b6⟩ := hb _ (get!_mem hc)
  have hsn := tuL_snoc hc
  have htl := tuL_len (d := d) (i := i)
  by_cases e3 : d.notes[i]!.kind = 3
  · rw [if_pos e3] at hsn
    simp +contextual (maxSteps := 1000000) (disch := first | omega | (with_reducible first | refine krN ?_ | refine krS ?_ | refine krP ?_ | refine krG ?_); kernel_rfl | refine kr ?_; simp only [go_sem, reduceCtorEq, hc', hc, ix_map, e3]; done | fail) only [go_sem, seval, -List.reduceReplicate, hc', hc, ix_map, e3]
    exact ⟨h, nq, _, hq, by rw [hsn]; exact p0, by rw [hsn]⟩
  rw [if_neg e3] at hsn
  have n1 : IntKind.wrap .i64 (-d.notes[i]!.hi) = -d.notes[i]!.hi := wrap_i64 (by omega) (by omega)
  have n2 : IntKind.wrap .i64 (-d.notes[i]!.lo) = -d.notes[i]!.lo := wrap_i64 (by omega) (by omega)
  have hlw : IntKind.wrap .i64 ((d.notes[i]!.ys.length : Int) - 1) = (d.notes[i]!.ys.length : Int) - 1 := wrap_i64 (by omega) (by omega)
  have hlo : (tuN d.notes[i]!).lo = if d.notes[i]!.kind = 1 then d.notes[i]!.lo else -d.notes[i]!.hi := rfl
  have hhi : (tuN d.notes[i]!).hi = if d.notes[i]!.kind = 1 then d.notes[i]!.hi else -d.notes[i]!.lo := rfl
  have hnt : encN (tuN d.notes[i]!) = .agg [I d.notes[i]!.kind, I d.notes[i]!.stone, I d.notes[i]!.other, .lst 1 ((negs d.notes[i]!.ys).map I) false, I (tuN d.notes[i]!).lo, I (tuN d.notes[i]!).hi] := rfl
  have hng : (negs d.notes[i]!.ys).length = d.notes[i]!.ys.length := by unfold negs; simp
  obtain ⟨K, hK⟩ : ∃ K, d.notes[i]!.kind = K := ⟨_, rfl⟩
  rw [hK] at e3 hlo hhi hnt
  rcases Classical.em (K = 1) with e1 | e1
  · rw [if_pos e1] at hlo hhi
    subst e1
    simp +contextual (maxSteps := 1000000) (disch := first | omega | (with_reducible first | refine krN ?_ | refine krS ?_ | refine krP ?_ | refine krG ?_); kernel_rfl | refine kr ?_; simp only [go_sem, reduceCtorEq, hc', hc, ix_map, hK, e3, n1, n2, hlw, wc28, Int.zero_sub]; done | fail) only [go_sem, seval, -List.reduceReplicate, hc', hc, ix_map, hK, e3, n1, n2, hlw, wc28, Int.zero_sub]
    rw [← hlo, ← hhi]
    refine wp_loop_to d.notes[i]!.ys.length (fun j st => ∃ (h : Nat → Ob) (z : Int) (ex : List (Nat × Vl)), z = (d.notes[i]!.ys.length : Int) - 1 - j ∧ h 0 = .arr 6 ((tuL d i).map encN) ∧ h nq = .arr 1 (((negs d.notes[i]!.ys).take j).map I) ∧ st = ({ sl := (1, .loc (encD o1 o2 d)) :: (2, .loc (.agg [I 0, .nils, .nils])) :: (3, .loc (.agg [I d.stones, .nils, .own 0 (tuL d i).length])) :: (4, I i) :: (5, .loc (.agg [I 1, I d.notes[i]!.stone, I d.notes[i]!.other, .own nq j, I (tuN d.notes[i]!).lo, I (tuN d.notes[i]!).hi])) :: (6, SL 1 (d.notes[i]!.ys.map I) d.notes[i]!.fl) :: (7, I z) :: ex, hp := h, nx := nq + 1 } : FS)) ?_ 0 (Nat.zero_le _) ⟨_, (d.notes[i]!.ys.length : Int) - 1, _, by omega, by rw [upd_ne _ _ (by omega)]; exact p0, upd_same _ _ _, rfl⟩
    clear p0
    rintro j st hj ⟨h, z, ex, hz, p0, p1, rfl⟩
    by_cases hcj : j < d.notes[i]!.ys.length
    · have hz0 : 0 ≤ z := by omega
      have hzn : z.toNat = d.notes[i]!.ys.length - 1 - j := by omega
      have hzl : z < d.notes[i]!.ys.length := by omega
      have hby := b6 _ (get!_mem (show d.notes[i]!.ys.length - 1 - j < d.notes[i]!.ys.length by omega))
      have hwy : IntKind.wrap .i64 (-d.notes[i]!.ys[d.notes[i]!.ys.length - 1 - j]!) = -d.notes[i]!.ys[d.notes[i]!.ys.length - 1 - j]! := wrap_i64 (by omega) (by omega)
      have hwz : IntKind.wrap .i64 (z - 1) = z - 1 := wrap_i64 (by omega) (by omega)
      have hap := fun (lc : List (Nat × Vl)) (x : Vl) (o : Bool) (nx : Nat) => ap26b (m := ⟨lc, h, nx⟩) (x := x) (o := o) p1 (by rw [List.length_map, List.length_take]; omega) (show j < 100000 by omega)
      have hsnj := negs_snoc hcj
      simp +contextual (maxSteps := 1000000) (disch := first | omega | (with_reducible first | refine krN ?_ | refine krS ?_ | refine krP ?_ | refine krG ?_); kernel_rfl | refine kr ?_; simp only [go_sem, reduceCtorEq, hz0, hzn, hzl, ix_map, Int.zero_sub, hwy, hwz, hap, hcj]; done | fail) only [go_sem, seval, -List.reduceReplicate, hz0, hzn, hzl, ix_map, Int.zero_sub, hwy, hwz, hap, hcj]
      refine ⟨_, _, _, by omega, ?_, ?_, rfl⟩
      · rw [upd_ne _ _ (by omega)]; exact p0
      · rw [upd_same, hsnj, List.map_append]
    · have hje : j = d.notes[i]!.ys.length := by omega
      subst hje
      have hz0 : ¬ 0 ≤ z := by omega
      have htk : (negs d.notes[i]!.ys).take d.notes[i]!.ys.length = negs d.notes[i]!.ys := by rw [← hng, List.take_length]
      rw [htk] at p1
      have f1 : reify h (.own nq d.notes[i]!.ys.length) = some (.lst 1 ((negs d.notes[i]!.ys).map I) false, [nq]) := reify_flat (.inl p1) hng fun _ => rfl
      have p3 : killHp [nq] h 0 = .arr 6 ((tuL d i).map encN) := by rw [killHp_one, upd_ne _ _ (by omega)]; exact p0
      obtain ⟨h2, e2⟩ : ∃ h2, h2 = killHp [nq] h := ⟨_, rfl⟩
      rw [← e2] at p3
      have hap := fun (lc : List (Nat × Vl)) (x : Vl) (o : Bool) (nx : Nat) => ap23q (m := ⟨lc, h2, nx⟩) (x := x) (o := o) p3 (by rw [List.length_map]) (show (tuL d i).length < 100000 by omega)
      have hlen : (tuL d (i + 1)).length = (tuL d i).length + 1 := by rw [hsn, List.length_append]; rfl
      simp +contextual (maxSteps := 1000000) (disch := first | omega | (with_reducible first | refine krN ?_ | refine krS ?_ | refine krP ?_ | refine krG ?_); kernel_rfl | refine kr ?_; simp only [go_sem, reduceCtorEq, hz0, f1, ← e2, hap, hc]; done | fail) only [go_sem, seval, -List.reduceReplicate, hz0, f1, ← e2, hap, hc]
      have hte : (⟨1, d.notes[i]!.stone, d.notes[i]!.other, (tuN d.notes[i]!).lo, (tuN d.notes[i]!).hi, negs d.notes[i]!.ys, some false⟩ : Nt) = tuN d.notes[i]! := by
        have h : tuN d.notes[i]! = ⟨d.notes[i]!.kind, d.notes[i]!.stone, d.notes[i]!.other, (tuN d.notes[i]!).lo, (tuN d.notes[i]!).hi, negs d.notes[i]!.ys, some false⟩ := rfl
        rw [hK] at h
        exact h.symm
      refine ⟨_, nq + 1, [], by omega, ?_, by rw [hlen]⟩
      rw [upd_same, hsn, List.map_append, List.map_append, hte]
  · rw [if_neg e1] at hlo hhi
    skip
    simp +contextual (maxSteps := 1000000) (disch := first | omega | (with_reducible first | refine krN ?_ | refine krS ?_ | refine krP ?_ | refine krG ?_); kernel_rfl | refine kr ?_; simp only [go_sem, reduceCtorEq, hc', hc, ix_map, hK, e3, e1, n1, n2, hlw, wc28, Int.zero_sub]; done | fail) only [go_sem, seval, -List.reduceReplicate, hc', hc, ix_map, hK, e3, e1, n1, n2, hlw, wc28, Int.zero_sub]
    rw [← hlo, ← hhi]
    refine wp_loop_to d.notes[i]!.ys.length (fun j st => ∃ (h : Nat → Ob) (z : Int) (ex : List (Nat × Vl)), z = (d.notes[i]!.ys.length : Int) - 1 - j ∧ h 0 = .arr 6 ((tuL d i).map encN) ∧ h nq = .arr 1 (((negs d.notes[i]!.ys).take j).map I) ∧ st = ({ sl := (1, .loc (encD o1 o2 d)) :: (2, .loc (.agg [I 0, .nils, .nils])) :: (3, .loc (.agg [I d.stones, .nils, .own 0 (tuL d i).length])) :: (4, I i) :: (5, .loc (.agg [I K, I d.notes[i]!.stone, I d.notes[i]!.other, .own nq j, I (tuN d.notes[i]!).lo, I (tuN d.notes[i]!).hi])) :: (6, SL 1 (d.notes[i]!.ys.map I) d.notes[i]!.fl) :: (7, I z) :: ex, hp := h, nx := nq + 1 } : FS)) ?_ 0 (Nat.zero_le _) ⟨_, (d.notes[i]!.ys.length : Int) - 1, _, by omega, by rw [upd_ne _ _ (by omega)]; exact p0, upd_same _ _ _, rfl⟩
    clear p0
    rintro j st hj ⟨h, z, ex, hz, p0, p1, rfl⟩
    by_cases hcj : j < d.notes[i]!.ys.length
    · have hz0 : 0 ≤ z := by omega
      have hzn : z.toNat = d.notes[i]!.ys.length - 1 - j := by omega
      have hzl : z < d.notes[i]!.ys.length := by omega
      have hby := b6 _ (get!_mem (show d.notes[i]!.ys.length - 1 - j < d.notes[i]!.ys.length by omega))
      have hwy : IntKind.wrap .i64 (-d.notes[i]!.ys[d.notes[i]!.ys.length - 1 - j]!) = -d.notes[i]!.ys[d.notes[i]!.ys.length - 1 - j]! := wrap_i64 (by omega) (by omega)
      have hwz : IntKind.wrap .i64 (z - 1) = z - 1 := wrap_i64 (by omega) (by omega)
      have hap := fun (lc : List (Nat × Vl)) (x : Vl) (o : Bool) (nx : Nat) => ap26b (m := ⟨lc, h, nx⟩) (x := x) (o := o) p1 (by rw [List.length_map, List.length_take]; omega) (show j < 100000 by omega)
      have hsnj := negs_snoc hcj
      simp +contextual (maxSteps := 1000000) (disch := first | omega | (with_reducible first | refine krN ?_ | refine krS ?_ | refine krP ?_ | refine krG ?_); kernel_rfl | refine kr ?_; simp only [go_sem, reduceCtorEq, hz0, hzn, hzl, ix_map, Int.zero_sub, hwy, hwz, hap, hcj]; done | fail) only [go_sem, seval, -List.reduceReplicate, hz0, hzn, hzl, ix_map, Int.zero_sub, hwy, hwz, hap, hcj]
      refine ⟨_, _, _, by omega, ?_, ?_, rfl⟩
      · rw [upd_ne _ _ (by omega)]; exact p0
      · rw [upd_same, hsnj, List.map_append]
    · have hje : j = d.notes[i]!.ys.length := by omega
      subst hje
      have hz0 : ¬ 0 ≤ z := by omega
      have htk : (negs d.notes[i]!.ys).take d.notes[i]!.ys.length = negs d.notes[i]!.ys := by rw [← hng, List.take_length]
      rw [htk] at p1
      have f1 : reify h (.own nq d.notes[i]!.ys.length) = some (.lst 1 ((negs d.notes[i]!.ys).map I) false, [nq]) := reify_flat (.inl p1) hng fun _ => rfl
      have p3 : killHp [nq] h 0 = .arr 6 ((tuL d i).map encN) := by rw [killHp_one, upd_ne _ _ (by omega)]; exact p0
      obtain ⟨h2, e2⟩ : ∃ h2, h2 = killHp [nq] h := ⟨_, rfl⟩
      rw [← e2] at p3
      have hap := fun (lc : List (Nat × Vl)) (x : Vl) (o : Bool) (nx : Nat) => ap23q (m := ⟨lc, h2, nx⟩) (x := x) (o := o) p3 (by rw [List.length_map]) (show (tuL d i).length < 100000 by omega)
      have hlen : (tuL d (i + 1)).length = (tuL d i).length + 1 := by rw [hsn, List.length_append]; rfl
      simp +contextual (maxSteps := 1000000) (disch := first | omega | (with_reducible first | refine krN ?_ | refine krS ?_ | refine krP ?_ | refine krG ?_); kernel_rfl | refine kr ?_; simp only [go_sem, reduceCtorEq, hz0, f1, ← e2, hap, hc]; done | fail) only [go_sem, seval, -List.reduceReplicate, hz0, f1, ← e2, hap, hc]
      have hte : (⟨K, d.notes[i]!.stone, d.notes[i]!.other, (tuN d.notes[i]!).lo, (tuN d.notes[i]!).hi, negs d.notes[i]!.ys, some false⟩ : Nt) = tuN d.notes[i]! := by
        have h : tuN d.notes[i]! = ⟨d.notes[i]!.kind, d.notes[i]!.stone, d.notes[i]!.other, (tuN d.notes[i]!).lo, (tuN d.notes[i]!).hi, negs d.notes[i]!.ys, some false⟩ := rfl
        rw [hK] at h
        exact h.symm
      refine ⟨_, nq + 1, [], by omega, ?_, by rw [hlen]⟩
      rw [upd_same, hsn, List.map_append, List.map_append, hte]
end Go.Proofs
namespace Go.Proofs
open Go Go.Idl Go.Dt
set_option linter.unusedSimpArgs false
variable {b : Nat}
@[reducible] def encP (p : Nat × Nt) : Vl := .agg [I p.2.kind, I p.2.stone, I p.2.other, .own p.1 p.2.ys.length, I p.2.lo, I p.2.hi]
set_option maxRecDepth 10000 in
set_option maxHeartbeats 4000000 in
theorem copyN_to {d : Dt} (he : d.eras.length ≤ 1000) (hn : d.notes.length ≤ 1000) (hy : ∀ n ∈ d.notes, n.ys.length ≤ 1000) {o1 o2 : Option Bool} {hp : Nat → Ob} {nx : Nat} :
    HAns Try.prog (AA b) 18 [encD o1 o2 d] hp nx fun v hp' nx' => ∃ P : List (Nat × Nt), P.length = d.notes.length ∧ (∀ j, j < d.notes.length → P[j]! = (nx + 2 + j, d.notes[j]!)) ∧ v = .agg [I d.stones, .own nx d.eras.length, .own (nx + 1) d.notes.length] ∧ hp' nx = .arr 2 (d.eras.map encS) ∧ hp' (nx + 1) = .arr 6 (P.map encP) ∧ ∀ j, j < d.notes.length → hp' (nx + 2 + j) = .arr 1 ((d.notes[j]!).ys.map I) := by
  refine HAns_of Try.func18 rfl ?_
  have he' : d.eras.length ≤ 100000 := by omega
  simp +contextual (maxSteps := 1000000) (disch := first | omega | (with_reducible first | refine krN ?_ | refine krS ?_ | refine krP ?_ | refine krG ?_); kernel_rfl | refine kr ?_; simp only [go_sem, reduceCtorEq, wc58, he']; done | fail) only [go_sem, seval, -List.reduceReplicate, wc58, he']
  refine wp_loop_to d.notes.length (fun i st => ∃ (h : Nat → Ob) (P : List (Nat × Nt)) (ex : List (Nat × Vl)), P.length = i ∧ (∀ j, j < i → P[j]! = (nx + 2 + j, d.notes[j]!)) ∧ h nx = .arr 2 (d.eras.map encS) ∧ h (nx + 1) = .arr 6 (P.map encP) ∧ (∀ j, j < i → h (nx + 2 + j) = .arr 1 ((d.notes[j]!).ys.map I)) ∧
    st = ({ sl := (1, .loc (.agg [I d.stones, .own nx d.eras.length, .own (nx + 1) i])) :: (2, .loc (.agg [I 0, .nils, .nils])) :: (3, SL 6 (d.notes.map encN) o2) :: (4, I i) :: ex, hp := h, nx := nx + 2 + i } : FS)) ?_ 0 (Nat.zero_le _) ⟨_, [], _, rfl, fun j h => absurd h (Nat.not_lt_zero _), by rw [upd_ne _ _ (by omega), upd_same], upd_same _ _ _, fun j h => absurd h (Nat.not_lt_zero _), rfl⟩
  rintro i st hi ⟨h, P, ex, hPl, hP, h1, h2, h3, rfl⟩
  by_cases hc : i < d.notes.length
  · have hyl := hy _ (get!_mem hc)
    have hyl' : (d.notes[i]!).ys.length ≤ 100000 := by omega
    have hap : ∀ (x : Vl) (t : Bool), isAppend Try.prog 23 23 (.own (nx + 1) i) (.lst 6 [x] t) { lc := [], hp := upd h (nx + 2 + i) (.arr 1 ((d.notes[i]!).ys.map I)), nx := nx + 2 + i + 1 } = some (.own (nx + 1) (i + 1), { lc := [], hp := upd (upd h (nx + 2 + i) (.arr 1 ((d.notes[i]!).ys.map I))) (nx + 1) (.arr 6 (P.map encP ++ [x])), nx := nx + 2 + i + 1 }) := fun x t =>
      app1_own (by rw [td23]) (by show upd h _ _ (nx + 1) = _; rw [upd_ne _ _ (by omega)]; exact h2) (by rw [List.length_map]; exact hPl) (grow_ok rfl rfl (by decide) (by decide) (by omega))
    simp +contextual (maxSteps := 1000000) (disch := first | omega | (with_reducible first | refine krN ?_ | refine krS ?_ | refine krP ?_ | refine krG ?_); kernel_rfl | refine kr ?_; simp only [go_sem, reduceCtorEq, Int.ofNat_lt, hc, ix_map, wc59, hyl', hap]; done | fail) only [go_sem, seval, -List.reduceReplicate, Int.ofNat_lt, hc, ix_map, wc59, hyl', hap]
    refine ⟨_, P ++ [(nx + 2 + i, d.notes[i]!)], _, by rw [List.length_append, hPl]; rfl, fun j hj => ?_, ?_, ?_, fun j hj => ?_, rfl⟩
    · by_cases e : j < i
      · rw [get!_snoc_lt (by omega)]; exact hP j e
      · obtain rfl : j = i := by omega
        rw [get!_snoc_eq hPl]
    · rw [upd_ne _ _ (by omega), upd_ne _ _ (by omega)]; exact h1
    · rw [upd_same, List.map_append]; rfl
    · rw [upd_ne _ _ (by omega)]
      by_cases e : j < i
      · rw [upd_ne _ _ (by omega)]; exact h3 j e
      · obtain rfl : j = i := by omega
        exact upd_same _ _ _
  · have hie : i = d.notes.length := by omega
    subst hie
    simp +contextual (maxSteps := 1000000) (disch := first | omega | (with_reducible first | refine krN ?_ | refine krS ?_ | refine krP ?_ | refine krG ?_); kernel_rfl | refine kr ?_; simp only [go_sem, reduceCtorEq, Int.lt_irrefl]; done | fail) only [go_sem, seval, -List.reduceReplicate, Int.lt_irrefl]
    exact ⟨P, hPl, hP, h1, h2, h3⟩
@[reducible] def movP (y : Int) (p : Nat × Nt) : Nat × Nt := (p.1, ⟨p.2.kind, p.2.stone, p.2.other, if p.2.kind = 2 then p.2.lo + y else p.2.lo, if p.2.kind = 2 then p.2.hi + y else p.2.hi, p.2.ys, p.2.fl⟩)
set_option maxRecDepth 10000 in
set_option maxHeartbeats 4000000 in
theorem moved_to {d : Dt} {y : Int} (hyb : -500 ≤ y ∧ y ≤ 500) (he : d.eras.length ≤ 1000) (heb : ∀ s ∈ d.eras, -5000 ≤ s.1 ∧ s.1 ≤ 5000 ∧ -5000 ≤ s.2 ∧ s.2 ≤ 5000) (hn : d.notes.length ≤ 1000) (hb : ∀ n ∈ d.notes, (-5000 ≤ n.lo ∧ n.lo ≤ 5000 ∧ -5000 ≤ n.hi ∧ n.hi ≤ 5000) ∧ n.ys.length ≤ 20 ∧ ∀ y ∈ n.ys, -5000 ≤ y ∧ y ≤ 5000) {o1 o2 : Option Bool} : Ans Try.prog (AA b) 26 [encD o1 o2 d, I y] (fun v => v = encD (some false) (some false) (shD y d)) := by
  refine Ans_of Try.func26 rfl rfl ?_
  simp +contextual (maxSteps := 1000000) (disch := first | omega | (with_reducible first | refine krN ?_ | refine krS ?_ | refine krP ?_ | refine krG ?_); kernel_rfl | refine kr ?_; simp only [go_sem, reduceCtorEq]; done | fail) only [go_sem, seval, -List.reduceReplicate]
  refine wc_heap (by simp only [mkAnn, K18]) rfl (copyN_to he hn (fun n hn => by have := (hb n hn).2.1; omega)) ?_
  rintro v h nx ⟨P, hPl, hP, rfl, p0, p1, p2⟩
  simp only [Nat.zero_add] at hP p0 p1 p2 ⊢
  simp +contextual (maxSteps := 1000000) (disch := first | omega | (with_reducible first | refine krN ?_ | refine krS ?_ | refine krP ?_ | refine krG ?_); kernel_rfl | refine kr ?_; simp only [go_sem, reduceCtorEq]; done | fail) only [go_sem, seval, -List.reduceReplicate]
  refine wp_loop_to d.eras.length (fun i st => ∃ (h : Nat → Ob) (Q : List (Int × Int)) (ex : List (Nat × Vl)), Q.length = d.eras.length ∧ (∀ j, j < d.eras.length → Q[j]! = if j < i then shS y d.eras[j]! else d.eras[j]!) ∧ h 0 = .arr 2 (Q.map encS) ∧ h 1 = .arr 6 (P.map encP) ∧ (∀ j, j < d.notes.length → h (2 + j) = .arr 1 ((d.notes[j]!).ys.map I)) ∧
    st = ({ sl := (1, I y) :: (4, .loc (.agg [I 0, .nils, .nils])) :: (5, .loc (.agg [I d.stones, .own 0 d.eras.length, .own 1 d.notes.length])) :: (6, I i) :: ex, hp := h, nx := nx } : FS)) ?_ 0 (Nat.zero_le _) ⟨_, d.eras, _, rfl, fun j _ => by rw [if_neg (Nat.not_lt_zero _)], p0, p1, p2, rfl⟩
  clear p0 p1 p2 h
  rintro i st hi ⟨h, Q, ex, hQl, hQ, p0, p1, p2, rfl⟩
  by_cases hc : i < d.eras.length
  · have hQi := hQ i hc
    rw [if_neg (Nat.lt_irrefl _)] at hQi
    have hbi := heb _ (get!_mem hc)
    rw [← hQi] at hbi
    have x1 := fun (lc : List (Nat × Vl)) (eb : Nat) (ez : Vl) => ixM (lc := lc) (n' := nx) (eb := eb) (ez := ez) (kd := .i64) (i := (i : Int)) p0 hQl (by omega) (by omega) (by decide)
    have x2 := fun (lc : List (Nat × Vl)) (ag : Bool) (sz off : Nat) => rdM (lc := lc) (n' := nx) (off := off) (ag := ag) (sz := sz) p0 hQl hc
    have x4 := fun (lc : List (Nat × Vl)) => wrM (lc := lc) (n' := nx) (off := 0) (v := Sp (Q[i]!.1 + y) (Q[i]!.2 + y)) (y := shS y Q[i]!) p0 hQl hc rfl
    have hw1 : IntKind.wrap .i64 (Q[i]!.1 + y) = Q[i]!.1 + y := wrap_i64 (by omega) (by omega)
    have hw2 : IntKind.wrap .i64 (Q[i]!.2 + y) = Q[i]!.2 + y := wrap_i64 (by omega) (by omega)
    simp +contextual (maxSteps := 1000000) (disch := first | omega | (with_reducible first | refine krN ?_ | refine krS ?_ | refine krP ?_ | refine krG ?_); kernel_rfl | refine kr ?_; simp only [go_sem, reduceCtorEq, Int.ofNat_lt, hc, x1, x2, encS, hw1, hw2, wc28, x4]; done | fail) only [go_sem, seval, -List.reduceReplicate, Int.ofNat_lt, hc, x1, x2, encS, hw1, hw2, wc28, x4]
    refine ⟨_, Q.set i (shS y Q[i]!), _, by rw [List.length_set]; exact hQl, fun j hj => ?_, upd_same _ _ _, by rw [upd_ne _ _ (by omega)]; exact p1, fun j hj => by rw [upd_ne _ _ (by omega)]; exact p2 j hj, rfl⟩
    rw [get!_set (by omega)]
    by_cases e : i = j
    · subst e; rw [if_pos rfl, if_pos (by omega), hQi]
    · rw [if_neg e, hQ j hj]
      by_cases e2 : j < i
      · rw [if_pos e2, if_pos (by omega)]
      · rw [if_neg e2, if_neg (by omega)]
  have hie : i = d.eras.length := by omega
  subst hie
  have hQe : Q = (shD y d).eras := by
    unfold shD
    apply List.ext_getElem (by rw [List.length_map]; exact hQl)
    intro j h1 h2
    rw [List.getElem_map, ← get!_eq h1, hQ j (by omega), if_pos (by omega), get!_eq (by omega)]
  simp +contextual (maxSteps := 1000000) (disch := first | omega | (with_reducible first | refine krN ?_ | refine krS ?_ | refine krP ?_ | refine krG ?_); kernel_rfl | refine kr ?_; simp only [go_sem, reduceCtorEq, Int.lt_irrefl]; done | fail) only [go_sem, seval, -List.reduceReplicate, Int.lt_irrefl]
  clear ex hQ
  rw [hQe] at p0 hQl
  refine wp_loop_to d.notes.length (fun k st => ∃ (h : Nat → Ob) (R : List (Nat × Nt)) (ex : List (Nat × Vl)), R.length = d.notes.length ∧ (∀ j, j < d.notes.length → R[j]! = if j < k then movP y P[j]! else P[j]!) ∧ h 0 = .arr 2 ((shD y d).eras.map encS) ∧ h 1 = .arr 6 (R.map encP) ∧ (∀ j, j < d.notes.length → h (2 + j) = .arr 1 ((if j < k then (d.notes[j]!).ys.map (· + y) else (d.notes[j]!).ys).map I)) ∧
    st = ({ sl := (1, I y) :: (4, .loc (.agg [I 0, .nils, .nils])) :: (5, .loc (.agg [I d.stones, .own 0 d.eras.length, .own 1 d.notes.length])) :: (7, I k) :: ex, hp := h, nx := nx } : FS)) ?_ 0 (Nat.zero_le _) ⟨_, P, [], hPl, fun j _ => by rw [if_neg (Nat.not_lt_zero _)], p0, p1, fun j hj => by rw [if_neg (Nat.not_lt_zero _)]; exact p2 j hj, rfl⟩
  clear p0 p1 p2 h
  rintro k st hk ⟨h, R, ex, hRl, hR, p0, p1, p2, rfl⟩
  by_cases hc : k < d.notes.length
  case neg =>
    have hke : k = d.notes.length := by omega
    subst hke
    have f1 : reify h (.own 0 d.eras.length) = some (.lst 2 ((shD y d).eras.map encS) false, [0]) := reify_flat (.inl p0) hQl fun _ => rfl
    have hg : ∀ x ∈ R, reifyF (reifyF closedV h) h (encP x) = some (encN ⟨x.2.kind, x.2.stone, x.2.other, x.2.lo, x.2.hi, (d.notes[x.1 - 2]!).ys.map (· + y), some false⟩, [x.1]) := fun x hx => by
      obtain ⟨j, hj, rfl⟩ := List.getElem_of_mem hx
      have hj' : j < d.notes.length := by omega
      have hRj := hR j hj'
      rw [if_pos hj', hP j hj', get!_eq hj] at hRj
      have q := p2 j hj'
      rw [if_pos hj'] at q
      have hm : mapR (reifyF closedV h) (((d.notes[j]!).ys.map (· + y)).map I) = some (((d.notes[j]!).ys.map (· + y)).map I, []) := by
        rw [mapR_map (f := I) (g := I) (k := fun _ => []) (fun x _ => rfl), flat_nil]
      have hlen : ((((d.notes[j]!).ys.map (· + y)).map I)).length = (d.notes[j]!).ys.length := by simp
      rw [hRj]
      show (reifyL (reifyF closedV h) h [I (d.notes[j]!).kind, I (d.notes[j]!).stone, I (d.notes[j]!).other, .own (2 + j) (d.notes[j]!).ys.length, I _, I _]).map _ = _
      simp only [reifyL, reifyF, q, hlen, if_true, hm, Option.map_some, Option.bind_some, List.nil_append, List.append_nil]
      rw [show 2 + j - 2 = j by omega]
      rfl
    have f2 := reify_arrM (.inl p1) hRl hg
    have hRe : (R.map fun x => encN ⟨x.2.kind, x.2.stone, x.2.other, x.2.lo, x.2.hi, (d.notes[x.1 - 2]!).ys.map (· + y), some false⟩) = (shD y d).notes.map encN := by
      unfold shD
      apply List.ext_getElem (by simp; exact hRl)
      intro j h1 h2
      have hj : j < R.length := by simpa using h1
      have hj' : j < d.notes.length := by omega
      have hRj := hR j hj'
      rw [if_pos hj', hP j hj', get!_eq hj] at hRj
      rw [List.getElem_map, List.getElem_map, List.getElem_map, hRj, ← get!_eq hj']
      dsimp only
      rw [show 2 + j - 2 = j by omega]
      rfl
    rw [hRe] at f2
    simp +contextual (maxSteps := 1000000) (disch := first | omega | (with_reducible first | refine krN ?_ | refine krS ?_ | refine krP ?_ | refine krG ?_); kernel_rfl | refine kr ?_; simp only [go_sem, reduceCtorEq, Int.lt_irrefl, f1, f2]; done | fail) only [go_sem, seval, -List.reduceReplicate, Int.lt_irrefl, f1, f2]
    rfl
  have hPk := hP k hc
  have hRk := hR k hc
  rw [if_neg (Nat.lt_irrefl _), hPk] at hRk
  obtain ⟨⟨b1, b2, b3, b4⟩, b5, b6⟩ := hb _ (get!_mem hc)
  have x1 := fun (lc : List (Nat × Vl)) (eb : Nat) (ez : Vl) => ixM (f := encP) (lc := lc) (n' := nx) (eb := eb) (ez := ez) (kd := .i64) (i := (k : Int)) p1 hRl (by omega) (by omega) (by decide)
  have x2 := fun (lc : List (Nat × Vl)) (ag : Bool) (sz off : Nat) => rdM (f := encP) (lc := lc) (n' := nx) (off := off) (ag := ag) (sz := sz) p1 hRl hc
  rw [hRk] at x2
  have hw1 : IntKind.wrap .i64 ((d.notes[k]!).lo + y) = (d.notes[k]!).lo + y := wrap_i64 (by omega) (by omega)
  have hw2 : IntKind.wrap .i64 ((d.notes[k]!).hi + y) = (d.notes[k]!).hi + y := wrap_i64 (by omega) (by omega)
  by_cases e2 : (d.notes[k]!).kind = 2
  · have x4 := fun (lc : List (Nat × Vl)) => wrM (f := encP) (lc := lc) (n' := nx) (off := 4) (v := Sp ((d.notes[k]!).lo + y) ((d.notes[k]!).hi + y)) (y := movP y (2 + k, d.notes[k]!)) p1 hRl hc (by rw [hRk]; unfold movP; dsimp only; rw [if_pos e2, if_pos e2]; rfl)
    simp +contextual (maxSteps := 1000000) (disch := first | omega | (with_reducible first | refine krN ?_ | refine krS ?_ | refine krP ?_ | refine krG ?_); kernel_rfl | refine kr ?_; simp only [go_sem, reduceCtorEq, Int.ofNat_lt, hc, x1, x2, e2, hw1, hw2, wc28, x4]; done | fail) only [go_sem, seval, -List.reduceReplicate, Int.ofNat_lt, hc, x1, x2, e2, hw1, hw2, wc28, x4]
    have hRn : ∀ j, j < d.notes.length → (R.set k (movP y (2 + k, d.notes[k]!)))[j]! = if j < k + 1 then movP y P[j]! else P[j]! := fun j hj => by
      rw [get!_set (by omega)]
      by_cases e : k = j
      · subst e; rw [if_pos rfl, if_pos (by omega), hPk]
      · rw [if_neg e, hR j hj]
        by_cases e2 : j < k
        · rw [if_pos e2, if_pos (by omega)]
        · rw [if_neg e2, if_neg (by omega)]
    have hRk : (R.set k (movP y (2 + k, d.notes[k]!)))[k]! = movP y (2 + k, d.notes[k]!) := by rw [get!_set (by omega), if_pos rfl]
    have hRl : (R.set k (movP y (2 + k, d.notes[k]!))).length = d.notes.length := by rw [List.length_set]; exact hRl
    clear x4
    clear x2
    clear x1
    replace p0 : upd h 1 (Ob.arr 6 ((R.set k (movP y (2 + k, d.notes[k]!))).map encP)) 0 = .arr 2 ((shD y d).eras.map encS) := by rw [upd_ne _ _ (by omega)]; exact p0
    have p3 : upd h 1 (Ob.arr 6 ((R.set k (movP y (2 + k, d.notes[k]!))).map encP)) (2 + k) = .arr 1 ((d.notes[k]!).ys.map I) := by
      have := p2 k hc
      rw [if_neg (Nat.lt_irrefl _)] at this
      rw [upd_ne _ _ (by omega)]; exact this
    replace p2 : ∀ j, j < d.notes.length → upd h 1 (Ob.arr 6 ((R.set k (movP y (2 + k, d.notes[k]!))).map encP)) (2 + j) = .arr 1 ((if j < k then (d.notes[j]!).ys.map (· + y) else (d.notes[j]!).ys).map I) := fun j hj => by rw [upd_ne _ _ (by omega)]; exact p2 j hj
    replace p1 : upd h 1 (Ob.arr 6 ((R.set k (movP y (2 + k, d.notes[k]!))).map encP)) 1 = .arr 6 ((R.set k (movP y (2 + k, d.notes[k]!))).map encP) := upd_same _ _ _
    clear hR
    generalize R.set k (movP y (2 + k, d.notes[k]!)) = R1 at hRn hRk hRl p0 p1 p2 p3 ⊢
    generalize upd h 1 (Ob.arr 6 (R1.map encP)) = h1 at p0 p1 p2 p3 ⊢
    refine wp_loop_to (d.notes[k]!).ys.length (fun j st => ∃ (h : Nat → Ob) (Y : List Int) (ex : List (Nat × Vl)), Y.length = (d.notes[k]!).ys.length ∧ (∀ i, i < (d.notes[k]!).ys.length → Y[i]! = if i < j then (d.notes[k]!).ys[i]! + y else (d.notes[k]!).ys[i]!) ∧ h 0 = .arr 2 ((shD y d).eras.map encS) ∧ h 1 = .arr 6 (R1.map encP) ∧ (∀ i, i < d.notes.length → i ≠ k → h (2 + i) = .arr 1 ((if i < k then (d.notes[i]!).ys.map (· + y) else (d.notes[i]!).ys).map I)) ∧ h (2 + k) = .arr 1 (Y.map I) ∧
      st = ({ sl := (1, I y) :: (4, .loc (.agg [I 0, .nils, .nils])) :: (5, .loc (.agg [I d.stones, .own 0 d.eras.length, .own 1 d.notes.length])) :: (7, I k) :: (8, .ep 1 d.notes.length k 0) :: (9, I j) :: ex, hp := h, nx := nx } : FS)) ?_ 0 (Nat.zero_le _) ⟨_, (d.notes[k]!).ys, _, rfl, fun j _ => by rw [if_neg (Nat.not_lt_zero _)], p0, p1, fun i hi _ => p2 i hi, p3, rfl⟩
    clear p0 p1 p2 p3
    clear h1
    rintro j st hj ⟨h, Y, ex, hYl, hY, p0, p1, p2, p3, rfl⟩
    have x2 := fun (lc : List (Nat × Vl)) => rdM (f := encP) (lc := lc) (n' := nx) (off := 3) (ag := false) (sz := 1) p1 hRl hc
    rw [hRk] at x2
    by_cases hcj : j < (d.notes[k]!).ys.length
    · have hYj := hY j hcj
      rw [if_neg (Nat.lt_irrefl _)] at hYj
      have hby := b6 _ (get!_mem hcj)
      have z1 := fun (lc : List (Nat × Vl)) (eb : Nat) (ez : Vl) => ixM (f := I) (lc := lc) (n' := nx) (eb := eb) (ez := ez) (kd := .i64) (i := (j : Int)) p3 hYl (by omega) (by omega) (by decide)
      have z2 := fun (lc : List (Nat × Vl)) (ag : Bool) (sz off : Nat) => rdM (f := I) (lc := lc) (n' := nx) (off := off) (ag := ag) (sz := sz) p3 hYl hcj
      have z4 := fun (lc : List (Nat × Vl)) => wrM (f := I) (lc := lc) (n' := nx) (off := 0) (v := I ((d.notes[k]!).ys[j]! + y)) (y := (d.notes[k]!).ys[j]! + y) p3 hYl hcj rfl
      rw [hYj] at z2
      have hwy : IntKind.wrap .i64 ((d.notes[k]!).ys[j]! + y) = (d.notes[k]!).ys[j]! + y := wrap_i64 (by omega) (by omega)
      simp +contextual (maxSteps := 1000000) (disch := first | omega | (with_reducible first | refine krN ?_ | refine krS ?_ | refine krP ?_ | refine krG ?_); kernel_rfl | refine kr ?_; simp only [go_sem, reduceCtorEq, Int.ofNat_lt, hcj, x2, z1, z2, hwy, z4]; done | fail) only [go_sem, seval, -List.reduceReplicate, Int.ofNat_lt, hcj, x2, z1, z2, hwy, z4]
      refine ⟨_, Y.set j ((d.notes[k]!).ys[j]! + y), _, by rw [List.length_set]; exact hYl, fun i hi => ?_, by rw [upd_ne _ _ (by omega)]; exact p0, by rw [upd_ne _ _ (by omega)]; exact p1, fun i hi hne => by rw [upd_ne _ _ (by omega)]; exact p2 i hi hne, upd_same _ _ _, rfl⟩
      rw [get!_set (by omega)]
      by_cases e : j = i
      · subst e; rw [if_pos rfl, if_pos (by omega)]
      · rw [if_neg e, hY i hi]
        by_cases e2 : i < j
        · rw [if_pos e2, if_pos (by omega)]
        · rw [if_neg e2, if_neg (by omega)]
    · have hje : j = (d.notes[k]!).ys.length := by omega
      subst hje
      have hYe : Y = (d.notes[k]!).ys.map (· + y) := by
        apply List.ext_getElem (by rw [List.length_map]; exact hYl)
        intro i h1 h2
        rw [List.getElem_map, ← get!_eq h1, hY i (by omega), if_pos (by omega), get!_eq (by omega)]
      simp +contextual (maxSteps := 1000000) (disch := first | omega | (with_reducible first | refine krN ?_ | refine krS ?_ | refine krP ?_ | refine krG ?_); kernel_rfl | refine kr ?_; simp only [go_sem, reduceCtorEq, Int.lt_irrefl, x2, hc]; done | fail) only [go_sem, seval, -List.reduceReplicate, Int.lt_irrefl, x2, hc]
      refine ⟨h, R1, _, hRl, hRn, p0, p1, fun i hi => ?_, rfl⟩
      by_cases e : i = k
      · subst e; rw [if_pos (by omega), p3, hYe]
      · rw [p2 i hi e]
        by_cases e2 : i < k
        · rw [if_pos e2, if_pos (by omega)]
        · rw [if_neg e2, if_neg (by omega)]
  · simp +contextual (maxSteps := 1000000) (disch := first | omega | (with_reducible first | refine krN ?_ | refine krS ?_ | refine krP ?_ | refine krG ?_); kernel_rfl | refine kr ?_; simp only [go_sem, reduceCtorEq, Int.ofNat_lt, hc, x1, x2, e2]; done | fail) only [go_sem, seval, -List.reduceReplicate, Int.ofNat_lt, hc, x1, x2, e2]
    have hmv : movP y (2 + k, d.notes[k]!) = (2 + k, d.notes[k]!) := by unfold movP; dsimp only; rw [if_neg e2, if_neg e2]
    have hRn : ∀ j, j < d.notes.length → R[j]! = if j < k + 1 then movP y P[j]! else P[j]! := fun j hj => by
      by_cases e : j = k
      · subst e; rw [if_pos (by omega), hPk, hmv, hRk]
      · rw [hR j hj]
        by_cases e2 : j < k
        · rw [if_pos e2, if_pos (by omega)]
        · rw [if_neg e2, if_neg (by omega)]
    have p3 := p2 k hc
    rw [if_neg (Nat.lt_irrefl _)] at p3
    rw [← hmv] at hRk
    clear hR
    clear x2
    clear x1
    refine wp_loop_to (d.notes[k]!).ys.length (fun j st => ∃ (h : Nat → Ob) (Y : List Int) (ex : List (Nat × Vl)), Y.length = (d.notes[k]!).ys.length ∧ (∀ i, i < (d.notes[k]!).ys.length → Y[i]! = if i < j then (d.notes[k]!).ys[i]! + y else (d.notes[k]!).ys[i]!) ∧ h 0 = .arr 2 ((shD y d).eras.map encS) ∧ h 1 = .arr 6 (R.map encP) ∧ (∀ i, i < d.notes.length → i ≠ k → h (2 + i) = .arr 1 ((if i < k then (d.notes[i]!).ys.map (· + y) else (d.notes[i]!).ys).map I)) ∧ h (2 + k) = .arr 1 (Y.map I) ∧
      st = ({ sl := (1, I y) :: (4, .loc (.agg [I 0, .nils, .nils])) :: (5, .loc (.agg [I d.stones, .own 0 d.eras.length, .own 1 d.notes.length])) :: (7, I k) :: (8, .ep 1 d.notes.length k 0) :: (9, I j) :: ex, hp := h, nx := nx } : FS)) ?_ 0 (Nat.zero_le _) ⟨_, (d.notes[k]!).ys, _, rfl, fun j _ => by rw [if_neg (Nat.not_lt_zero _)], p0, p1, fun i hi _ => p2 i hi, p3, rfl⟩
    clear p0 p1 p2 p3
    clear h
    rintro j st hj ⟨h, Y, ex, hYl, hY, p0, p1, p2, p3, rfl⟩
    have x2 := fun (lc : List (Nat × Vl)) => rdM (f := encP) (lc := lc) (n' := nx) (off := 3) (ag := false) (sz := 1) p1 hRl hc
    rw [hRk] at x2
    by_cases hcj : j < (d.notes[k]!).ys.length
    · have hYj := hY j hcj
      rw [if_neg (Nat.lt_irrefl _)] at hYj
      have hby := b6 _ (get!_mem hcj)
      have z1 := fun (lc : List (Nat × Vl)) (eb : Nat) (ez : Vl) => ixM (f := I) (lc := lc) (n' := nx) (eb := eb) (ez := ez) (kd := .i64) (i := (j : Int)) p3 hYl (by omega) (by omega) (by decide)
      have z2 := fun (lc : List (Nat × Vl)) (ag : Bool) (sz off : Nat) => rdM (f := I) (lc := lc) (n' := nx) (off := off) (ag := ag) (sz := sz) p3 hYl hcj
      have z4 := fun (lc : List (Nat × Vl)) => wrM (f := I) (lc := lc) (n' := nx) (off := 0) (v := I ((d.notes[k]!).ys[j]! + y)) (y := (d.notes[k]!).ys[j]! + y) p3 hYl hcj rfl
      rw [hYj] at z2
      have hwy : IntKind.wrap .i64 ((d.notes[k]!).ys[j]! + y) = (d.notes[k]!).ys[j]! + y := wrap_i64 (by omega) (by omega)
      simp +contextual (maxSteps := 1000000) (disch := first | omega | (with_reducible first | refine krN ?_ | refine krS ?_ | refine krP ?_ | refine krG ?_); kernel_rfl | refine kr ?_; simp only [go_sem, reduceCtorEq, Int.ofNat_lt, hcj, x2, z1, z2, hwy, z4]; done | fail) only [go_sem, seval, -List.reduceReplicate, Int.ofNat_lt, hcj, x2, z1, z2, hwy, z4]
      refine ⟨_, Y.set j ((d.notes[k]!).ys[j]! + y), _, by rw [List.length_set]; exact hYl, fun i hi => ?_, by rw [upd_ne _ _ (by omega)]; exact p0, by rw [upd_ne _ _ (by omega)]; exact p1, fun i hi hne => by rw [upd_ne _ _ (by omega)]; exact p2 i hi hne, upd_same _ _ _, rfl⟩
      rw [get!_set (by omega)]
      by_cases e : j = i
      · subst e; rw [if_pos rfl, if_pos (by omega)]
      · rw [if_neg e, hY i hi]
        by_cases e2 : i < j
        · rw [if_pos e2, if_pos (by omega)]
        · rw [if_neg e2, if_neg (by omega)]
    · have hje : j = (d.notes[k]!).ys.length := by omega
      subst hje
      have hYe : Y = (d.notes[k]!).ys.map (· + y) := by
        apply List.ext_getElem (by rw [List.length_map]; exact hYl)
        intro i h1 h2
        rw [List.getElem_map, ← get!_eq h1, hY i (by omega), if_pos (by omega), get!_eq (by omega)]
      simp +contextual (maxSteps := 1000000) (disch := first | omega | (with_reducible first | refine krN ?_ | refine krS ?_ | refine krP ?_ | refine krG ?_); kernel_rfl | refine kr ?_; simp only [go_sem, reduceCtorEq, Int.lt_irrefl, x2, hc]; done | fail) only [go_sem, seval, -List.reduceReplicate, Int.lt_irrefl, x2, hc]
      refine ⟨h, R, _, hRl, hRn, p0, p1, fun i hi => ?_, rfl⟩
      by_cases e : i = k
      · subst e; rw [if_pos (by omega), p3, hYe]
      · rw [p2 i hi e]
        by_cases e2 : i < k
        · rw [if_pos e2, if_pos (by omega)]
        · rw [if_neg e2, if_neg (by omega)]
end Go.Proofs
