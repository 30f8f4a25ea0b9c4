/- What functions of the given program do in the ideal machine (G34, G35), and the plain laws of what they answer; the conditions stand in each theorem. -/
import Derived.Test.YtencmmlmeifffaaGi
import Derived.Test.YtencmmlmeifffaaGg
import Derived.Test.YtencmmlmeifffaaGk
set_option linter.all false
set_option linter.unusedSectionVars false
set_option linter.unusedSimpArgs false
set_option linter.unusedVariables false
namespace Go.Proofs
open Go Go.Idl
set_option linter.unusedSimpArgs false
variable {b : Bool}
def HQ (g : Nat) (d : RD) (gs : List (Int × Int)) : Nat → Ob := fun i => if i = g then .arr 2 (gs.map encS) else HPr d i
section
variable {s : Int × Int} {os : List Office} {ms : List Man} {cs : List Rec} {T nx g : Nat} {F : Nat → Nat → Bool} {bs ds ys : List Int} {gs : List (Int × Int)} {lc : List (Nat × Vl)}
theorem HQ_g : HQ g ⟨s, os, ms, cs, T, T, F, true, bs, ds, ys⟩ gs g = .arr 2 (gs.map encS) := by unfold HQ; rw [if_pos rfl]
theorem HQ_3 (hg : 4 < g) : HQ g ⟨s, os, ms, cs, T, T, F, true, bs, ds, ys⟩ gs 3 = .arr 5 (ms.map encM) := by unfold HQ; rw [if_neg (by omega)]; rfl
theorem HQ_4 (hg : 4 < g) : HQ g ⟨s, os, ms, cs, T, T, F, true, bs, ds, ys⟩ gs 4 = .arr 7 (cs.map encC) := by unfold HQ; rw [if_neg (by omega)]; rfl
theorem HQ_new {d : RD} : upd (HPr d) g (.arr 2 []) = HQ g d [] := by
  funext i; by_cases e : i = g
  · subst e; rw [upd_same]; unfold HQ; rw [if_pos rfl]; rfl
  · rw [upd_ne _ _ e]; unfold HQ; rw [if_neg e]
theorem HQ_gs {gs' : List (Int × Int)} : upd (HQ g ⟨s, os, ms, cs, T, T, F, true, bs, ds, ys⟩ gs) g (.arr 2 (gs'.map encS)) = HQ g ⟨s, os, ms, cs, T, T, F, true, bs, ds, ys⟩ gs' := by
  funext i; by_cases e : i = g
  · subst e; rw [upd_same]; unfold HQ; rw [if_pos rfl]
  · rw [upd_ne _ _ e]; unfold HQ; rw [if_neg e, if_neg e]
theorem HQ_ms {ms' : List Man} (hg : 4 < g) : upd (HQ g ⟨s, os, ms, cs, T, T, F, true, bs, ds, ys⟩ gs) 3 (.arr 5 (ms'.map encM)) = HQ g ⟨s, os, ms', cs, T, T, F, true, bs, ds, ys⟩ gs := by
  funext i; by_cases e : i = 3
  · subst e; rw [upd_same, HQ_3 hg]
  · rw [upd_ne _ _ e]; unfold HQ
    split
    · rfl
    · unfold HPr; simp only [e, if_false]
theorem HQ_cs {cs' : List Rec} (hg : 4 < g) : upd (HQ g ⟨s, os, ms, cs, T, T, F, true, bs, ds, ys⟩ gs) 4 (.arr 7 (cs'.map encC)) = HQ g ⟨s, os, ms, cs', T, T, F, true, bs, ds, ys⟩ gs := by
  funext i; by_cases e : i = 4
  · subst e; rw [upd_same, HQ_4 hg]
  · rw [upd_ne _ _ e]; unfold HQ
    split
    · rfl
    · unfold HPr; simp only [e, if_false]
theorem HQ_s {a c : Int} (hg : 4 < g) : upd (HQ g ⟨s, os, ms, cs, T, T, F, true, bs, ds, ys⟩ gs) 0 (.box (.agg [.int .u64 a, .int .u64 c])) = HQ g ⟨(a, c), os, ms, cs, T, T, F, true, bs, ds, ys⟩ gs := by
  funext i; by_cases e : i = 0
  · subst e; rw [upd_same]; unfold HQ; rw [if_neg (by omega)]; rfl
  · rw [upd_ne _ _ e]; unfold HQ
    split
    · rfl
    · unfold HPr; simp only [e, if_false]
theorem ixQ3 {k eb : Nat} {ez : Vl} {i : Int} (hg : 4 < g) (hn : ms.length = k) (h0 : 0 ≤ i) (hi : i < k) : indexAddrV (.slice 5 eb ez) (.v (.own 3 k)) (.int .i64 i) { lc := lc, hp := HQ g ⟨s, os, ms, cs, T, T, F, true, bs, ds, ys⟩ gs, nx := nx } = some (.v (.ep 3 k i.toNat 0), { lc := lc, hp := HQ g ⟨s, os, ms, cs, T, T, F, true, bs, ds, ys⟩ gs, nx := nx }) :=
  indexAddr_own (HQ_3 hg) (by rw [List.length_map]; exact hn) ⟨h0, hi⟩ (by decide)
theorem rdQ3 {k j off sz : Nat} {ag : Bool} (hg : 4 < g) (hn : ms.length = k) (hj : j < k) : Mem.read { lc := lc, hp := HQ g ⟨s, os, ms, cs, T, T, F, true, bs, ds, ys⟩ gs, nx := nx } ag sz (.v (.ep 3 k j off)) = sub ag sz off (encM ms[j]!) := by
  have hl : (ms.map encM).length = k := by rw [List.length_map]; exact hn
  simp only [Mem.read, HQ_3 hg, hl, if_true]
  rw [List.getElem?_eq_getElem (by rw [hl]; exact hj), List.getElem_map, get!_eq (by omega)]
  rfl
theorem wrQ3 {k j off : Nat} {v : Vl} (hg : 4 < g) (hn : ms.length = k) (hj : j < k) : Mem.write { lc := lc, hp := HQ g ⟨s, os, ms, cs, T, T, F, true, bs, ds, ys⟩ gs, nx := nx } v (.v (.ep 3 k j off)) = (put off v (encM ms[j]!)).map fun c => { lc := lc, hp := upd (HQ g ⟨s, os, ms, cs, T, T, F, true, bs, ds, ys⟩ gs) 3 (.arr 5 ((ms.map encM).set j c)), nx := nx } := by
  have hl : (ms.map encM).length = k := by rw [List.length_map]; exact hn
  simp only [Mem.write, HQ_3 hg, hl, if_true]
  rw [List.getElem?_eq_getElem (by rw [hl]; exact hj), List.getElem_map, get!_eq (by omega)]
  rfl
theorem HQ_setQ3 {j : Nat} {a p q u v : Int} (hg : 4 < g) : upd (HQ g ⟨s, os, ms, cs, T, T, F, true, bs, ds, ys⟩ gs) 3 (.arr 5 ((ms.map encM).set j (.agg [.int .i64 a, .int .i64 p, .int .i64 q, .int .i64 u, .int .i64 v]))) = HQ g ⟨s, os, (ms.set j ⟨a, p, q, u, v⟩), cs, T, T, F, true, bs, ds, ys⟩ gs := by
  have e : (ms.map encM).set j (.agg [.int .i64 a, .int .i64 p, .int .i64 q, .int .i64 u, .int .i64 v]) = (ms.set j ⟨a, p, q, u, v⟩).map encM := by rw [List.map_set]; rfl
  rw [e, HQ_ms hg]
theorem ixQ4 {k eb : Nat} {ez : Vl} {i : Int} (hg : 4 < g) (hn : cs.length = k) (h0 : 0 ≤ i) (hi : i < k) : indexAddrV (.slice 7 eb ez) (.v (.own 4 k)) (.int .i64 i) { lc := lc, hp := HQ g ⟨s, os, ms, cs, T, T, F, true, bs, ds, ys⟩ gs, nx := nx } = some (.v (.ep 4 k i.toNat 0), { lc := lc, hp := HQ g ⟨s, os, ms, cs, T, T, F, true, bs, ds, ys⟩ gs, nx := nx }) :=
  indexAddr_own (HQ_4 hg) (by rw [List.length_map]; exact hn) ⟨h0, hi⟩ (by decide)
theorem rdQ4 {k j off sz : Nat} {ag : Bool} (hg : 4 < g) (hn : cs.length = k) (hj : j < k) : Mem.read { lc := lc, hp := HQ g ⟨s, os, ms, cs, T, T, F, true, bs, ds, ys⟩ gs, nx := nx } ag sz (.v (.ep 4 k j off)) = sub ag sz off (encC cs[j]!) := by
  have hl : (cs.map encC).length = k := by rw [List.length_map]; exact hn
  simp only [Mem.read, HQ_4 hg, hl, if_true]
  rw [List.getElem?_eq_getElem (by rw [hl]; exact hj), List.getElem_map, get!_eq (by omega)]
  rfl
theorem wrQ4 {k j off : Nat} {v : Vl} (hg : 4 < g) (hn : cs.length = k) (hj : j < k) : Mem.write { lc := lc, hp := HQ g ⟨s, os, ms, cs, T, T, F, true, bs, ds, ys⟩ gs, nx := nx } v (.v (.ep 4 k j off)) = (put off v (encC cs[j]!)).map fun c => { lc := lc, hp := upd (HQ g ⟨s, os, ms, cs, T, T, F, true, bs, ds, ys⟩ gs) 4 (.arr 7 ((cs.map encC).set j c)), nx := nx } := by
  have hl : (cs.map encC).length = k := by rw [List.length_map]; exact hn
  simp only [Mem.write, HQ_4 hg, hl, if_true]
  rw [List.getElem?_eq_getElem (by rw [hl]; exact hj), List.getElem_map, get!_eq (by omega)]
  rfl
theorem HQ_setQ4 {j : Nat} {k : Bool} {a o tw c lo hi : Int} (hg : 4 < g) : upd (HQ g ⟨s, os, ms, cs, T, T, F, true, bs, ds, ys⟩ gs) 4 (.arr 7 ((cs.map encC).set j (.agg [.bool k, .int .i64 a, .int .i64 o, .int .i64 tw, .int .i64 c, .int .i64 lo, .int .i64 hi]))) = HQ g ⟨s, os, ms, (cs.set j ⟨k, a, o, tw, c, lo, hi⟩), T, T, F, true, bs, ds, ys⟩ gs := by
  have e : (cs.map encC).set j (.agg [.bool k, .int .i64 a, .int .i64 o, .int .i64 tw, .int .i64 c, .int .i64 lo, .int .i64 hi]) = (cs.set j ⟨k, a, o, tw, c, lo, hi⟩).map encC := by rw [List.map_set]; rfl
  rw [e, HQ_cs hg]
theorem HQ_0 (hg : 4 < g) : HQ g ⟨s, os, ms, cs, T, T, F, true, bs, ds, ys⟩ gs 0 = urnO s := by unfold HQ; rw [if_neg (by omega)]; rfl
theorem UrnOk_HQ (hg : 4 < g) : UrnOk 0 (HQ g ⟨s, os, ms, cs, T, T, F, true, bs, ds, ys⟩ gs) := by unfold UrnOk urnAt; rw [HQ_0 hg]
theorem urnAt_HQ (hg : 4 < g) : urnAt 0 (HQ g ⟨s, os, ms, cs, T, T, F, true, bs, ds, ys⟩ gs) = s := by unfold urnAt; rw [HQ_0 hg]
theorem apQ {p q : Int} {o : Bool} {k : Nat} (hn : gs.length = k) (hs : k < 1000) : isAppend Try.prog 43 43 (.own g k) (.lst 2 [.agg [.int .i64 p, .int .i64 q]] o) ⟨lc, HQ g ⟨s, os, ms, cs, T, T, F, true, bs, ds, ys⟩ gs, nx⟩ = some (.own g (k + 1), ⟨lc, HQ g ⟨s, os, ms, cs, T, T, F, true, bs, ds, ys⟩ (gs ++ [(p, q)]), nx⟩) := by
  have e : HQ g ⟨s, os, ms, cs, T, T, F, true, bs, ds, ys⟩ (gs ++ [(p, q)]) = upd (HQ g ⟨s, os, ms, cs, T, T, F, true, bs, ds, ys⟩ gs) g (.arr 2 (gs.map encS ++ [.agg [.int .i64 p, .int .i64 q]])) := by
    rw [← HQ_gs (gs := gs) (gs' := gs ++ [(p, q)]), List.map_append]; rfl
  rw [e]
  exact app1_own (by rw [td43]) HQ_g (by rw [List.length_map]; exact hn) (grow_ok rfl rfl (by decide) (by decide) (by omega))
end
end Go.Proofs
namespace Go.Proofs
open Go Go.Idl
set_option linter.unusedSimpArgs false
variable {b : Bool}
section
variable {s : Int × Int} {os : List Office} {ms : List Man} {cs : List Rec} {T g : Nat} {F : Nat → Nat → Bool} {bs ds ys : List Int} {gs : List (Int × Int)}
theorem rfQ1 (hg : 4 < g) : reify (HQ g ⟨s, os, ms, cs, T, T, F, true, bs, ds, ys⟩ gs) (.own 1 os.length) = some (.lst 3 (os.map encO) false, [1]) := reify_flat (.inl (by unfold HQ; rw [if_neg (by omega)]; rfl)) rfl fun _ => rfl
theorem rfQ3 {k : Nat} (hg : 4 < g) (hk : ms.length = k) : reify (HQ g ⟨s, os, ms, cs, T, T, F, true, bs, ds, ys⟩ gs) (.own 3 k) = some (.lst 5 (ms.map encM) false, [3]) := reify_flat (.inl (HQ_3 hg)) hk fun _ => rfl
theorem rfQ4 {k : Nat} (hg : 4 < g) (hk : cs.length = k) : reify (HQ g ⟨s, os, ms, cs, T, T, F, true, bs, ds, ys⟩ gs) (.own 4 k) = some (.lst 7 (cs.map encC) false, [4]) := reify_flat (.inl (HQ_4 hg)) hk fun _ => rfl
theorem rfQ2 (hg : 5 + T ≤ g) : reify (HQ g ⟨s, os, ms, cs, T, T, F, true, bs, ds, ys⟩ gs) (.own 2 T) = some (.lst 1 ((rowsL T F).map encRow) false, 2 :: ((List.range T).map fun j => [5 + j]).flatten) := by
  have h2 : (HQ g ⟨s, os, ms, cs, T, T, F, true, bs, ds, ys⟩ gs) 2 = .arr 1 ((List.range T).map fun j => .own (5 + j) T) := by unfold HQ; rw [if_neg (by omega)]; rfl
  rw [reify_arrM (g := fun j => .lst 1 (rowB T F j) false) (k := fun j => [5 + j]) (.inl h2) (by simp) fun j hj => ?_, encRow_eq]
  have hjT := List.mem_range.1 hj
  have hr : (HQ g ⟨s, os, ms, cs, T, T, F, true, bs, ds, ys⟩ gs) (5 + j) = .arr 1 (rowB T F j) := by unfold HQ; rw [if_neg (by omega)]; exact HPr_row (d := ⟨s, os, ms, cs, T, T, F, true, bs, ds, ys⟩) hjT
  simp only [reifyF, hr]
  rw [if_pos rowB_len]
  unfold rowB
  rw [mapR_map (g := fun k => Vl.bool (F j k)) (k := fun _ => []) fun k _ => rfl, flat_nil]
  rfl
theorem killQ_g (hg : 5 + T ≤ g) (hT : 1 ≤ T) : killHp (1 :: 2 :: (((List.range T).map fun j => [5 + j]).flatten ++ [3, 4])) (HQ g ⟨s, os, ms, cs, T, T, F, true, bs, ds, ys⟩ gs) g = .arr 2 (gs.map encS) := by
  rw [killHp_ne (by
    simp only [List.mem_cons, List.mem_append, List.mem_flatten, List.mem_map, List.mem_range, List.not_mem_nil, or_false, not_or]
    refine ⟨by omega, by omega, ?_, by omega, by omega⟩
    rintro ⟨l, ⟨j, hj, rfl⟩, hm⟩
    rw [List.mem_singleton] at hm
    omega)]
  exact HQ_g
end
def nM (m : Man) : Man := ⟨m.name, m.blo, min m.bhi (m.blo + 3), max m.dlo (m.dhi - 3), m.dhi⟩
def NarC (x c : Rec) : Prop := x.kin = c.kin ∧ x.man = c.man ∧ x.office = c.office ∧ x.town = c.town ∧ x.child = c.child ∧ (c.kin = true → x.lo = c.lo ∧ x.hi = c.hi) ∧ (c.kin = false → YearsOk x.lo x.hi)
theorem nar_wf {life plo phi : Int} {T : Nat} {F : Nat → Nat → Bool} {os : List Office} {ms P : List Man} {cs Q : List Rec} (hw : WF (rollD life plo phi T F os ms cs)) (hPl : P.length = ms.length) (hQl : Q.length = cs.length) (hP : ∀ j, j < ms.length → P[j]!.name = ms[j]!.name ∧ YearsOk P[j]!.blo P[j]!.bhi ∧ YearsOk P[j]!.dlo P[j]!.dhi) (hQ : ∀ j, j < cs.length → NarC Q[j]! cs[j]!) : WF (rollD life plo phi T F os P Q) where
  os_l := hw.os_l
  os_ok := hw.os_ok
  life := hw.life
  par := hw.par
  fs_l := hw.fs_l
  fs_ok := hw.fs_ok
  ms_l := by show 1 ≤ P.length ∧ P.length ≤ 6; rw [hPl]; exact hw.ms_l
  ms_ok m h := by
    have h : m ∈ P := h
    obtain ⟨j, hj, rfl⟩ := List.getElem_of_mem h
    have := hP j (by omega)
    rw [get!_eq hj] at this
    exact this.2
  cs_l := by show Q.length ≤ 8; rw [hQl]; exact hw.cs_l
  cs_ok c h := by
    have h : c ∈ Q := h
    obtain ⟨j, hj, rfl⟩ := List.getElem_of_mem h
    have hjc : j < (rollD life plo phi T F os ms cs).cs.length := by show j < cs.length; omega
    obtain ⟨c1, c2, c3, c4⟩ := hw.cs_ok _ (get!_mem hjc)
    have := hQ j (by omega)
    rw [get!_eq hj] at this
    obtain ⟨n1, n2, n3, n4, n5, n6, n7⟩ := this
    have em : (rollD life plo phi T F os P Q).ms.length = (rollD life plo phi T F os ms cs).ms.length := hPl
    unfold RecVal
    rw [em, n1, n2, n3, n4, n5]
    refine ⟨c1, c2, fun e => ?_, fun e => ?_⟩
    · rw [(n6 e).1, (n6 e).2]; exact c3 e
    · obtain ⟨a1, a2, a3, a4, a5, _⟩ := c4 e
      exact ⟨a1, a2, a3, a4, a5, n7 e⟩
  names m h := by
    have h : m ∈ P := h
    obtain ⟨j, hj, rfl⟩ := List.getElem_of_mem h
    have := hP j (by omega)
    rw [get!_eq hj] at this
    rw [this.1]
    exact hw.names _ (get!_mem (show j < (rollD life plo phi T F os ms cs).ms.length from by show j < ms.length; omega))
  diag := hw.diag
  symm := hw.symm
set_option maxRecDepth 10000 in
set_option maxHeartbeats 8000000 in
theorem all_to {ns : List Int} (hn : ns.length ≤ 9223372036854775807) {o : Option Bool} : Ans Try.prog (AA true) 7 [SL 1 (ns.map I) o] (fun v => v = .bool true) := by
  refine Ans_of Try.func7 rfl rfl ?_
  simp +contextual (maxSteps := 1000000) (disch := first | omega | (with_reducible first | refine krN ?_ | refine krS ?_ | refine krP ?_ | refine krG ?_); kernel_rfl | refine kr ?_; simp only [go_sem, reduceCtorEq]; done | fail) only [go_sem, ↓reduceIte, Nat.reduceEqDiff, Nat.reduceAdd, Nat.reduceMul, Nat.reduceLeDiff, Nat.reduceLT, Nat.reduceBEq, bne, reduceCtorEq, Int.reduceLE, Int.reduceToNat, Int.reduceLT, Int.reduceAdd, Int.reduceSub, Int.reduceNeg, Int.cast_ofNat_Int]
  refine wc_heap (by simp only [mkAnn, K18]) rfl (newUrn_to (b := true) hn) ?_
  rintro v hp' nx' ⟨rfl, rfl, x, y, rfl⟩
  simp +contextual (maxSteps := 1000000) (disch := first | omega | (with_reducible first | refine krN ?_ | refine krS ?_ | refine krP ?_ | refine krG ?_); kernel_rfl | refine kr ?_; simp only [go_sem, reduceCtorEq]; done | fail) only [go_sem, ↓reduceIte, Nat.reduceEqDiff, Nat.reduceAdd, Nat.reduceMul, Nat.reduceLeDiff, Nat.reduceLT, Nat.reduceBEq, bne, reduceCtorEq, Int.reduceLE, Int.reduceToNat, Int.reduceLT, Int.reduceAdd, Int.reduceSub, Int.reduceNeg, Int.cast_ofNat_Int]
  refine wc_heap (by simp only [mkAnn, K17]) rfl (rollOf_to (b := true) (s := (x, y)) (men := 2) (recs := 3) (by decide) (by decide) (by decide) (by decide)) ?_
  rintro v hp' nx' ⟨s, life, plo, phi, T, F, os, ms, cs, bs, ds, ys, hR, rfl, rfl, rfl⟩
  have hw := hR.wf (by decide) (by decide)
  have hT1 := hR.T_b
  have hms2 : 1 ≤ ms.length ∧ ms.length ≤ 2 := by have := hR.ms_b; omega
  have hcs3 : cs.length ≤ 3 := by have := hR.cs_b; omega
  have hnm : ∀ j, j < ms.length → -100 ≤ ms[j]!.blo ∧ ms[j]!.blo ≤ ms[j]!.bhi ∧ ms[j]!.bhi ≤ 100 ∧ -100 ≤ ms[j]!.dlo ∧ ms[j]!.dlo ≤ ms[j]!.dhi ∧ ms[j]!.dhi ≤ 100 := fun j hj => by
    have := hR.man j hj
    have hl := hR.life_b
    unfold ManOk at this
    omega
  have hnc : ∀ j, j < cs.length → -100 ≤ cs[j]!.lo ∧ cs[j]!.lo ≤ cs[j]!.hi ∧ cs[j]!.hi ≤ 100 := fun j hj => by
    obtain ⟨a1, a2, a3, a4⟩ := hR.recs_ok.1 j hj
    have hbl := hR.bs_l
    have hm := hR.man cs[j]!.man.toNat (by omega)
    have hl := hR.life_b
    unfold ManOk at hm
    cases hk : cs[j]!.kin with
    | true => have := a3 hk; omega
    | false => have := a4 hk; omega
  clear hR
  simp +contextual (maxSteps := 1000000) (disch := first | omega | (with_reducible first | refine krN ?_ | refine krS ?_ | refine krP ?_ | refine krG ?_); kernel_rfl | refine kr ?_; simp only [go_sem, reduceCtorEq]; done | fail) only [go_sem, ↓reduceIte, Nat.reduceEqDiff, Nat.reduceAdd, Nat.reduceMul, Nat.reduceLeDiff, Nat.reduceLT, Nat.reduceBEq, bne, reduceCtorEq, Int.reduceLE, Int.reduceToNat, Int.reduceLT, Int.reduceAdd, Int.reduceSub, Int.reduceNeg, Int.cast_ofNat_Int]
  obtain ⟨g, hg⟩ : ∃ g, g = 5 + T + 1 + 1 + 1 := ⟨_, rfl⟩
  have hg4 : 4 < g := by omega
  have hgT : 5 + T ≤ g := by omega
  rw [← hg, HQ_new]
  clear hg
  refine wp_loop_to ms.length (fun i st => ∃ (P : List Man) (gs : List (Int × Int)) (ex : List (Nat × Vl)), P.length = ms.length ∧ gs.length = i ∧ (∀ j, j < i → P[j]! = nM ms[j]! ∧ gs[j]! = (P[j]!.blo, P[j]!.bhi)) ∧ (∀ j, i ≤ j → P[j]! = ms[j]!) ∧ st = ({ sl := (3, .bp 0 0) :: (4, .loc (.agg [.own 1 os.length, I life, I plo, I phi, .own 2 T, .own 3 ms.length, .own 4 cs.length])) :: (6, .own g i) :: (7, I i) :: ex, hp := HQ g ⟨s, os, P, cs, T, T, F, true, bs, ds, ys⟩ gs, nx := g + 1 } : FS)) ?_ 0 (Nat.zero_le _) ⟨ms, [], _, rfl, rfl, fun j hj => absurd hj (by omega), fun _ _ => rfl, rfl⟩
  rintro i st hi ⟨P, gs, ex, hPl, hgl, hPd, hPe, rfl⟩
  by_cases hc : i < ms.length
  · have hiP : i < P.length := by omega
    have hpg := hPe i (Nat.le_refl _)
    have hmi := hnm i hc
    simp +contextual (maxSteps := 1000000) (disch := first | omega | (with_reducible first | refine krN ?_ | refine krS ?_ | refine krP ?_ | refine krG ?_); kernel_rfl | refine kr ?_; simp only [go_sem, reduceCtorEq, Int.ofNat_lt, hc, ixQ3, rdQ3, wrQ3, HQ_setQ3, hg4, hPl, hpg, encM, List.length_set, List.set_set, get!_set_eq, hiP, apQ, hgl]; done | fail) only [go_sem, ↓reduceIte, Nat.reduceEqDiff, Nat.reduceAdd, Nat.reduceMul, Nat.reduceLeDiff, Nat.reduceLT, Nat.reduceBEq, bne, reduceCtorEq, Int.reduceLE, Int.reduceToNat, Int.reduceLT, Int.reduceAdd, Int.reduceSub, Int.reduceNeg, Int.cast_ofNat_Int, Int.ofNat_lt, hc, ixQ3, rdQ3, wrQ3, HQ_setQ3, hg4, hPl, hpg, encM, List.length_set, List.set_set, get!_set_eq, hiP, apQ, hgl]
    refine ⟨_, _, [], ?_, ?_, ?_, ?_, rfl⟩
    · rw [List.length_set]; exact hPl
    · rw [List.length_append, hgl]; rfl
    · intro j hj
      rw [get!_set hiP]
      by_cases e : i = j
      · subst e
        rw [if_pos rfl, get!_snoc_eq hgl]
        exact ⟨rfl, rfl⟩
      · rw [if_neg e, get!_snoc_lt (by omega)]
        exact hPd j (by omega)
    · intro j hj
      rw [get!_set hiP, if_neg (by omega)]
      exact hPe j (by omega)
  · have hie : i = ms.length := by omega
    subst hie
    simp +contextual (maxSteps := 1000000) (disch := first | omega | (with_reducible first | refine krN ?_ | refine krS ?_ | refine krP ?_ | refine krG ?_); kernel_rfl | refine kr ?_; simp only [go_sem, reduceCtorEq, Int.lt_irrefl]; done | fail) only [go_sem, ↓reduceIte, Nat.reduceEqDiff, Nat.reduceAdd, Nat.reduceMul, Nat.reduceLeDiff, Nat.reduceLT, Nat.reduceBEq, bne, reduceCtorEq, Int.reduceLE, Int.reduceToNat, Int.reduceLT, Int.reduceAdd, Int.reduceSub, Int.reduceNeg, Int.cast_ofNat_Int, Int.lt_irrefl]
    clear hPe hi hc ex
    have hgb : ∀ j, j < ms.length → gs[j]! = (P[j]!.blo, P[j]!.bhi) := fun j hj => (hPd j hj).2
    have hPn : ∀ j, j < ms.length → P[j]! = nM ms[j]! := fun j hj => (hPd j hj).1
    clear hPd
    refine wp_loop_to ms.length (fun i st => ∃ (gs : List (Int × Int)) (ex : List (Nat × Vl)), gs.length = ms.length + i ∧ (∀ j, j < ms.length → gs[j]! = (P[j]!.blo, P[j]!.bhi)) ∧ (∀ j, j < i → gs[ms.length + j]! = (P[j]!.dlo, P[j]!.dhi)) ∧ st = ({ sl := (3, .bp 0 0) :: (4, .loc (.agg [.own 1 os.length, I life, I plo, I phi, .own 2 T, .own 3 ms.length, .own 4 cs.length])) :: (6, .own g (ms.length + i)) :: (8, I i) :: ex, hp := HQ g ⟨s, os, P, cs, T, T, F, true, bs, ds, ys⟩ gs, nx := g + 1 } : FS)) ?_ 0 (Nat.zero_le _) ⟨gs, [], hgl, hgb, fun j hj => absurd hj (by omega), rfl⟩
    clear hgl hgb gs
    rintro i st hi ⟨gs, ex, hgl, hgb, hgd, rfl⟩
    by_cases hc : i < ms.length
    · simp +contextual (maxSteps := 1000000) (disch := first | omega | (with_reducible first | refine krN ?_ | refine krS ?_ | refine krP ?_ | refine krG ?_); kernel_rfl | refine kr ?_; simp only [go_sem, reduceCtorEq, Int.ofNat_lt, hc, ixQ3, rdQ3, hg4, hPl, encM, apQ, hgl]; done | fail) only [go_sem, ↓reduceIte, Nat.reduceEqDiff, Nat.reduceAdd, Nat.reduceMul, Nat.reduceLeDiff, Nat.reduceLT, Nat.reduceBEq, bne, reduceCtorEq, Int.reduceLE, Int.reduceToNat, Int.reduceLT, Int.reduceAdd, Int.reduceSub, Int.reduceNeg, Int.cast_ofNat_Int, Int.ofNat_lt, hc, ixQ3, rdQ3, hg4, hPl, encM, apQ, hgl]
      refine ⟨_, [], ?_, ?_, ?_, rfl⟩
      · rw [List.length_append, hgl]; rfl
      · intro j hj
        rw [get!_snoc_lt (by omega)]
        exact hgb j hj
      · intro j hj
        by_cases e : j = i
        · rw [e, get!_snoc_eq hgl]
        · rw [get!_snoc_lt (by omega)]
          exact hgd j (by omega)
    · have hie : i = ms.length := by omega
      subst hie
      simp +contextual (maxSteps := 1000000) (disch := first | omega | (with_reducible first | refine krN ?_ | refine krS ?_ | refine krP ?_ | refine krG ?_); kernel_rfl | refine kr ?_; simp only [go_sem, reduceCtorEq, Int.lt_irrefl]; done | fail) only [go_sem, ↓reduceIte, Nat.reduceEqDiff, Nat.reduceAdd, Nat.reduceMul, Nat.reduceLeDiff, Nat.reduceLT, Nat.reduceBEq, bne, reduceCtorEq, Int.reduceLE, Int.reduceToNat, Int.reduceLT, Int.reduceAdd, Int.reduceSub, Int.reduceNeg, Int.cast_ofNat_Int, Int.lt_irrefl]
      clear hi hc ex
      refine wp_loop_to cs.length (fun i st => ∃ (s : Int × Int) (Q : List Rec) (gs : List (Int × Int)) (ex : List (Nat × Vl)), Q.length = cs.length ∧ gs.length = 2 * ms.length + i ∧ (∀ j, j < ms.length → gs[j]! = (P[j]!.blo, P[j]!.bhi)) ∧ (∀ j, j < ms.length → gs[ms.length + j]! = (P[j]!.dlo, P[j]!.dhi)) ∧ (∀ j, j < i → NarC Q[j]! cs[j]! ∧ -200 ≤ Q[j]!.lo ∧ Q[j]!.hi ≤ 200 ∧ gs[2 * ms.length + j]! = (Q[j]!.lo, Q[j]!.hi)) ∧ (∀ j, i ≤ j → Q[j]! = cs[j]!) ∧ st = ({ sl := (3, .bp 0 0) :: (4, .loc (.agg [.own 1 os.length, I life, I plo, I phi, .own 2 T, .own 3 ms.length, .own 4 cs.length])) :: (6, .own g (2 * ms.length + i)) :: (9, I i) :: ex, hp := HQ g ⟨s, os, P, Q, T, T, F, true, bs, ds, ys⟩ gs, nx := g + 1 } : FS)) ?_ 0 (Nat.zero_le _) ⟨s, cs, gs, [], rfl, by omega, hgb, hgd, fun j hj => absurd hj (by omega), fun _ _ => rfl, by rw [show 2 * ms.length + 0 = ms.length + ms.length by omega]; rfl⟩
      clear hgl hgb hgd gs s
      rintro i st hi ⟨s, Q, gs, ex, hQl, hgl, hgb, hgd, hQd, hQe, rfl⟩
      by_cases hc : i < cs.length
      · have hiQ : i < Q.length := by omega
        have hqg := hQe i (Nat.le_refl _)
        have hci := hnc i hc
        have hany : ∀ s, 0 ≤ anyR s [0, 0, 2] ∧ anyR s [0, 0, 2] ≤ 2 := fun s => by
          have h := anyR_mem s (l := [0, 0, 2]) (by simp) (by simp)
          generalize anyR s [0, 0, 2] = v at h
          simp only [List.mem_cons, List.not_mem_nil, or_false] at h
          omega
        obtain ⟨_, _, k3, k4⟩ := hw.cs_ok _ (get!_mem (show i < (rollD life plo phi T F os ms cs).cs.length from hc))
        have b1 := hany s
        have b2 := hany (anyS s [0, 0, 2])
        have h2i : 2 * ms.length + i + 1 = 2 * ms.length + (i + 1) := by omega
        cases hk : cs[i]!.kin with
        | true =>
          simp +contextual (maxSteps := 1000000) (disch := first | omega | (with_reducible first | refine krN ?_ | refine krS ?_ | refine krP ?_ | refine krG ?_); kernel_rfl | refine kr ?_; simp only [go_sem, reduceCtorEq, Int.ofNat_lt, hc, ixQ4, rdQ4, wrQ4, HQ_setQ4, hg4, hQl, hqg, encC, List.length_set, List.set_set, get!_set_eq, hiQ, apQ, hgl, hk]; done | fail) only [go_sem, ↓reduceIte, Nat.reduceEqDiff, Nat.reduceAdd, Nat.reduceMul, Nat.reduceLeDiff, Nat.reduceLT, Nat.reduceBEq, bne, reduceCtorEq, Int.reduceLE, Int.reduceToNat, Int.reduceLT, Int.reduceAdd, Int.reduceSub, Int.reduceNeg, Int.cast_ofNat_Int, Int.ofNat_lt, hc, ixQ4, rdQ4, wrQ4, HQ_setQ4, hg4, hQl, hqg, encC, List.length_set, List.set_set, get!_set_eq, hiQ, apQ, hgl, hk]
          refine ⟨_, Q, _, [], hQl, ?_, ?_, ?_, ?_, fun j hj => hQe j (by omega), rfl⟩
          · rw [List.length_append, hgl]; rfl
          · intro j hj
            rw [get!_snoc_lt (by omega)]
            exact hgb j hj
          · intro j hj
            rw [get!_snoc_lt (by omega)]
            exact hgd j hj
          · intro j hj
            by_cases e : j = i
            · subst e
              rw [get!_snoc_eq hgl, hqg]
              exact ⟨⟨rfl, rfl, rfl, rfl, rfl, fun _ => ⟨rfl, rfl⟩, fun e => absurd (hk.symm.trans e) (by decide)⟩, by omega, by omega, rfl⟩
            · rw [get!_snoc_lt (by omega)]
              exact hQd j (by omega)
        | false =>
          simp +contextual (maxSteps := 1000000) (disch := first | omega | (with_reducible first | refine krN ?_ | refine krS ?_ | refine krP ?_ | refine krG ?_); kernel_rfl | refine kr ?_; simp only [go_sem, reduceCtorEq, Int.ofNat_lt, hc, ixQ4, rdQ4, wrQ4, HQ_setQ4, hg4, hQl, hqg, encC, List.length_set, List.set_set, get!_set_eq, hiQ, apQ, hgl, hk, wc36_3, UrnOk_HQ, urnAt_HQ, HQ_s]; done | fail) only [go_sem, ↓reduceIte, Nat.reduceEqDiff, Nat.reduceAdd, Nat.reduceMul, Nat.reduceLeDiff, Nat.reduceLT, Nat.reduceBEq, bne, reduceCtorEq, Int.reduceLE, Int.reduceToNat, Int.reduceLT, Int.reduceAdd, Int.reduceSub, Int.reduceNeg, Int.cast_ofNat_Int, Int.ofNat_lt, hc, ixQ4, rdQ4, wrQ4, HQ_setQ4, hg4, hQl, hqg, encC, List.length_set, List.set_set, get!_set_eq, hiQ, apQ, hgl, hk, wc36_3, UrnOk_HQ, urnAt_HQ, HQ_s]
          refine ⟨_, _, _, [], ?_, ?_, ?_, ?_, ?_, ?_, rfl⟩
          · rw [List.length_set]; exact hQl
          · rw [List.length_append, hgl]; rfl
          · intro j hj
            rw [get!_snoc_lt (by omega)]
            exact hgb j hj
          · intro j hj
            rw [get!_snoc_lt (by omega)]
            exact hgd j hj
          · intro j hj
            rw [get!_set hiQ]
            by_cases e : i = j
            · subst e
              rw [if_pos rfl, get!_snoc_eq hgl]
              refine ⟨⟨hk.symm, rfl, rfl, rfl, rfl, fun e => absurd (hk.symm.trans e) (by decide), fun _ => ?_⟩, ?_, ?_, rfl⟩
              · unfold YearsOk; simp only; omega
              · simp only; omega
              · simp only; omega
            · rw [if_neg e, get!_snoc_lt (by omega)]
              exact hQd j (by omega)
          · intro j hj
            rw [get!_set hiQ, if_neg (by omega)]
            exact hQe j (by omega)
      · have hie : i = cs.length := by omega
        subst hie
        have r1 := rfQ1 (s := s) (os := os) (ms := P) (cs := Q) (T := T) (F := F) (bs := bs) (ds := ds) (ys := ys) (gs := gs) hg4
        have r2 := rfQ2 (s := s) (os := os) (ms := P) (cs := Q) (T := T) (F := F) (bs := bs) (ds := ds) (ys := ys) (gs := gs) hgT
        have r3 := rfQ3 (s := s) (os := os) (ms := P) (cs := Q) (T := T) (F := F) (bs := bs) (ds := ds) (ys := ys) (gs := gs) hg4 hPl
        have r4 := rfQ4 (s := s) (os := os) (ms := P) (cs := Q) (T := T) (F := F) (bs := bs) (ds := ds) (ys := ys) (gs := gs) hg4 hQl
        simp +contextual (maxSteps := 1000000) (disch := first | omega | (with_reducible first | refine krN ?_ | refine krS ?_ | refine krP ?_ | refine krG ?_); kernel_rfl | refine kr ?_; simp only [go_sem, reduceCtorEq, Int.lt_irrefl, r1, r2, r3, r4]; done | fail) only [go_sem, ↓reduceIte, Nat.reduceEqDiff, Nat.reduceAdd, Nat.reduceMul, Nat.reduceLeDiff, Nat.reduceLT, Nat.reduceBEq, bne, reduceCtorEq, Int.reduceLE, Int.reduceToNat, Int.reduceLT, Int.reduceAdd, Int.reduceSub, Int.reduceNeg, Int.cast_ofNat_Int, Int.lt_irrefl, r1, r2, r3, r4]
        clear r1 r2 r3 r4
        have hkg := killQ_g (s := s) (os := os) (ms := P) (cs := Q) (T := T) (F := F) (bs := bs) (ds := ds) (ys := ys) (gs := gs) hgT hT1.1
        generalize killHp _ (HQ _ _ _) = hk at hkg ⊢
        obtain ⟨R, hRd⟩ : ∃ R, R = rollD life plo phi T F os P Q := ⟨_, rfl⟩
        have e1 : Vl.agg [.lst 3 (os.map encO) false, I life, I plo, I phi, .lst 1 ((rowsL T F).map encRow) false, .lst 5 (P.map encM) false, .lst 7 (Q.map encC) false] = encRoll (some false) (some false) (some false) (some false) R := by rw [hRd]; rfl
        have hwR : WF R := by
          rw [hRd]
          refine nar_wf hw hPl hQl (fun j hj => ?_) (fun j hj => (hQd j hj).1)
          rw [hPn j hj]
          have := hnm j hj
          unfold nM YearsOk
          refine ⟨rfl, ?_, ?_⟩ <;> simp only <;> omega
        have hbox : ∀ j, j < (givenL R).length → (givenL R)[j]!.1 ≤ (givenL R)[j]!.2 ∧ -200 ≤ (givenL R)[j]!.1 ∧ (givenL R)[j]!.2 ≤ 200 := fun j hj => by
          have hR1 : R.ms.length = ms.length := by rw [hRd]; exact hPl
          have hR2 : R.cs.length = cs.length := by rw [hRd]; exact hQl
          rw [given_len] at hj
          rcases box_split hj with h | ⟨i, h, rfl⟩ | ⟨i, h, rfl⟩
          · rw [given_b h, hRd]
            show P[j]!.blo ≤ P[j]!.bhi ∧ _ ≤ P[j]!.blo ∧ P[j]!.bhi ≤ _
            rw [hPn j (by omega)]
            have := hnm j (by omega)
            unfold nM; simp only; omega
          · rw [given_d h, hRd]
            show P[i]!.dlo ≤ P[i]!.dhi ∧ _ ≤ P[i]!.dlo ∧ P[i]!.dhi ≤ _
            rw [hPn i (by omega)]
            have := hnm i (by omega)
            unfold nM; simp only; omega
          · rw [given_y h, hRd]
            show Q[i]!.lo ≤ Q[i]!.hi ∧ _ ≤ Q[i]!.lo ∧ Q[i]!.hi ≤ _
            have h1 := hQd i (by omega)
            obtain ⟨⟨_, _, _, _, _, n6, n7⟩, n8, n9, _⟩ := h1
            have := hnc i (by omega)
            unfold YearsOk at n7
            cases hk : cs[i]!.kin with
            | true => have := n6 hk; omega
            | false => have := n7 hk; omega
        have hgs : gs = givenL R := by
          apply List.ext_getElem
          · rw [hgl, given_len, hRd]
            show _ = 2 * P.length + Q.length
            omega
          · intro i h1 h2
            have hR1 : R.ms.length = ms.length := by rw [hRd]; exact hPl
            have hR2 : R.cs.length = cs.length := by rw [hRd]; exact hQl
            have h2' := h2
            rw [given_len] at h2'
            rw [← get!_eq h1, ← get!_eq h2]
            rcases box_split h2' with h | ⟨j, h, rfl⟩ | ⟨j, h, rfl⟩
            · rw [given_b h, hgb i (by omega), hRd]; rfl
            · rw [given_d h, hR1, hgd j (by omega), hRd]; rfl
            · rw [given_y h, hR1, (hQd j (by omega)).2.2.2, hRd]; rfl
        have hN : (givenL R).length = 2 * ms.length + cs.length := by rw [← hgs]; exact hgl
        have hR1 : R.ms.length = ms.length := by rw [hRd]; exact hPl
        have hR2 : R.cs.length = cs.length := by rw [hRd]; exact hQl
        rw [e1, ← hN]
        rw [hgs] at hkg
        clear hgs hgb hgd hQd hQe hPn hRd e1 hQl hgl hPl hw hnm hnc P Q gs hc hi ex s
        have q1 : reify hk (.own g (givenL R).length) = some (.lst 2 ((givenL R).map encS) false, [g]) := reify_flat (.inl hkg) rfl fun _ => rfl
        simp +contextual (maxSteps := 1000000) (disch := first | omega | (with_reducible first | refine krN ?_ | refine krS ?_ | refine krP ?_ | refine krG ?_); kernel_rfl | refine kr ?_; simp only [go_sem, reduceCtorEq, q1]; done | fail) only [go_sem, ↓reduceIte, Nat.reduceEqDiff, Nat.reduceAdd, Nat.reduceMul, Nat.reduceLeDiff, Nat.reduceLT, Nat.reduceBEq, bne, reduceCtorEq, Int.reduceLE, Int.reduceToNat, Int.reduceLT, Int.reduceAdd, Int.reduceSub, Int.reduceNeg, Int.cast_ofNat_Int, q1]
        generalize killHp [g] hk = h0
        obtain ⟨n, hnn⟩ : ∃ n, n = g + 1 := ⟨_, rfl⟩
        rw [← hnn]
        clear q1 hkg hnn hg4 hgT hT1 g hk
        have hgl := given_len (r := R)
        have hG7 : (givenL R).length ≤ 7 := by omega
        have hmk := fun (hp : Nat → Ob) (nx : Nat) => makeSlice_nat (n := (givenL R).length) (esz := 2) (eb := 16) (z := .agg [.int .i64 0, .int .i64 0]) (m := ⟨[], hp, nx⟩) (by omega) (by omega) rfl rfl (by decide)
        have hmk1 := fun (hp : Nat → Ob) (nx : Nat) => makeSlice_nat (n := (givenL R).length) (esz := 1) (eb := 8) (z := .int .i64 0) (m := ⟨[], hp, nx⟩) (by omega) (by omega) rfl rfl (by decide)
        simp +contextual (maxSteps := 1000000) (disch := first | omega | (with_reducible first | refine krN ?_ | refine krS ?_ | refine krP ?_ | refine krG ?_); kernel_rfl | refine kr ?_; simp only [go_sem, reduceCtorEq, hmk, hmk1, HD_mk]; done | fail) only [go_sem, ↓reduceIte, Nat.reduceEqDiff, Nat.reduceAdd, Nat.reduceMul, Nat.reduceLeDiff, Nat.reduceLT, Nat.reduceBEq, bne, reduceCtorEq, Int.reduceLE, Int.reduceToNat, Int.reduceLT, Int.reduceAdd, Int.reduceSub, Int.reduceNeg, Int.cast_ofNat_Int, hmk, hmk1, HD_mk]
        obtain ⟨G, hG⟩ : ∃ G, G = givenL R := ⟨_, rfl⟩
        rw [← hG] at hbox hN hgl hG7 ⊢
        clear hmk hmk1
        have hgle : ∀ j, j < G.length → G[j]!.1 ≤ G[j]!.2 := fun j hj => (hbox j hj).1
        refine wp_loop_to G.length (fun i st => ∃ (l : List Int) (ex : List (Nat × Vl)), l.length = G.length ∧ (∀ j, j < i → l[j]! = G[j]!.1) ∧ st = ({ sl := (4, .loc (encRoll (some false) (some false) (some false) (some false) R)) :: (6, .lst 2 (G.map encS) false) :: (11, .own n G.length) :: (12, .bool false) :: (13, .own (n + 1) G.length) :: (14, I i) :: ex, hp := HD h0 n (List.replicate G.length (0, 0)) l, nx := n + 2 } : FS)) ?_ 0 (Nat.zero_le _) ⟨_, _, List.length_replicate, fun j hj => absurd hj (by omega), rfl⟩
        rintro i st hi ⟨l, ex, hll, hlo, rfl⟩
        by_cases hc : i < G.length
        · have hil : i < l.length := by omega
          simp +contextual (maxSteps := 1000000) (disch := first | omega | (with_reducible first | refine krN ?_ | refine krS ?_ | refine krP ?_ | refine krG ?_); kernel_rfl | refine kr ?_; simp only [go_sem, reduceCtorEq, Int.ofNat_lt, hc, ix_lst, encS, ixD1, wrD1, HD_setD1, hll]; done | fail) only [go_sem, ↓reduceIte, Nat.reduceEqDiff, Nat.reduceAdd, Nat.reduceMul, Nat.reduceLeDiff, Nat.reduceLT, Nat.reduceBEq, bne, reduceCtorEq, Int.reduceLE, Int.reduceToNat, Int.reduceLT, Int.reduceAdd, Int.reduceSub, Int.reduceNeg, Int.cast_ofNat_Int, Int.ofNat_lt, hc, ix_lst, encS, ixD1, wrD1, HD_setD1, hll]
          refine ⟨_, [], ?_, fun j hj => ?_, rfl⟩
          · rw [List.length_set]; exact hll
          · rw [get!_set hil]
            by_cases e : i = j
            · subst e; rw [if_pos rfl]
            · rw [if_neg e]; exact hlo j (by omega)
        · have hie : i = G.length := by omega
          subst hie
          simp +contextual (maxSteps := 1000000) (disch := first | omega | (with_reducible first | refine krN ?_ | refine krS ?_ | refine krP ?_ | refine krG ?_); kernel_rfl | refine kr ?_; simp only [go_sem, reduceCtorEq, Int.lt_irrefl]; done | fail) only [go_sem, ↓reduceIte, Nat.reduceEqDiff, Nat.reduceAdd, Nat.reduceMul, Nat.reduceLeDiff, Nat.reduceLT, Nat.reduceBEq, bne, reduceCtorEq, Int.reduceLE, Int.reduceToNat, Int.reduceLT, Int.reduceAdd, Int.reduceSub, Int.reduceNeg, Int.cast_ofNat_Int, Int.lt_irrefl]
          have hB0 : InBox G l := ⟨hll, fun j hj => by rw [hlo j hj]; exact ⟨Int.le_refl _, hgle j hj⟩⟩
          have hr0 : rk G l G.length = 0 := rk_low hlo
          have hH0 : HullOf (Seen G (LivedL R) (rk G l G.length)) G.length false (List.replicate G.length (0, 0)) := by
            refine ⟨List.length_replicate, ⟨(fun e => by cases e), fun ⟨x, hx⟩ => ?_⟩, (fun e => by cases e)⟩
            have h1 := (rk_b hgle hx.1 (Nat.le_refl _)).1
            have h2 := hx.2.2
            omega
          clear hlo hc hi ex hr0
          refine wp_loop_I (fun (μ : Nat) st => ∃ (sm more : Bool) (due : List (Int × Int)) (l : List Int) (ex : List (Nat × Vl)), l.length = G.length ∧ due.length = G.length ∧ (more = true → InBox G l ∧ HullOf (Seen G (LivedL R) (rk G l G.length)) G.length sm due ∧ μ = (wt G G.length - rk G l G.length).toNat) ∧ (more = false → HullOf (fun x => InBox G x ∧ LivedL R x) G.length sm due ∧ μ = 0) ∧ st = ({ sl := (4, .loc (encRoll (some false) (some false) (some false) (some false) R)) :: (6, .lst 2 (G.map encS) false) :: (11, .own n G.length) :: (12, .bool sm) :: (13, .own (n + 1) G.length) :: (15, .bool more) :: ex, hp := HD h0 n due l, nx := n + 2 } : FS)) (fun μ => μ) ?_ (wt G G.length - rk G l G.length).toNat ⟨false, true, _, l, [], hll, List.length_replicate, fun _ => ⟨hB0, hH0, rfl⟩, (fun e => by cases e), rfl⟩
          clear hB0 hH0 hll l
          rintro μ st ⟨sm, more, due, l, ex, hll, hdl, hT, hF, rfl⟩
          cases more with
          | true =>
            obtain ⟨hB, hH, hμ⟩ := hT rfl
            clear hT hF
            have hrb := rk_b hgle hB (Nat.le_refl _)
            have hbl : ∀ j, j < l.length → -4000 ≤ l[j]! ∧ l[j]! ≤ 4000 := fun j hj => by
              have h1 := hB.2 j (by omega)
              have h2 := hbox j (by omega)
              omega
            have hlR : l.length = 2 * R.ms.length + R.cs.length := by omega
            rcases Classical.em (LivedL R l) with hLv | hLv
            · have hw37 := fun (K : Vl → Mem → Prop) => wc37 (b := true) (h := h0) (n := n) (nx := n + 2) (due := due) (l := l) (lc := []) (R := R) hwR.toVal hlR hbl (D := true) ⟨fun _ => hLv, fun _ => rfl⟩ (o1 := some false) (o2 := some false) (o3 := some false) (o4 := some false) hll (K := K)
              simp +contextual (maxSteps := 1000000) (disch := first | omega | (with_reducible first | refine krN ?_ | refine krS ?_ | refine krP ?_ | refine krG ?_); kernel_rfl | refine kr ?_; simp only [go_sem, reduceCtorEq, hw37]; done | fail) only [go_sem, ↓reduceIte, Nat.reduceEqDiff, Nat.reduceAdd, Nat.reduceMul, Nat.reduceLeDiff, Nat.reduceLT, Nat.reduceBEq, bne, reduceCtorEq, Int.reduceLE, Int.reduceToNat, Int.reduceLT, Int.reduceAdd, Int.reduceSub, Int.reduceNeg, Int.cast_ofNat_Int, hw37]
              clear hw37
              refine wp_loop_to G.length (fun i st => ∃ (d : List (Int × Int)) (ex : List (Nat × Vl)), d.length = G.length ∧ (∀ j, j < i → d[j]! = if sm = true then (min due[j]!.1 l[j]!, max due[j]!.2 l[j]!) else (l[j]!, l[j]!)) ∧ (∀ j, i ≤ j → d[j]! = due[j]!) ∧ st = ({ sl := (4, .loc (encRoll (some false) (some false) (some false) (some false) R)) :: (6, .lst 2 (G.map encS) false) :: (11, .own n G.length) :: (12, .bool sm) :: (13, .own (n + 1) G.length) :: (16, I i) :: ex, hp := HD h0 n d l, nx := n + 2 } : FS)) ?_ 0 (Nat.zero_le _) ⟨due, _, hdl, fun j hj => absurd hj (by omega), fun _ _ => rfl, rfl⟩
              rintro i st hi ⟨d, ex, hdl', hd1, hd2, rfl⟩
              by_cases hc : i < G.length
              · have hid : i < d.length := by omega
                have hdi := hd2 i (Nat.le_refl _)
                cases hsm : sm with
                | true =>
                  simp +contextual (maxSteps := 1000000) (disch := first | omega | (with_reducible first | refine krN ?_ | refine krS ?_ | refine krP ?_ | refine krG ?_); kernel_rfl | refine kr ?_; simp only [go_sem, reduceCtorEq, Int.ofNat_lt, hc, ixD0, rdD0, wrD0, HD_setD0, ixD1, rdD1, hll, hdl', hdi, encS]; done | fail) only [go_sem, ↓reduceIte, Nat.reduceEqDiff, Nat.reduceAdd, Nat.reduceMul, Nat.reduceLeDiff, Nat.reduceLT, Nat.reduceBEq, bne, reduceCtorEq, Int.reduceLE, Int.reduceToNat, Int.reduceLT, Int.reduceAdd, Int.reduceSub, Int.reduceNeg, Int.cast_ofNat_Int, Int.ofNat_lt, hc, ixD0, rdD0, wrD0, HD_setD0, ixD1, rdD1, hll, hdl', hdi, encS]
                  refine ⟨_, [], ?_, fun j hj => ?_, fun j hj => ?_, rfl⟩
                  · rw [List.length_set]; exact hdl'
                  · rw [get!_set hid]
                    by_cases e : i = j
                    · subst e; rw [if_pos rfl]
                    · rw [if_neg e]; exact (hd1 j (by omega)).trans (by rw [hsm]; rfl)
                  · rw [get!_set hid, if_neg (by omega)]; exact hd2 j (by omega)
                | false =>
                  simp +contextual (maxSteps := 1000000) (disch := first | omega | (with_reducible first | refine krN ?_ | refine krS ?_ | refine krP ?_ | refine krG ?_); kernel_rfl | refine kr ?_; simp only [go_sem, reduceCtorEq, Int.ofNat_lt, hc, ixD0, rdD0, wrD0, HD_setD0, ixD1, rdD1, hll, hdl', hdi, encS, List.length_set, List.set_set, get!_set_eq, hid, Int.min_self, Int.max_self]; done | fail) only [go_sem, ↓reduceIte, Nat.reduceEqDiff, Nat.reduceAdd, Nat.reduceMul, Nat.reduceLeDiff, Nat.reduceLT, Nat.reduceBEq, bne, reduceCtorEq, Int.reduceLE, Int.reduceToNat, Int.reduceLT, Int.reduceAdd, Int.reduceSub, Int.reduceNeg, Int.cast_ofNat_Int, Int.ofNat_lt, hc, ixD0, rdD0, wrD0, HD_setD0, ixD1, rdD1, hll, hdl', hdi, encS, List.length_set, List.set_set, get!_set_eq, hid, Int.min_self, Int.max_self]
                  refine ⟨_, [], ?_, fun j hj => ?_, fun j hj => ?_, rfl⟩
                  · rw [List.length_set]; exact hdl'
                  · rw [get!_set hid]
                    by_cases e : i = j
                    · subst e; rw [if_pos rfl]
                    · rw [if_neg e]; exact (hd1 j (by omega)).trans (by rw [hsm]; rfl)
                  · rw [get!_set hid, if_neg (by omega)]; exact hd2 j (by omega)
              · have hie : i = G.length := by omega
                subst hie
                simp +contextual (maxSteps := 1000000) (disch := first | omega | (with_reducible first | refine krN ?_ | refine krS ?_ | refine krP ?_ | refine krG ?_); kernel_rfl | refine kr ?_; simp only [go_sem, reduceCtorEq, Int.lt_irrefl]; done | fail) only [go_sem, ↓reduceIte, Nat.reduceEqDiff, Nat.reduceAdd, Nat.reduceMul, Nat.reduceLeDiff, Nat.reduceLT, Nat.reduceBEq, bne, reduceCtorEq, Int.reduceLE, Int.reduceToNat, Int.reduceLT, Int.reduceAdd, Int.reduceSub, Int.reduceNeg, Int.cast_ofNat_Int, Int.lt_irrefl]
                have hH' : HullOf (Seen G (LivedL R) (rk G l G.length + 1)) G.length true d := hH.add (seen_add hgle hB hLv) hdl' hd1
                obtain ⟨due', hdd⟩ : ∃ x, x = d := ⟨_, rfl⟩
                rw [← hdd] at hH' ⊢
                clear hdd hd1 hd2 hdl' hi hc ex d hH hdl due
                have hdl := hH'.len
                refine wp_loop_to G.length (fun i st => ∃ (l' : List Int) (ex : List (Nat × Vl)), l'.length = G.length ∧ (∀ j, j < i → l[j]! = G[j]!.2 ∧ l'[j]! = G[j]!.1) ∧ (∀ j, i ≤ j → l'[j]! = l[j]!) ∧ st = ({ sl := (4, .loc (encRoll (some false) (some false) (some false) (some false) R)) :: (6, .lst 2 (G.map encS) false) :: (11, .own n G.length) :: (12, .bool true) :: (13, .own (n + 1) G.length) :: (17, I i) :: ex, hp := HD h0 n due' l', nx := n + 2 } : FS)) ?_ 0 (Nat.zero_le _) ⟨l, _, hll, fun j hj => absurd hj (by omega), fun _ _ => rfl, rfl⟩
                rintro i st hi ⟨l', ex, hll', hfu, hre, rfl⟩
                by_cases hci : i < G.length
                · have hil : i < l'.length := by omega
                  have hli := hre i (Nat.le_refl _)
                  by_cases heq : l[i]! = G[i]!.2
                  · simp +contextual (maxSteps := 1000000) (disch := first | omega | (with_reducible first | refine krN ?_ | refine krS ?_ | refine krP ?_ | refine krG ?_); kernel_rfl | refine kr ?_; simp only [go_sem, reduceCtorEq, Int.ofNat_lt, hci, ix_lst, encS, ixD1, rdD1, wrD1, HD_setD1, hll', hli, heq]; done | fail) only [go_sem, ↓reduceIte, Nat.reduceEqDiff, Nat.reduceAdd, Nat.reduceMul, Nat.reduceLeDiff, Nat.reduceLT, Nat.reduceBEq, bne, reduceCtorEq, Int.reduceLE, Int.reduceToNat, Int.reduceLT, Int.reduceAdd, Int.reduceSub, Int.reduceNeg, Int.cast_ofNat_Int, Int.ofNat_lt, hci, ix_lst, encS, ixD1, rdD1, wrD1, HD_setD1, hll', hli, heq]
                    refine ⟨_, [], ?_, fun j hj => ?_, fun j hj => ?_, rfl⟩
                    · rw [List.length_set]; exact hll'
                    · rw [get!_set hil]
                      by_cases e : i = j
                      · subst e; rw [if_pos rfl]; exact ⟨heq, rfl⟩
                      · rw [if_neg e]; exact hfu j (by omega)
                    · rw [get!_set hil, if_neg (by omega)]; exact hre j (by omega)
                  · have hb1 := hB.2 i hci
                    have hb2 := hbox i hci
                    simp +contextual (maxSteps := 1000000) (disch := first | omega | (with_reducible first | refine krN ?_ | refine krS ?_ | refine krP ?_ | refine krG ?_); kernel_rfl | refine kr ?_; simp only [go_sem, reduceCtorEq, Int.ofNat_lt, hci, ix_lst, encS, ixD1, rdD1, wrD1, HD_setD1, hll', hli, heq]; done | fail) only [go_sem, ↓reduceIte, Nat.reduceEqDiff, Nat.reduceAdd, Nat.reduceMul, Nat.reduceLeDiff, Nat.reduceLT, Nat.reduceBEq, bne, reduceCtorEq, Int.reduceLE, Int.reduceToNat, Int.reduceLT, Int.reduceAdd, Int.reduceSub, Int.reduceNeg, Int.cast_ofNat_Int, Int.ofNat_lt, hci, ix_lst, encS, ixD1, rdD1, wrD1, HD_setD1, hll', hli, heq]
                    have g1 : ∀ j, (l'.set i (l[i]! + 1))[j]! = if i = j then l[i]! + 1 else l'[j]! := fun j => get!_set hil
                    have hrk : rk G (l'.set i (l[i]! + 1)) G.length = rk G l G.length + 1 := rk_next (i := i) (fun j hj => (hfu j hj).1) (fun j hj => by rw [g1, if_neg (by omega)]; exact (hfu j hj).2) (by rw [g1, if_pos rfl]) (fun j hj => by rw [g1, if_neg (by omega)]; exact hre j (by omega)) hci
                    have hB' : InBox G (l'.set i (l[i]! + 1)) := by
                      refine ⟨by rw [List.length_set]; exact hll', fun j hj => ?_⟩
                      rw [g1]
                      by_cases e : i = j
                      · subst e; rw [if_pos rfl]; omega
                      · rw [if_neg e]
                        by_cases e2 : j < i
                        · rw [(hfu j e2).2]; exact ⟨Int.le_refl _, hgle j hj⟩
                        · rw [hre j (by omega)]; exact hB.2 j hj
                    have hrb := rk_b hgle hB' (Nat.le_refl _)
                    refine ⟨(wt G G.length - rk G (l'.set i (l[i]! + 1)) G.length).toNat, ⟨true, true, due', l'.set i (l[i]! + 1), [], hB'.1, hdl, fun _ => ⟨hB', by rw [hrk]; exact hH', rfl⟩, (fun e => by cases e), rfl⟩, by omega⟩
                · have hie : i = G.length := by omega
                  subst hie
                  simp +contextual (maxSteps := 1000000) (disch := first | omega | (with_reducible first | refine krN ?_ | refine krS ?_ | refine krP ?_ | refine krG ?_); kernel_rfl | refine kr ?_; simp only [go_sem, reduceCtorEq, Int.lt_irrefl]; done | fail) only [go_sem, ↓reduceIte, Nat.reduceEqDiff, Nat.reduceAdd, Nat.reduceMul, Nat.reduceLeDiff, Nat.reduceLT, Nat.reduceBEq, bne, reduceCtorEq, Int.reduceLE, Int.reduceToNat, Int.reduceLT, Int.reduceAdd, Int.reduceSub, Int.reduceNeg, Int.cast_ofNat_Int, Int.lt_irrefl]
                  have hrk : rk G l G.length = wt G G.length - 1 := rk_full fun j hj => (hfu j hj).1
                  have hfin : HullOf (fun x => InBox G x ∧ LivedL R x) G.length true due' := by
                    refine hH'.congr fun x => ⟨fun hx => ⟨hx.1, hx.2, ?_⟩, fun hx => ⟨hx.1, hx.2.1⟩⟩
                    have := rk_b hgle hx.1 (Nat.le_refl G.length)
                    omega
                  refine ⟨0, ⟨true, false, due', l', _, hll', hdl, (fun e => by cases e), fun _ => ⟨hfin, rfl⟩, rfl⟩, by omega⟩
            · have hw37 := fun (K : Vl → Mem → Prop) => wc37 (b := true) (h := h0) (n := n) (nx := n + 2) (due := due) (l := l) (lc := []) (R := R) hwR.toVal hlR hbl (D := false) ⟨(fun e => by cases e), fun e => absurd e hLv⟩ (o1 := some false) (o2 := some false) (o3 := some false) (o4 := some false) hll (K := K)
              simp +contextual (maxSteps := 1000000) (disch := first | omega | (with_reducible first | refine krN ?_ | refine krS ?_ | refine krP ?_ | refine krG ?_); kernel_rfl | refine kr ?_; simp only [go_sem, reduceCtorEq, hw37]; done | fail) only [go_sem, ↓reduceIte, Nat.reduceEqDiff, Nat.reduceAdd, Nat.reduceMul, Nat.reduceLeDiff, Nat.reduceLT, Nat.reduceBEq, bne, reduceCtorEq, Int.reduceLE, Int.reduceToNat, Int.reduceLT, Int.reduceAdd, Int.reduceSub, Int.reduceNeg, Int.cast_ofNat_Int, hw37]
              clear hw37
              have hH' : HullOf (Seen G (LivedL R) (rk G l G.length + 1)) G.length sm due := hH.congr (seen_skip hgle hB hLv)
              obtain ⟨due', hdd⟩ : ∃ x, x = due := ⟨_, rfl⟩
              rw [← hdd] at hH' ⊢
              clear hdd hH hdl due
              have hdl := hH'.len
              refine wp_loop_to G.length (fun i st => ∃ (l' : List Int) (ex : List (Nat × Vl)), l'.length = G.length ∧ (∀ j, j < i → l[j]! = G[j]!.2 ∧ l'[j]! = G[j]!.1) ∧ (∀ j, i ≤ j → l'[j]! = l[j]!) ∧ st = ({ sl := (4, .loc (encRoll (some false) (some false) (some false) (some false) R)) :: (6, .lst 2 (G.map encS) false) :: (11, .own n G.length) :: (12, .bool sm) :: (13, .own (n + 1) G.length) :: (17, I i) :: ex, hp := HD h0 n due' l', nx := n + 2 } : FS)) ?_ 0 (Nat.zero_le _) ⟨l, _, hll, fun j hj => absurd hj (by omega), fun _ _ => rfl, rfl⟩
              rintro i st hi ⟨l', ex, hll', hfu, hre, rfl⟩
              by_cases hci : i < G.length
              · have hil : i < l'.length := by omega
                have hli := hre i (Nat.le_refl _)
                by_cases heq : l[i]! = G[i]!.2
                · simp +contextual (maxSteps := 1000000) (disch := first | omega | (with_reducible first | refine krN ?_ | refine krS ?_ | refine krP ?_ | refine krG ?_); kernel_rfl | refine kr ?_; simp only [go_sem, reduceCtorEq, Int.ofNat_lt, hci, ix_lst, encS, ixD1, rdD1, wrD1, HD_setD1, hll', hli, heq]; done | fail) only [go_sem, ↓reduceIte, Nat.reduceEqDiff, Nat.reduceAdd, Nat.reduceMul, Nat.reduceLeDiff, Nat.reduceLT, Nat.reduceBEq, bne, reduceCtorEq, Int.reduceLE, Int.reduceToNat, Int.reduceLT, Int.reduceAdd, Int.reduceSub, Int.reduceNeg, Int.cast_ofNat_Int, Int.ofNat_lt, hci, ix_lst, encS, ixD1, rdD1, wrD1, HD_setD1, hll', hli, heq]
                  refine ⟨_, [], ?_, fun j hj => ?_, fun j hj => ?_, rfl⟩
                  · rw [List.length_set]; exact hll'
                  · rw [get!_set hil]
                    by_cases e : i = j
                    · subst e; rw [if_pos rfl]; exact ⟨heq, rfl⟩
                    · rw [if_neg e]; exact hfu j (by omega)
                  · rw [get!_set hil, if_neg (by omega)]; exact hre j (by omega)
                · have hb1 := hB.2 i hci
                  have hb2 := hbox i hci
                  simp +contextual (maxSteps := 1000000) (disch := first | omega | (with_reducible first | refine krN ?_ | refine krS ?_ | refine krP ?_ | refine krG ?_); kernel_rfl | refine kr ?_; simp only [go_sem, reduceCtorEq, Int.ofNat_lt, hci, ix_lst, encS, ixD1, rdD1, wrD1, HD_setD1, hll', hli, heq]; done | fail) only [go_sem, ↓reduceIte, Nat.reduceEqDiff, Nat.reduceAdd, Nat.reduceMul, Nat.reduceLeDiff, Nat.reduceLT, Nat.reduceBEq, bne, reduceCtorEq, Int.reduceLE, Int.reduceToNat, Int.reduceLT, Int.reduceAdd, Int.reduceSub, Int.reduceNeg, Int.cast_ofNat_Int, Int.ofNat_lt, hci, ix_lst, encS, ixD1, rdD1, wrD1, HD_setD1, hll', hli, heq]
                  have g1 : ∀ j, (l'.set i (l[i]! + 1))[j]! = if i = j then l[i]! + 1 else l'[j]! := fun j => get!_set hil
                  have hrk : rk G (l'.set i (l[i]! + 1)) G.length = rk G l G.length + 1 := rk_next (i := i) (fun j hj => (hfu j hj).1) (fun j hj => by rw [g1, if_neg (by omega)]; exact (hfu j hj).2) (by rw [g1, if_pos rfl]) (fun j hj => by rw [g1, if_neg (by omega)]; exact hre j (by omega)) hci
                  have hB' : InBox G (l'.set i (l[i]! + 1)) := by
                    refine ⟨by rw [List.length_set]; exact hll', fun j hj => ?_⟩
                    rw [g1]
                    by_cases e : i = j
                    · subst e; rw [if_pos rfl]; omega
                    · rw [if_neg e]
                      by_cases e2 : j < i
                      · rw [(hfu j e2).2]; exact ⟨Int.le_refl _, hgle j hj⟩
                      · rw [hre j (by omega)]; exact hB.2 j hj
                  have hrb := rk_b hgle hB' (Nat.le_refl _)
                  refine ⟨(wt G G.length - rk G (l'.set i (l[i]! + 1)) G.length).toNat, ⟨sm, true, due', l'.set i (l[i]! + 1), [], hB'.1, hdl, fun _ => ⟨hB', by rw [hrk]; exact hH', rfl⟩, (fun e => by cases e), rfl⟩, by omega⟩
              · have hie : i = G.length := by omega
                subst hie
                simp +contextual (maxSteps := 1000000) (disch := first | omega | (with_reducible first | refine krN ?_ | refine krS ?_ | refine krP ?_ | refine krG ?_); kernel_rfl | refine kr ?_; simp only [go_sem, reduceCtorEq, Int.lt_irrefl]; done | fail) only [go_sem, ↓reduceIte, Nat.reduceEqDiff, Nat.reduceAdd, Nat.reduceMul, Nat.reduceLeDiff, Nat.reduceLT, Nat.reduceBEq, bne, reduceCtorEq, Int.reduceLE, Int.reduceToNat, Int.reduceLT, Int.reduceAdd, Int.reduceSub, Int.reduceNeg, Int.cast_ofNat_Int, Int.lt_irrefl]
                have hrk : rk G l G.length = wt G G.length - 1 := rk_full fun j hj => (hfu j hj).1
                have hfin : HullOf (fun x => InBox G x ∧ LivedL R x) G.length sm due' := by
                  refine hH'.congr fun x => ⟨fun hx => ⟨hx.1, hx.2, ?_⟩, fun hx => ⟨hx.1, hx.2.1⟩⟩
                  have := rk_b hgle hx.1 (Nat.le_refl G.length)
                  omega
                refine ⟨0, ⟨sm, false, due', l', _, hll', hdl, (fun e => by cases e), fun _ => ⟨hfin, rfl⟩, rfl⟩, by omega⟩
          | false =>
            obtain ⟨hH, _⟩ := hF rfl
            clear hT hF
            simp +contextual (maxSteps := 1000000) (disch := first | omega | (with_reducible first | refine krN ?_ | refine krS ?_ | refine krP ?_ | refine krG ?_); kernel_rfl | refine kr ?_; simp only [go_sem, reduceCtorEq]; done | fail) only [go_sem, ↓reduceIte, Nat.reduceEqDiff, Nat.reduceAdd, Nat.reduceMul, Nat.reduceLeDiff, Nat.reduceLT, Nat.reduceBEq, bne, reduceCtorEq, Int.reduceLE, Int.reduceToNat, Int.reduceLT, Int.reduceAdd, Int.reduceSub, Int.reduceNeg, Int.cast_ofNat_Int]
            have h90 : ¬ ((9 : Int) = 0) := by decide
            have h09 : ¬ ((0 : Int) = 9) := by decide
            have hdl := hH.len
            rw [hG] at hH
            obtain ⟨hsv, hls⟩ := hull_solve hwR hH
            rw [hG] at hdl
            have hlR := livesV.eq_1 R
            have hyR := yearsV.eq_1 R
            cases sm with
            | false =>
              have p1 : (possF R).2 = 9 := by unfold possF; rw [if_neg (by rw [hsv]; decide)]
              rw [p1, if_neg h90] at hlR hyR
              simp +contextual (maxSteps := 1000000) (disch := first | omega | (with_reducible first | refine krN ?_ | refine krS ?_ | refine krP ?_ | refine krG ?_); kernel_rfl | refine kr ?_; simp only [go_sem, reduceCtorEq, wc16, wc20, wc22, hwR, hlR, hyR]; done | fail) only [go_sem, ↓reduceIte, Nat.reduceEqDiff, Nat.reduceAdd, Nat.reduceMul, Nat.reduceLeDiff, Nat.reduceLT, Nat.reduceBEq, bne, reduceCtorEq, Int.reduceLE, Int.reduceToNat, Int.reduceLT, Int.reduceAdd, Int.reduceSub, Int.reduceNeg, Int.cast_ofNat_Int, wc16, wc20, wc22, hwR, hlR, hyR]
            | true =>
              obtain ⟨t1, t2, t3⟩ := hls rfl
              have p1 : (possF R).2 = 0 ∧ (possF R).1 = (solveF false R).1 := by unfold possF; rw [if_pos hsv]; exact ⟨rfl, rfl⟩
              rw [if_pos p1.1, p1.2, spans_enc, spans_enc] at hlR
              rw [if_pos p1.1, p1.2, years_enc] at hyR
              have t3 : due.drop (2 * R.ms.length) = (List.range R.cs.length).map (yearP R (solveF false R).1) := t3
              have s1 : ∀ m : Mem, sliceV (.slice 2 16 (.agg [I 0, I 0])) (.lst 2 (due.map encS) false) none (some (.int .i64 (R.ms.length : Int))) none m = some (.v (.lst 2 (((List.range R.ms.length).map fun i => (solveF false R).1.getD i (0, 0)).map encS) false), m) := fun m => by rw [slice_toM (by decide) (by omega) (by omega), Int.toNat_natCast, t1]
              have s2 : ∀ m : Mem, sliceV (.slice 2 16 (.agg [I 0, I 0])) (.lst 2 (due.map encS) false) (some (.int .i64 (R.ms.length : Int))) (some (.int .i64 (2 * (R.ms.length : Int)))) none m = some (.v (.lst 2 ((((List.range R.ms.length).map fun x => 6 + x).map fun i => (solveF false R).1.getD i (0, 0)).map encS) false), m) := fun m => by rw [slice_midM (by decide) (by omega) (by omega) (by omega), Int.toNat_natCast, show (2 * (R.ms.length : Int)).toNat = 2 * R.ms.length by omega, t2]
              have s3 : ∀ m : Mem, sliceV (.slice 2 16 (.agg [I 0, I 0])) (.lst 2 (due.map encS) false) (some (.int .i64 (2 * (R.ms.length : Int)))) none none m = some (.v (.lst 2 (((List.range R.cs.length).map (yearP R (solveF false R).1)).map encS) false), m) := fun m => by rw [slice_fromM (by decide) (by omega) (by omega), show (2 * (R.ms.length : Int)).toNat = 2 * R.ms.length by omega, t3]
              have w : ∀ (A : List (Int × Int)), A.length ≤ 1000 → ∀ (m : Mem) (Q : Vl → Mem → Prop), WC Try.prog (AA true) (.fn (.func 26) [] []) [.v (.lst 2 (A.map encS) false), .v (.lst 2 (A.map encS) false)] m Q = Q (.bool true) m := fun A hA m Q => wc26 (o1 := some false) (o2 := some false) hA
              have w1 := w ((List.range R.ms.length).map fun i => (solveF false R).1.getD i (0, 0)) (by simp only [List.length_map, List.length_range]; omega)
              have w2 := w (((List.range R.ms.length).map fun x => 6 + x).map fun i => (solveF false R).1.getD i (0, 0)) (by simp only [List.length_map, List.length_range]; omega)
              have w3 := w ((List.range R.cs.length).map (yearP R (solveF false R).1)) (by simp only [List.length_map, List.length_range]; omega)
              have q1 := rfD0 (h := h0) (n := n) (due := due) (l := l) (k := G.length) (by rw [hG]; exact hdl)
              have o1 := fun (x : Operand) (lo hi mx : Option Operand) (ρ : Operand → Arg) (m : Mem) => op0_slice (P := Try.prog) (L := [4, 5]) (d := some 314) (t := 43) (x := x) (lo := lo) (hi := hi) (mx := mx) (ρ := ρ) (m := m) rfl
              have o2 := fun (x : Operand) (lo hi mx : Option Operand) (ρ : Operand → Arg) (m : Mem) => op0_slice (P := Try.prog) (L := [4, 5]) (d := some 323) (t := 43) (x := x) (lo := lo) (hi := hi) (mx := mx) (ρ := ρ) (m := m) rfl
              have o3 := fun (x : Operand) (lo hi mx : Option Operand) (ρ : Operand → Arg) (m : Mem) => op0_slice (P := Try.prog) (L := [4, 5]) (d := some 331) (t := 43) (x := x) (lo := lo) (hi := hi) (mx := mx) (ρ := ρ) (m := m) rfl
              simp +contextual (maxSteps := 1000000) (disch := first | omega | (with_reducible first | refine krN ?_ | refine krS ?_ | refine krP ?_ | refine krG ?_); kernel_rfl | refine kr ?_; simp only [go_sem, reduceCtorEq, wc16, wc20, wc22, hwR, hlR, hyR, q1, o1, o2, o3, Option.map_some, Option.map_none, s1, s2, s3, w1, w2, w3]; done | fail) only [go_sem, ↓reduceIte, Nat.reduceEqDiff, Nat.reduceAdd, Nat.reduceMul, Nat.reduceLeDiff, Nat.reduceLT, Nat.reduceBEq, bne, reduceCtorEq, Int.reduceLE, Int.reduceToNat, Int.reduceLT, Int.reduceAdd, Int.reduceSub, Int.reduceNeg, Int.cast_ofNat_Int, wc16, wc20, wc22, hwR, hlR, hyR, q1, o1, o2, o3, Option.map_some, Option.map_none, s1, s2, s3, w1, w2, w3]
end Go.Proofs
