/- What functions of the given program do in the ideal machine (G14, G17, G18, G19c, G21a), and the plain laws of what they answer; the conditions stand in each theorem. -/
import Derived.Test.YtencmmlmeifffaaGf
set_option linter.all false
set_option linter.unusedSectionVars false
set_option linter.unusedSimpArgs false
set_option linter.unusedVariables false
namespace Go.Proofs
open Go Go.Idl
set_option linter.unusedSimpArgs false
variable {b : Bool}
section
variable {s : Int × Int} {os : List Office} {ms : List Man} {cs : List Rec} {T t nx : Nat} {F : Nat → Nat → Bool} {x : Bool} {bs ds ys : List Int} {lc : List (Nat × Vl)}
end
theorem get!_set {α : Type} [Inhabited α] {l : List α} {i j : Nat} {a : α} (h : i < l.length) : (l.set i a)[j]! = if i = j then a else l[j]! := by
  by_cases hj : j < l.length
  · rw [get!_eq (by rw [List.length_set]; exact hj), List.getElem_set, get!_eq hj]
  · rw [getElem!_neg (l.set i a) j (by rw [List.length_set]; exact hj), getElem!_neg l j hj, if_neg (by omega)]
theorem get!_set_eq {α : Type} [Inhabited α] {l : List α} {i : Nat} {a : α} (h : i < l.length) : (l.set i a)[i]! = a := by rw [get!_set h, if_pos rfl]
section
variable {m : Mem} {K : Vl → Mem → Prop}
theorem span_to {lo hi : Int} : Ans Try.prog (AA b) 35 [I lo, I hi] (fun v => v = .agg [I lo, I hi]) := by
  refine Ans_of Try.func35 rfl rfl ?_
  simp +contextual (maxSteps := 1000000) (disch := first | omega | (with_reducible first | refine krN ?_ | refine krS ?_ | refine krP ?_ | refine krG ?_); kernel_rfl | refine kr ?_; simp only [go_sem, reduceCtorEq]; done | fail) only [go_sem, seval, -List.reduceReplicate]
theorem wc35 {lo hi : Int} : WC Try.prog (AA b) (.fn (.func 35) [] []) [.v (I lo), .v (I hi)] m K = K (.agg [I lo, I hi]) m := WC_flat (by simp only [mkAnn, K35]) (rfAs (xs := [I lo, I hi]) rfl) span_to rfl
end
attribute [go_sem] wc35
theorem WF.recs {life plo phi : Int} {T : Nat} {F : Nat → Nat → Bool} {os : List Office} {ms : List Man} {cs cs' : List Rec} (h : WF (rollD life plo phi T F os ms cs)) (hl : cs'.length ≤ 8) (hc : ∀ c ∈ cs', RecVal (rollD life plo phi T F os ms cs) c) : WF (rollD life plo phi T F os ms cs') :=
  { os_l := h.os_l, os_ok := h.os_ok, life := h.life, par := h.par, fs_l := h.fs_l, fs_ok := h.fs_ok, ms_l := h.ms_l, ms_ok := h.ms_ok, cs_l := hl, cs_ok := hc, names := h.names, diag := h.diag, symm := h.symm }
end Go.Proofs
namespace Go.Proofs
open Go Go.Idl
set_option linter.unusedSimpArgs false
variable {b : Bool}
structure CR where
  s : Int × Int
  os : List Office
  ms : List Man
  cs : List Rec
  fs : List (List Bool)
def farL (n : Nat) (fs : List (List Bool)) : List Vl := (List.range fs.length).map fun j => .own (n + 4 + j) (fs[j]!).length
def CPr (h : Nat → Ob) (n : Nat) (c : CR) : Nat → Ob := fun i =>
  if i = 0 then urnO c.s else if i = n then .arr 3 (c.os.map encO) else if i = n + 1 then .arr 5 (c.ms.map encM) else if i = n + 2 then .arr 7 (c.cs.map encC) else if i = n + 3 then .arr 1 (farL n c.fs)
  else if n + 4 ≤ i ∧ i < n + 4 + c.fs.length then .arr 1 ((c.fs[i - (n + 4)]!).map .bool) else h i
section
variable {h : Nat → Ob} {n : Nat} {s : Int × Int} {os : List Office} {ms : List Man} {cs : List Rec} {fs : List (List Bool)}
theorem CPr_1 (hn : 0 < n) : CPr h n ⟨s, os, ms, cs, fs⟩ n = .arr 3 (os.map encO) := by unfold CPr; rw [if_neg (by omega), if_pos rfl]
theorem CPr_3 : CPr h n ⟨s, os, ms, cs, fs⟩ (n + 1) = .arr 5 (ms.map encM) := by unfold CPr; rw [if_neg (by omega), if_neg (by omega), if_pos rfl]
theorem CPr_4 : CPr h n ⟨s, os, ms, cs, fs⟩ (n + 2) = .arr 7 (cs.map encC) := by unfold CPr; rw [if_neg (by omega), if_neg (by omega), if_neg (by omega), if_pos rfl]
theorem CPr_2 : CPr h n ⟨s, os, ms, cs, fs⟩ (n + 3) = .arr 1 (farL n fs) := by unfold CPr; rw [if_neg (by omega), if_neg (by omega), if_neg (by omega), if_neg (by omega), if_pos rfl]
theorem CPr_row {j : Nat} (hj : j < fs.length) : CPr h n ⟨s, os, ms, cs, fs⟩ (n + 4 + j) = .arr 1 ((fs[j]!).map .bool) := by
  unfold CPr
  rw [if_neg (by omega), if_neg (by omega), if_neg (by omega), if_neg (by omega), if_neg (by omega), if_pos (by simp only; omega), show n + 4 + j - (n + 4) = j by omega]
theorem UrnOk_CPr : UrnOk 0 (CPr h n ⟨s, os, ms, cs, fs⟩) := rfl
theorem urnAt_CPr : urnAt 0 (CPr h n ⟨s, os, ms, cs, fs⟩) = s := rfl
theorem CPr_s {x y : Int} : upd (CPr h n ⟨s, os, ms, cs, fs⟩) 0 (.box (.agg [.int .u64 x, .int .u64 y])) = CPr h n ⟨(x, y), os, ms, cs, fs⟩ := by
  funext i; by_cases e : i = 0
  · subst e; rfl
  · rw [upd_ne _ _ e]; unfold CPr; rw [if_neg e, if_neg e]
theorem farL_snoc {w : List Bool} : farL n (fs ++ [w]) = farL n fs ++ [.own (n + 4 + fs.length) w.length] := by
  unfold farL
  rw [List.length_append, List.length_singleton, List.range_succ, List.map_append]
  congr 1
  · refine List.map_congr_left fun j hj => ?_
    rw [get!_snoc_lt (List.mem_range.1 hj)]
  · simp only [List.map_cons, List.map_nil]; rw [get!_snoc_eq rfl]
theorem CPr_fs {w : List Bool} : upd (upd (CPr h n ⟨s, os, ms, cs, fs⟩) (n + 4 + fs.length) (.arr 1 (w.map .bool))) (n + 3) (.arr 1 (farL n fs ++ [.own (n + 4 + fs.length) w.length])) = CPr h n ⟨s, os, ms, cs, fs ++ [w]⟩ := by
  funext i; by_cases e : i = n + 3
  · subst e; rw [upd_same, CPr_2, farL_snoc]
  · rw [upd_ne _ _ e]
    by_cases e2 : i = n + 4 + fs.length
    · subst e2; rw [upd_same, CPr_row (by simp), get!_snoc_eq rfl]
    · rw [upd_ne _ _ e2]
      unfold CPr
      simp only [e, if_false, List.length_append, List.length_singleton]
      by_cases e3 : n + 4 ≤ i ∧ i < n + 4 + fs.length
      · rw [if_pos e3, if_pos (show n + 4 ≤ i ∧ i < n + 4 + (fs.length + 1) by omega), get!_snoc_lt (by omega)]
      · rw [if_neg e3, if_neg (show ¬ (n + 4 ≤ i ∧ i < n + 4 + (fs.length + 1)) by omega)]
theorem CPr_new (hn : 0 < n) (h0 : h 0 = urnO s) : upd (upd (upd (upd h n (.arr 3 (os.map encO))) (n + 1) (.arr 5 (ms.map encM))) (n + 1 + 1) (.arr 7 (cs.map encC))) (n + 1 + 1 + 1) (.arr 1 []) = CPr h n ⟨s, os, ms, cs, []⟩ := by
  funext i
  by_cases e3 : i = n + 3
  · subst e3; rw [upd_same, CPr_2]; rfl
  rw [upd_ne _ _ e3]
  by_cases e2 : i = n + 2
  · subst e2; rw [upd_same, CPr_4]
  rw [upd_ne _ _ e2]
  by_cases e1 : i = n + 1
  · subst e1; rw [upd_same, CPr_3]
  rw [upd_ne _ _ e1]
  by_cases e0 : i = n
  · subst e0; rw [upd_same, CPr_1 hn]
  rw [upd_ne _ _ e0]
  unfold CPr
  by_cases e : i = 0
  · subst e; rw [if_pos rfl, h0]
  · rw [if_neg e, if_neg e0, if_neg e1, if_neg e2, if_neg e3, if_neg (by simp only [List.length_nil]; omega)]
end
theorem app_copy {P : Program} {t e eb : Nat} {ez : Vl} {xs : List Vl} {o : Option Bool} {m : Mem} (hk : (tdOf P t).k = .slice e eb ez) (hg : okGrow eb e ez xs.length = true) : isAppend P t t (.lst e [] true) (SL e xs o) m = some (.own m.nx xs.length, { m with hp := upd m.hp m.nx (.arr e xs), nx := m.nx + 1 }) := by
  have hel : m.elems e (SL e xs o) = some xs := by
    unfold SL
    cases o with
    | none => cases xs <;> simp [Mem.elems]
    | some x => simp [Mem.elems]
  unfold isAppend appendV
  rw [hk]
  simp only
  rw [hel]
  simp only [Option.bind_some, List.length_nil, Nat.zero_add, hg, List.isEmpty_nil, Bool.true_or, Bool.and_self, beq_self_eq_true, if_true, List.nil_append]
set_option maxRecDepth 10000 in
set_option maxHeartbeats 4000000 in
theorem copy_to {r : Roll} (h1 : r.os.length ≤ 1000) (h2 : r.ms.length ≤ 1000) (h3 : r.cs.length ≤ 1000) (h4 : r.fs.length ≤ 1000) (h5 : ∀ w ∈ r.fs, w.length ≤ 1000) {o1 o2 o3 o4 : Option Bool} {hp : Nat → Ob} {nx : Nat} {s : Int × Int} (hnx : 0 < nx) (h0 : hp 0 = urnO s) :
    HAns Try.prog (AA b) 19 [encRoll o1 o2 o3 o4 r] hp nx (fun v hp' nx' => v = .agg [.own nx r.os.length, I r.life, I r.plo, I r.phi, .own (nx + 3) r.fs.length, .own (nx + 1) r.ms.length, .own (nx + 2) r.cs.length] ∧ hp' = CPr hp nx ⟨s, r.os, r.ms, r.cs, r.fs⟩ ∧ nx' = nx + 4 + r.fs.length) := by
  refine HAns_of Try.func19 rfl ?_
  have a22 := fun m : Mem => app_copy (P := Try.prog) (t := 22) (e := 3) (eb := 24) (ez := .agg [I 0, I 0, I 0]) (xs := r.os.map encO) (o := o1) (m := m) (by rw [td22]) (grow_ok rfl rfl (by decide) (by decide) (by rw [List.length_map]; omega))
  have a26 := fun m : Mem => app_copy (P := Try.prog) (t := 26) (e := 5) (eb := 40) (ez := .agg [I 0, I 0, I 0, I 0, I 0]) (xs := r.ms.map encM) (o := o3) (m := m) (by rw [td26]) (grow_ok rfl rfl (by decide) (by decide) (by rw [List.length_map]; omega))
  have a27 := fun m : Mem => app_copy (P := Try.prog) (t := 27) (e := 7) (eb := 56) (ez := .agg [.bool false, I 0, I 0, I 0, I 0, I 0, I 0]) (xs := r.cs.map encC) (o := o4) (m := m) (by rw [td27]) (grow_ok rfl rfl (by decide) (by decide) (by rw [List.length_map]; omega))
  simp +contextual (maxSteps := 1000000) (disch := first | omega | (with_reducible first | refine krN ?_ | refine krS ?_ | refine krP ?_ | refine krG ?_); kernel_rfl | refine kr ?_; simp only [go_sem, reduceCtorEq, a22, a26, a27, CPr_new, h0, hnx, List.length_map]; done | fail) only [go_sem, seval, -List.reduceReplicate, a22, a26, a27, CPr_new, h0, hnx, List.length_map]
  obtain ⟨Z, hZ⟩ : ∃ Z, Z = Vl.agg [.nils, I 0, I 0, I 0, .nils, .nils, .nils] := ⟨_, rfl⟩
  refine wp_loop_to r.fs.length (fun i st => ∃ (ex : List (Nat × Vl)), st = ({ sl := (1, .loc (.agg [.own nx r.os.length, I r.life, I r.plo, I r.phi, .own (nx + 3) i, .own (nx + 1) r.ms.length, .own (nx + 2) r.cs.length])) :: (2, .loc Z) :: (3, SL 1 (r.fs.map encRow) o2) :: (4, I i) :: ex, hp := CPr hp nx ⟨s, r.os, r.ms, r.cs, r.fs.take i⟩, nx := nx + 4 + i } : FS)) ?_ 0 (Nat.zero_le _) ⟨_, by rw [hZ]; rfl⟩
  rintro i st hi ⟨ex, rfl⟩
  by_cases hc : i < r.fs.length
  · have hti : (r.fs.take i).length = i := by rw [List.length_take]; omega
    have hwl := h5 _ (get!_mem hc)
    have a80 := fun m : Mem => app_copy (P := Try.prog) (t := 80) (e := 1) (eb := 1) (ez := .bool false) (xs := (r.fs[i]!).map .bool) (o := some false) (m := m) (by rw [td80]) (grow_ok rfl rfl (by decide) (by decide) (by rw [List.length_map]; omega))
    have hcf := CPr_fs (h := hp) (n := nx) (s := s) (os := r.os) (ms := r.ms) (cs := r.cs) (fs := r.fs.take i) (w := r.fs[i]!)
    have htk : r.fs.take (i + 1) = r.fs.take i ++ [r.fs[i]!] := take_snoc hc
    have hfl : (farL nx (r.fs.take i)).length = i := by unfold farL; rw [List.length_map, List.length_range, hti]
    rw [hti] at hcf
    have a25 := fun (x : Vl) (t : Bool) (o : Ob) (n' : Nat) => app1_own (P := Try.prog) (t := 25) (e := 1) (eb := 24) (ez := .nils) (x := x) (b := t) (id := nx + 3) (n := i) (xs := farL nx (r.fs.take i)) (m := ⟨[], upd (CPr hp nx ⟨s, r.os, r.ms, r.cs, r.fs.take i⟩) (nx + 4 + i) o, n'⟩) (by rw [td25]) ((upd_ne _ _ (by omega)).trans CPr_2) hfl (grow_ok rfl rfl (by decide) (by decide) (by omega))
    simp +contextual (maxSteps := 1000000) (disch := first | omega | (with_reducible first | refine krN ?_ | refine krS ?_ | refine krP ?_ | refine krG ?_); kernel_rfl | refine kr ?_; simp only [go_sem, reduceCtorEq, Int.ofNat_lt, hc, ix_map, encRow, a80, a25, hcf, List.length_map]; done | fail) only [go_sem, seval, -List.reduceReplicate, Int.ofNat_lt, hc, ix_map, encRow, a80, a25, hcf, List.length_map]
    exact ⟨_, by rw [htk]; rfl⟩
  · have hie : i = r.fs.length := by omega
    subst hie
    simp +contextual (maxSteps := 1000000) (disch := first | omega | (with_reducible first | refine krN ?_ | refine krS ?_ | refine krP ?_ | refine krG ?_); kernel_rfl | refine kr ?_; simp only [go_sem, reduceCtorEq, Int.lt_irrefl, hZ]; done | fail) only [go_sem, seval, -List.reduceReplicate, Int.lt_irrefl, hZ]
    rw [List.take_length]
end Go.Proofs
namespace Go.Proofs
open Go Go.Idl
set_option linter.unusedSimpArgs false
variable {b : Bool}
section
variable {h : Nat → Ob} {n : Nat} {s : Int × Int} {os : List Office} {ms : List Man} {cs : List Rec} {fs : List (List Bool)} {lc : List (Nat × Vl)} {nx : Nat}
theorem rfC1 {k : Nat} (hn0 : 0 < n) (hn : os.length = k) : reify (CPr h n ⟨s, os, ms, cs, fs⟩) (.own (n) k) = some (.lst 3 (os.map encO) false, [n]) := reify_flat (.inl (CPr_1 hn0)) hn fun _ => rfl
theorem rfC3 {k : Nat} (hn : ms.length = k) : reify (CPr h n ⟨s, os, ms, cs, fs⟩) (.own ((n + 1)) k) = some (.lst 5 (ms.map encM) false, [(n + 1)]) := reify_flat (.inl CPr_3) hn fun _ => rfl
theorem rfC4 {k : Nat} (hn : cs.length = k) : reify (CPr h n ⟨s, os, ms, cs, fs⟩) (.own ((n + 2)) k) = some (.lst 7 (cs.map encC) false, [(n + 2)]) := reify_flat (.inl CPr_4) hn fun _ => rfl
theorem rfC2 {k : Nat} (hn : fs.length = k) : reify (CPr h n ⟨s, os, ms, cs, fs⟩) (.own (n + 3) k) = some (.lst 1 (fs.map encRow) false, (n + 3) :: ((List.range fs.length).map fun j => [n + 4 + j]).flatten) := by
  have hl : (farL n fs).length = k := by unfold farL; rw [List.length_map, List.length_range]; exact hn
  unfold reify
  simp only [reifyF, CPr_2, hl, if_true]
  have e : fs.map encRow = (List.range fs.length).map fun j => Vl.lst 1 ((fs[j]!).map .bool) false := by
    apply List.ext_getElem (by simp)
    intro i h1 h2
    rw [List.getElem_map, List.getElem_map, List.getElem_range, get!_eq]
    rfl
  rw [e]
  unfold farL
  rw [mapR_map (g := fun j => Vl.lst 1 ((fs[j]!).map .bool) false) (k := fun j => [n + 4 + j]) fun j hj => ?_]
  · rfl
  · have hr := CPr_row (h := h) (n := n) (s := s) (os := os) (ms := ms) (cs := cs) (fs := fs) (List.mem_range.1 hj)
    simp only [reifyF, hr, List.length_map, if_true]
    rw [mapR_map (g := fun x => Vl.bool x) (k := fun _ => []) fun x _ => rfl, flat_nil]
    rfl
end
attribute [go_sem] UrnOk_CPr urnAt_CPr CPr_s
section
variable {α : Type} [Inhabited α] {f : α → α} {l : List α} {i : Nat}
end
end Go.Proofs
namespace Go.Proofs
open Go Go.Idl
set_option linter.unusedSimpArgs false
variable {b : Bool}
theorem killHp_low {s : Int × Int} {os : List Office} {ms : List Man} {cs : List Rec} {T : Nat} {F : Nat → Nat → Bool} {x : Bool} {bs ds ys : List Int} {hk : Nat → Ob} (hT : 1 ≤ T)
    (h : killHp (1 :: 2 :: (((List.range T).map fun j => [5 + j]).flatten ++ [3, 4])) (HPr ⟨s, os, ms, cs, T, T, F, x, bs, ds, ys⟩) = hk) : hk 0 = urnO s := by
  rw [← h]
  rw [killHp_ne (by
    simp only [List.mem_cons, List.mem_append, List.mem_flatten, List.mem_map, List.mem_range, List.not_mem_nil, or_false, not_or]
    refine ⟨by omega, by omega, ?_, by omega, by omega⟩
    rintro ⟨l, ⟨j, hj, rfl⟩, hm⟩
    rw [List.mem_singleton] at hm
    omega)]
  exact HPr_0
end Go.Proofs
namespace Go.Proofs
open Go Go.Idl
set_option linter.unusedSimpArgs false
variable {b : Bool}
def encS (p : Int × Int) : Vl := Sp p.1 p.2
section
variable {m : Mem} {K : Vl → Mem → Prop}
end
end Go.Proofs
