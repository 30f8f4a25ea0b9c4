/- What functions of the given program do in the ideal machine (G24, G25), and the plain laws of what they answer; the conditions stand in each theorem. -/
import Derived.Test.YtencmmlmeifffaaGk
import Derived.Test.YtencmmlmeifffaaGi
set_option linter.all false
set_option linter.unusedSectionVars false
set_option linter.unusedSimpArgs false
set_option linter.unusedVariables false
namespace Go.Proofs
open Go Go.Idl
set_option linter.unusedSimpArgs false
variable {b : Bool}
section
variable {h : Nat → Ob} {n : Nat} {s : Int × Int} {os : List Office} {ms : List Man} {cs : List Rec} {fs : List (List Bool)} {lc : List (Nat × Vl)} {nx : Nat}
theorem farL_len : (farL n fs).length = fs.length := by unfold farL; rw [List.length_map, List.length_range]
theorem ixCf {k j eb : Nat} {ez : Vl} (hn : fs.length = k) (hj : j < k) : indexAddrV (.slice 1 eb ez) (.v (.own (n + 3) k)) (.int .i64 (j : Int)) { lc := lc, hp := CPr h n ⟨s, os, ms, cs, fs⟩, nx := nx } = some (.v (.ep (n + 3) k j 0), { lc := lc, hp := CPr h n ⟨s, os, ms, cs, fs⟩, nx := nx }) := by
  rw [indexAddr_own CPr_2 (by rw [farL_len]; exact hn) ⟨by omega, by omega⟩ (by decide)]; rfl
theorem rdCf {k j : Nat} (hn : fs.length = k) (hj : j < k) : Mem.read { lc := lc, hp := CPr h n ⟨s, os, ms, cs, fs⟩, nx := nx } false 1 (.v (.ep (n + 3) k j 0)) = some (.own (n + 4 + j) (fs[j]!).length) := by
  have hl : (farL n fs).length = k := by rw [farL_len]; exact hn
  simp only [Mem.read, CPr_2, hl, if_true]
  unfold farL
  rw [List.getElem?_eq_getElem (by simp; omega), List.getElem_map, List.getElem_range]
  rfl
theorem ixCr {k j i eb : Nat} {ez : Vl} (hj : j < fs.length) (hn : (fs[j]!).length = k) (hi : i < k) : indexAddrV (.slice 1 eb ez) (.v (.own (n + 4 + j) k)) (.int .i64 (i : Int)) { lc := lc, hp := CPr h n ⟨s, os, ms, cs, fs⟩, nx := nx } = some (.v (.ep (n + 4 + j) k i 0), { lc := lc, hp := CPr h n ⟨s, os, ms, cs, fs⟩, nx := nx }) := by
  rw [indexAddr_own (CPr_row hj) (by rw [List.length_map]; exact hn) ⟨by omega, by omega⟩ (by decide)]; rfl
theorem farL_set {j : Nat} {w : List Bool} (hw : w.length = (fs[j]!).length) : farL n (fs.set j w) = farL n fs := by
  unfold farL
  rw [List.length_set]
  refine List.map_congr_left fun i hi => ?_
  have hi := List.mem_range.1 hi
  by_cases e : i = j
  · subst e; rw [get!_set_eq hi, hw]
  · by_cases hj : j < fs.length
    · rw [get!_set hj, if_neg (by omega)]
    · rw [List.set_eq_of_length_le (by omega)]
theorem wrCr {k j i : Nat} {y : Bool} (hj : j < fs.length) (hn : (fs[j]!).length = k) (hi : i < k) : Mem.write { lc := lc, hp := CPr h n ⟨s, os, ms, cs, fs⟩, nx := nx } (.bool y) (.v (.ep (n + 4 + j) k i 0)) = some { lc := lc, hp := CPr h n ⟨s, os, ms, cs, fs.set j ((fs[j]!).set i y)⟩, nx := nx } := by
  have hl : ((fs[j]!).map Vl.bool).length = k := by rw [List.length_map]; exact hn
  have hr := CPr_row (h := h) (n := n) (s := s) (os := os) (ms := ms) (cs := cs) hj
  simp only [Mem.write, hr, hl, if_true]
  rw [List.getElem?_eq_getElem (by rw [hl]; exact hi), List.getElem_map]
  show some ({ lc := lc, hp := upd (CPr h n ⟨s, os, ms, cs, fs⟩) (n + 4 + j) (.arr 1 (((fs[j]!).map .bool).set i (.bool y))), nx := nx } : Mem) = _
  congr 2
  have e : ((fs[j]!).map Vl.bool).set i (.bool y) = ((fs[j]!).set i y).map .bool := by rw [List.map_set]
  rw [e]
  funext a
  by_cases ha : a = n + 4 + j
  · subst ha
    rw [upd_same, CPr_row (by rw [List.length_set]; exact hj), get!_set_eq hj]
  · rw [upd_ne _ _ ha]
    unfold CPr
    simp only [List.length_set, farL_set (w := (fs[j]!).set i y) (List.length_set)]
    by_cases h1 : n + 4 ≤ a ∧ a < n + 4 + fs.length
    · have k0 : ¬ a = 0 := by omega
      have k1 : ¬ a = n := by omega
      have k2 : ¬ a = n + 1 := by omega
      have k3 : ¬ a = n + 2 := by omega
      have k4 : ¬ a = n + 3 := by omega
      simp only [k0, k1, k2, k3, k4, h1, and_self, if_false, if_true]
      rw [get!_set hj, if_neg (by omega)]
    · simp only [h1, if_false]
end
structure Milder (S R : Roll) : Prop where
  ol : S.os.length = R.os.length
  os : ∀ i, i < R.os.length → S.os[i]!.age ≤ R.os[i]!.age ∧ S.os[i]!.gap ≤ R.os[i]!.gap ∧ S.os[i]!.again ≤ R.os[i]!.again
  life : R.life ≤ S.life
  plo : S.plo ≤ R.plo
  phi : R.phi ≤ S.phi
  fl : S.fs.length = R.fs.length
  fs : ∀ i k, i < R.fs.length → k < R.fs.length → (S.fs[i]!)[k]! = true → (R.fs[i]!)[k]! = true
  ms : S.ms = R.ms
  cs : S.cs = R.cs
theorem Milder.far {S R : Roll} (h : Milder S R) (hS : Val S) (hR : Val R) {i k : Int} (h0 : 0 ≤ i) (h1 : i < R.fs.length) (h2 : 0 ≤ k) (h3 : k < R.fs.length) (e : farAt S.fs i k = true) : farAt R.fs i k = true := by
  rw [farAt_get hS.fs_ok h0 (by rw [h.fl]; exact h1) h2 (by rw [h.fl]; exact h3)] at e
  rw [farAt_get hR.fs_ok h0 h1 h2 h3]
  exact h.fs _ _ (by omega) (by omega) e
theorem Milder.off {S R : Roll} (h : Milder S R) {i : Int} (h0 : 0 ≤ i) (h1 : i < R.os.length) : (offAt S.os i).age ≤ (offAt R.os i).age ∧ (offAt S.os i).gap ≤ (offAt R.os i).gap ∧ (offAt S.os i).again ≤ (offAt R.os i).again := by
  have hl := h.ol
  unfold offAt
  rw [getD_get! (by omega), getD_get! (by omega)]
  exact h.os _ (by omega)
theorem Milder.lived {S R : Roll} (h : Milder S R) (hS : Val S) (hR : Val R) {t : Nat → Int} (ht : Lived R t) : Lived S t := by
  have hms := h.ms
  have hcs := h.cs
  refine ⟨fun i hi => ?_, fun i hi => ?_, fun i hi => ?_, fun i hi => ?_, fun i hi hk => ?_, fun i hi hk => ?_, fun i k hik hk k1 k2 hm => ?_, fun i hi hu => ?_⟩
  · rw [hms] at hi ⊢; exact ht.born i hi
  · rw [hms] at hi ⊢; exact ht.died i hi
  · rw [hms] at hi
    have := ht.life i hi
    have := h.life
    omega
  · rw [hcs] at hi ⊢; exact ht.year i hi
  · rw [hcs] at hi hk ⊢
    have := ht.kin i hi hk
    have := h.plo
    have := h.phi
    omega
  · rw [hcs] at hi hk ⊢
    have := ht.held i hi hk
    refine ⟨?_, this.2⟩
    have hr := (hR.cs_ok _ (get!_mem hi)).2.2.2 hk
    unfold ageOf at *
    split
    · rename_i h0
      rw [if_pos h0] at this
      have := h.os (R.cs[i]!.office.toNat) (by omega)
      omega
    · rename_i h0
      rw [if_neg h0] at this
      exact this.1
  · rw [hcs] at hk k1 k2 hm ⊢
    have hi : i < R.cs.length := by omega
    have r1 := (hR.cs_ok _ (get!_mem hi)).2.2.2 k1
    have r2 := (hR.cs_ok _ (get!_mem hk)).2.2.2 k2
    obtain ⟨f1, f2, f3, f4⟩ := ht.fit i k hik hk k1 k2 hm
    refine ⟨fun e e0 => ?_, fun e => f2 (h.far hS hR r1.2.2.1 r1.2.2.2.1 r2.2.2.1 r2.2.2.2.1 e), fun e0 e => ?_, fun e0 e => ?_⟩
    · have := h.off e0 r1.2.1
      rcases f1 e e0 with (f | f) | ⟨f, f'⟩
      · exact .inl (.inl (by omega))
      · exact .inl (.inr (by omega))
      · refine .inr ⟨?_, f'⟩
        cases hf : farAt S.fs R.cs[i]!.town R.cs[k]!.town with
        | false => rfl
        | true => rw [h.far hS hR r1.2.2.1 r1.2.2.2.1 r2.2.2.1 r2.2.2.2.1 hf] at f; cases f
    · have := h.off (by omega) r2.2.1
      have := f3 e0 e
      omega
    · have := h.off (by omega) r1.2.1
      have := f4 e0 e
      omega
  · refine ht.zero i hi fun e => hu ?_
    unfold Used at *
    rw [hms, hcs]; exact e
theorem Milder.drop {S R : Roll} (h : Milder S R) (x : List Nat) : Milder (dropF S x) (dropF R x) where
  ol := h.ol
  os := h.os
  life := h.life
  plo := h.plo
  phi := h.phi
  fl := h.fl
  fs := h.fs
  ms := h.ms
  cs := by
    show keptTo S x S.cs.length = keptTo R x R.cs.length
    unfold keptTo
    rw [h.cs]
theorem Milder.may {S R : Roll} (h : Milder S R) (hS : Val S) (hR : Val R) {x : List Nat} (e : mayF R x = true) : mayF S x = true := by
  rw [mayF_iff hR] at e
  rw [mayF_iff hS]
  obtain ⟨t, ht⟩ := e
  exact ⟨t, (h.drop x).lived (hS.drop x) (hR.drop x) ht⟩
theorem find_short {n k : Nat} {p : List Nat → Bool} {l m : List Nat} (hk : k ≤ n) (hl : l ∈ combs (List.range n) k) (hp : p l = true) (hm : (allLists n).find? p = some m) : m.length ≤ k := by
  have e : List.range (n + 1) = List.range (k + 1) ++ List.range' (k + 1) (n - k) := by
    rw [List.range_eq_range', List.range_eq_range']
    have := List.range'_append_1 (s := 0) (m := k + 1) (n := n - k)
    rw [Nat.zero_add] at this
    rw [this]; congr 1; omega
  unfold allLists at hm
  rw [e, List.map_append, List.flatten_append, List.find?_append] at hm
  cases hf : ((List.range (k + 1)).map (combs (List.range n))).flatten.find? p with
  | none =>
    rw [List.find?_eq_none] at hf
    refine absurd hp (hf l ?_)
    simp only [List.mem_flatten, List.mem_map, List.mem_range]
    exact ⟨_, ⟨k, Nat.lt_succ_self _, rfl⟩, hl⟩
  | some m' =>
    rw [hf] at hm
    simp only [Option.some_or, Option.some.injEq] at hm
    subst hm
    have := List.mem_of_find?_eq_some hf
    simp only [List.mem_flatten, List.mem_map, List.mem_range] at this
    obtain ⟨_, ⟨j, hj, rfl⟩, h⟩ := this
    rw [combs_mem h]; omega
theorem wrong_in {r : Roll} {l : List Nat} (h : wrongF r = some l) : l ∈ combs (List.range r.cs.length) l.length := by
  unfold wrongF at h
  have h1 := List.mem_of_find?_eq_some h
  unfold allLists at h1
  simp only [List.mem_flatten, List.mem_map, List.mem_range] at h1
  obtain ⟨_, ⟨k, hk, rfl⟩, h1⟩ := h1
  rw [combs_mem h1]; exact h1
theorem Milder.wrong {S R : Roll} (h : Milder S R) (hS : Val S) (hR : Val R) {l : List Nat} (hl : wrongF R = some l) : ∃ m, wrongF S = some m ∧ m.length ≤ l.length := by
  obtain ⟨h1, h2⟩ := wrong_len hl
  have h3 := wrong_in hl
  have hc : S.cs.length = R.cs.length := by rw [h.cs]
  cases hm : wrongF S with
  | none =>
    exfalso
    unfold wrongF at hm
    rw [List.find?_eq_none] at hm
    refine absurd (h.may hS hR h2) (hm l ?_)
    unfold allLists
    simp only [List.mem_flatten, List.mem_map, List.mem_range]
    exact ⟨_, ⟨l.length, by omega, rfl⟩, by rw [hc]; exact h3⟩
  | some m =>
    refine ⟨m, rfl, ?_⟩
    unfold wrongF at hm
    rw [hc] at hm
    exact find_short h1 h3 (h.may hS hR h2) hm
end Go.Proofs
namespace Go.Proofs
open Go Go.Idl
set_option linter.unusedSimpArgs false
variable {b : Bool}
def SO (a c : Office) : Prop := 0 ≤ a.age ∧ a.age ≤ c.age ∧ 0 ≤ a.gap ∧ a.gap ≤ c.gap ∧ 1 ≤ a.again ∧ a.again ≤ c.again
structure SF (A B : List (List Bool)) : Prop where
  len : A.length = B.length
  rows : ∀ i, i < B.length → (A[i]!).length = B.length
  sub : ∀ i k, i < B.length → k < B.length → (A[i]!)[k]! = true → (B[i]!)[k]! = true
  diag : ∀ i, i < B.length → (A[i]!)[i]! = false
  symm : ∀ i k, k < i → i < B.length → (A[i]!)[k]! = (A[k]!)[i]!
theorem set2_get {A : List (List Bool)} {n i k a c : Nat} (hl : A.length = n) (hr : ∀ i, i < n → (A[i]!).length = n) (hi : i < n) (hk : k < n) (ha : a < n) : (((A.set i ((A[i]!).set k false)).set k (((A.set i ((A[i]!).set k false))[k]!).set i false))[a]!)[c]! = if (a = i ∧ c = k) ∨ (a = k ∧ c = i) then false else (A[a]!)[c]! := by
  have l1 : (A.set i ((A[i]!).set k false)).length = n := by rw [List.length_set]; exact hl
  rw [get!_set (by rw [l1]; exact hk)]
  by_cases h1 : k = a
  · subst h1
    rw [if_pos rfl]
    have hB : ((A.set i ((A[i]!).set k false))[k]!).length = n := by
      rw [get!_set (by omega)]
      split
      · rw [List.length_set]; exact hr i hi
      · exact hr k hk
    rw [get!_set (by rw [hB]; exact hi)]
    by_cases h3 : i = c
    · subst h3; rw [if_pos rfl, if_pos (.inr ⟨rfl, rfl⟩)]
    · rw [if_neg h3, get!_set (by omega)]
      by_cases h2 : i = k
      · subst h2; rw [if_pos rfl, get!_set (by rw [hr i hi]; exact hi), if_neg h3, if_neg (by omega)]
      · rw [if_neg h2, if_neg (by omega)]
  · rw [if_neg h1, get!_set (by omega)]
    by_cases h2 : i = a
    · subst h2
      rw [if_pos rfl, get!_set (by rw [hr i hi]; exact hk)]
      by_cases h3 : k = c
      · subst h3; rw [if_pos rfl, if_pos (.inl ⟨rfl, rfl⟩)]
      · rw [if_neg h3, if_neg (by omega)]
    · rw [if_neg h2, if_neg (by omega)]
theorem SF.set2 {A B : List (List Bool)} (h : SF A B) {i k : Nat} (hi : i < B.length) (hk : k < B.length) : SF ((A.set i ((A[i]!).set k false)).set k (((A.set i ((A[i]!).set k false))[k]!).set i false)) B := by
  have hg := fun {a c : Nat} (ha : a < B.length) => set2_get (c := c) h.len h.rows hi hk ha
  have hl1 : (A.set i ((A[i]!).set k false)).length = B.length := by rw [List.length_set]; exact h.len
  have hr1 : ∀ a, a < B.length → ((A.set i ((A[i]!).set k false))[a]!).length = B.length := fun a ha => by
    rw [get!_set (by rw [h.len]; exact hi)]
    split
    · rw [List.length_set]; exact h.rows i hi
    · exact h.rows a ha
  refine ⟨by rw [List.length_set]; exact hl1, fun a ha => ?_, fun a c ha hc e => ?_, fun a ha => ?_, fun a c hca ha => ?_⟩
  · rw [get!_set (by rw [hl1]; exact hk)]
    split
    · rw [List.length_set]; exact hr1 k hk
    · exact hr1 a ha
  · rw [hg ha] at e
    split at e
    · cases e
    · exact h.sub a c ha hc e
  · rw [hg ha]
    split
    · rfl
    · exact h.diag a ha
  · rw [hg ha, hg (by omega)]
    by_cases e : (a = i ∧ c = k) ∨ (a = k ∧ c = i)
    · rw [if_pos e, if_pos (by omega)]
    · rw [if_neg e, if_neg (by omega)]
      exact h.symm a c hca ha
theorem milder_wf {R : Roll} (hw : WF R) {os : List Office} {fs : List (List Bool)} {life plo phi : Int} (ol : os.length = R.os.length) (ho : ∀ i, i < R.os.length → SO os[i]! R.os[i]!) (h1 : R.life ≤ life) (h2 : life ≤ 100) (h3 : 1 ≤ plo) (h4 : plo ≤ R.plo) (h5 : R.phi ≤ phi) (h6 : phi ≤ 100) (hf : SF fs R.fs) : WF ⟨os, life, plo, phi, fs, R.ms, R.cs⟩ where
  os_l := by rw [ol]; exact hw.os_l
  os_ok o h := by
    have h : o ∈ os := h
    obtain ⟨j, hj, rfl⟩ := List.getElem_of_mem h
    have e1 := ho j (by omega)
    have e2 := hw.os_ok _ (get!_mem (show j < R.os.length by omega))
    rw [get!_eq hj] at e1
    unfold SO at e1
    unfold OffOk at *
    omega
  life := ⟨Int.le_trans hw.life.1 h1, h2⟩
  par := ⟨h3, by have := hw.par; show plo ≤ phi; omega, h6⟩
  fs_l := by have := hw.fs_l; rw [← hf.len] at this; exact this
  fs_ok w h := by
    have h : w ∈ fs := h
    obtain ⟨j, hj, rfl⟩ := List.getElem_of_mem h
    have hl := hf.len
    have := hf.rows j (by omega)
    rw [get!_eq hj] at this
    show _ = fs.length
    rw [this, hl]
  ms_l := hw.ms_l
  ms_ok := hw.ms_ok
  cs_l := hw.cs_l
  cs_ok c h := by
    have := hw.cs_ok c h
    unfold RecVal at *
    rw [← hf.len, ← ol] at this
    exact this
  names := hw.names
  diag i hi := by
    have hl := hf.len
    have hi : i < fs.length := hi
    exact hf.diag i (by omega)
  symm i k hk hi := by
    have hl := hf.len
    have hi : i < fs.length := hi
    exact hf.symm i k hk (by omega)
theorem milder_is {R : Roll} {os : List Office} {fs : List (List Bool)} {life plo phi : Int} (ol : os.length = R.os.length) (ho : ∀ i, i < R.os.length → SO os[i]! R.os[i]!) (h1 : R.life ≤ life) (h4 : plo ≤ R.plo) (h5 : R.phi ≤ phi) (hf : SF fs R.fs) : Milder ⟨os, life, plo, phi, fs, R.ms, R.cs⟩ R where
  ol := ol
  os i hi := by
    obtain ⟨_, a, _, c, _, e⟩ := ho i hi
    exact ⟨a, c, e⟩
  life := h1
  plo := h4
  phi := h5
  fl := hf.len
  fs := hf.sub
  ms := rfl
  cs := rfl
set_option maxRecDepth 10000 in
set_option maxHeartbeats 8000000 in
theorem milder_to {ns : List Int} (hn : ns.length ≤ 9223372036854775807) {o : Option Bool} : Ans Try.prog (AA true) 13 [SL 1 (ns.map I) o] (fun v => v = .bool true) := by
  refine Ans_of Try.func13 rfl rfl ?_
  simp +contextual (maxSteps := 1000000) (disch := first | omega | (with_reducible first | refine krN ?_ | refine krS ?_ | refine krP ?_ | refine krG ?_); kernel_rfl | refine kr ?_; simp only [go_sem, reduceCtorEq]; done | fail) only [go_sem, ↓reduceIte, Nat.reduceEqDiff, Nat.reduceAdd, Nat.reduceMul, Nat.reduceLeDiff, Nat.reduceLT, Nat.reduceBEq, bne, reduceCtorEq, Int.reduceLE, Int.reduceToNat, Int.reduceLT, Int.reduceAdd, Int.reduceSub, Int.reduceNeg, Int.cast_ofNat_Int]
  refine wc_heap (by simp only [mkAnn, K18]) rfl (newUrn_to (b := true) hn) ?_
  rintro v hp' nx' ⟨rfl, rfl, x, y, rfl⟩
  simp +contextual (maxSteps := 1000000) (disch := first | omega | (with_reducible first | refine krN ?_ | refine krS ?_ | refine krP ?_ | refine krG ?_); kernel_rfl | refine kr ?_; simp only [go_sem, reduceCtorEq]; done | fail) only [go_sem, ↓reduceIte, Nat.reduceEqDiff, Nat.reduceAdd, Nat.reduceMul, Nat.reduceLeDiff, Nat.reduceLT, Nat.reduceBEq, bne, reduceCtorEq, Int.reduceLE, Int.reduceToNat, Int.reduceLT, Int.reduceAdd, Int.reduceSub, Int.reduceNeg, Int.cast_ofNat_Int]
  refine wc_heap (by simp only [mkAnn, K30]) rfl (spoilt2_to (b := true) (s := (x, y)) (recs := 5) (by decide) (by decide)) ?_
  rintro v hp' nx' ⟨s, life, plo, phi, T, F, os, ms, cs, bs, ds, ys, hw, hnear, hcl, hT1, hmen, hlp, rfl, rfl, rfl⟩
  have r1 := rfR1 (s := s) (os := os) (ms := ms) (cs := cs) (T := T) (t := T) (F := F) (x := true) (bs := bs) (ds := ds) (ys := ys) rfl
  have r2 := rfR2 (s := s) (os := os) (ms := ms) (cs := cs) (T := T) (F := F) (x := true) (bs := bs) (ds := ds) (ys := ys)
  have r3 := rfR3 (s := s) (os := os) (ms := ms) (cs := cs) (T := T) (t := T) (F := F) (x := true) (bs := bs) (ds := ds) (ys := ys) rfl
  have r4 := rfR4 (s := s) (os := os) (ms := ms) (cs := cs) (T := T) (t := T) (F := F) (x := true) (bs := bs) (ds := ds) (ys := ys) rfl
  simp +contextual (maxSteps := 1000000) (disch := first | omega | (with_reducible first | refine krN ?_ | refine krS ?_ | refine krP ?_ | refine krG ?_); kernel_rfl | refine kr ?_; simp only [go_sem, reduceCtorEq, r1, r2, r3, r4]; done | fail) only [go_sem, ↓reduceIte, Nat.reduceEqDiff, Nat.reduceAdd, Nat.reduceMul, Nat.reduceLeDiff, Nat.reduceLT, Nat.reduceBEq, bne, reduceCtorEq, Int.reduceLE, Int.reduceToNat, Int.reduceLT, Int.reduceAdd, Int.reduceSub, Int.reduceNeg, Int.cast_ofNat_Int, r1, r2, r3, r4]
  clear r1 r2 r3 r4
  generalize hhk : killHp _ (HPr _) = hk
  have hk0 := killHp_low hT1 hhk
  rw [enc_rollD]
  obtain ⟨R, hRd⟩ : ∃ R, R = rollD life plo phi T F os ms cs := ⟨_, rfl⟩
  have hlf : R.life ≤ 60 ∧ R.phi ≤ 30 := by rw [hRd]; exact hlp
  obtain ⟨l, hl⟩ := wrong_some (r := R) (by rw [hRd]; exact hmen) (by rw [hRd]; exact hw.toVal)
  rw [← hRd] at hw hnear ⊢
  obtain ⟨nx, hnx⟩ : ∃ nx, nx = 5 + T + 1 + 1 + 1 := ⟨_, rfl⟩
  have hnx0 : 0 < nx := by omega
  rw [← hnx]
  clear hmen hcl hhk hRd hnx hT1 hlp
  refine busy_wc hw fun t => ?_
  cases t with
  | true => simp +contextual (maxSteps := 1000000) (disch := first | omega | (with_reducible first | refine krN ?_ | refine krS ?_ | refine krP ?_ | refine krG ?_); kernel_rfl | refine kr ?_; simp only [go_sem, reduceCtorEq, wc16]; done | fail) only [go_sem, ↓reduceIte, Nat.reduceEqDiff, Nat.reduceAdd, Nat.reduceMul, Nat.reduceLeDiff, Nat.reduceLT, Nat.reduceBEq, bne, reduceCtorEq, Int.reduceLE, Int.reduceToNat, Int.reduceLT, Int.reduceAdd, Int.reduceSub, Int.reduceNeg, Int.cast_ofNat_Int, wc16]
  | false =>
    obtain ⟨hm1, hm6⟩ := hw.ms_l
    have hc8 := hw.cs_l
    have ho5 := hw.os_l
    have hf4 := hw.fs_l
    simp +contextual (maxSteps := 1000000) (disch := first | omega | (with_reducible first | refine krN ?_ | refine krS ?_ | refine krP ?_ | refine krG ?_); kernel_rfl | refine kr ?_; simp only [go_sem, reduceCtorEq, wc16]; done | fail) only [go_sem, ↓reduceIte, Nat.reduceEqDiff, Nat.reduceAdd, Nat.reduceMul, Nat.reduceLeDiff, Nat.reduceLT, Nat.reduceBEq, bne, reduceCtorEq, Int.reduceLE, Int.reduceToNat, Int.reduceLT, Int.reduceAdd, Int.reduceSub, Int.reduceNeg, Int.cast_ofNat_Int, wc16]
    refine wc_heap (by simp only [mkAnn, K19]) rfl (copy_to (b := true) (s := s) (by omega) (by omega) (by omega) (by omega) (fun w h => by rw [hw.fs_ok w h]; omega) hnx0 hk0) ?_
    rintro v hp' nx' ⟨rfl, rfl, rfl⟩
    have hlf1 := hw.life
    have hpar := hw.par
    simp +contextual (maxSteps := 1000000) (disch := first | omega | (with_reducible first | refine krN ?_ | refine krS ?_ | refine krP ?_ | refine krG ?_); kernel_rfl | refine kr ?_; simp only [go_sem, reduceCtorEq]; done | fail) only [go_sem, ↓reduceIte, Nat.reduceEqDiff, Nat.reduceAdd, Nat.reduceMul, Nat.reduceLeDiff, Nat.reduceLT, Nat.reduceBEq, bne, reduceCtorEq, Int.reduceLE, Int.reduceToNat, Int.reduceLT, Int.reduceAdd, Int.reduceSub, Int.reduceNeg, Int.cast_ofNat_Int]
    have b1 := upR_b s (n := 5) (by omega)
    have b2 := fromR_b (upS s 5) (lo := 1) (hi := R.plo) (by omega) (by omega) (by omega) (by omega)
    have b3 := upR_b (fromS (upS s 5) 1 R.plo) (n := 5) (by omega)
    rw [wrap_i64 (n := R.life + upR s 5) (by omega) (by omega), wrap_i64 (n := R.phi + upR (fromS (upS s 5) 1 R.plo) 5) (by omega) (by omega)]
    obtain ⟨life', hl1⟩ : ∃ x, x = R.life + upR s 5 := ⟨_, rfl⟩
    obtain ⟨phi', hl2⟩ : ∃ x, x = R.phi + upR (fromS (upS s 5) 1 R.plo) 5 := ⟨_, rfl⟩
    obtain ⟨plo', hl3⟩ : ∃ x, x = fromR (upS s 5) 1 R.plo := ⟨_, rfl⟩
    rw [← hl1, ← hl2, ← hl3]
    have c1 : R.life ≤ life' ∧ life' ≤ 100 := by omega
    have c2 : R.phi ≤ phi' ∧ phi' ≤ 100 := by omega
    have c3 : 1 ≤ plo' ∧ plo' ≤ R.plo := by omega
    generalize upS (fromS (upS s 5) 1 R.plo) 5 = s1
    clear b1 b2 b3 hl1 hl2 hl3 hk0
    refine wp_loop_to R.os.length (fun i st => ∃ (s : Int × Int) (P : List Office) (ex : List (Nat × Vl)), P.length = R.os.length ∧ (∀ j, j < R.os.length → SO P[j]! R.os[j]!) ∧ (∀ j, i ≤ j → j < R.os.length → P[j]! = R.os[j]!) ∧ st = ({ sl := (3, .bp 0 0) :: (4, .loc (encRoll (some false) (some false) (some false) (some false) R)) :: (5, .loc (.agg [.own nx R.os.length, I life', I plo', I phi', .own (nx + 3) R.fs.length, .own (nx + 1) R.ms.length, .own (nx + 2) R.cs.length])) :: (6, I i) :: ex, hp := CPr hk nx ⟨s, P, R.ms, R.cs, R.fs⟩, nx := nx + 4 + R.fs.length } : FS)) ?_ 0 (Nat.zero_le _) ⟨_, _, _, rfl, fun j hj => ?_, fun _ _ _ => rfl, rfl⟩
    · clear s s1
      rintro i st hi ⟨s, P, ex, hPl, hSO, hPe, rfl⟩
      by_cases hc : i < R.os.length
      · have hiP : i < P.length := by omega
        have hpg := hPe i (Nat.le_refl _) hc
        obtain ⟨o1, o2, o3, o4, o5, o6⟩ := hw.os_ok _ (get!_mem hc)
        have n1 := fun s : Int × Int => fromR_b s (lo := 0) (hi := R.os[i]!.age) (by omega) (by omega) (by omega) (by omega)
        have n2 := fun s : Int × Int => fromR_b s (lo := 0) (hi := R.os[i]!.gap) (by omega) (by omega) (by omega) (by omega)
        have n3 := fun s : Int × Int => fromR_b s (lo := 1) (hi := R.os[i]!.again) (by omega) (by omega) (by omega) (by omega)
        simp +contextual (maxSteps := 1000000) (disch := first | omega | (with_reducible first | refine krN ?_ | refine krS ?_ | refine krP ?_ | refine krG ?_); kernel_rfl | refine kr ?_; simp only [go_sem, reduceCtorEq, Int.ofNat_lt, hc, ixC1, rdC1, wrC1, CPr_setC1, hnx0, hPl, hpg, encO, List.length_set, List.set_set, get!_set_eq, hiP]; done | fail) only [go_sem, ↓reduceIte, Nat.reduceEqDiff, Nat.reduceAdd, Nat.reduceMul, Nat.reduceLeDiff, Nat.reduceLT, Nat.reduceBEq, bne, reduceCtorEq, Int.reduceLE, Int.reduceToNat, Int.reduceLT, Int.reduceAdd, Int.reduceSub, Int.reduceNeg, Int.cast_ofNat_Int, Int.ofNat_lt, hc, ixC1, rdC1, wrC1, CPr_setC1, hnx0, hPl, hpg, encO, List.length_set, List.set_set, get!_set_eq, hiP]
        refine ⟨_, _, [], ?_, fun j hj => ?_, fun j e1 e2 => ?_, rfl⟩
        · rw [List.length_set]; exact hPl
        · rw [get!_set hiP]
          split
          · rename_i e
            subst e
            exact ⟨(n1 _).1, Int.le_trans (n1 _).2 (by omega), (n2 _).1, Int.le_trans (n2 _).2 (by omega), (n3 _).1, Int.le_trans (n3 _).2 (by omega)⟩
          · exact hSO j hj
        · rw [get!_set hiP, if_neg (by omega)]
          exact hPe j (by omega) e2
      · have hie : i = R.os.length := by omega
        subst hie
        simp +contextual (maxSteps := 1000000) (disch := first | omega | (with_reducible first | refine krN ?_ | refine krS ?_ | refine krP ?_ | refine krG ?_); kernel_rfl | refine kr ?_; simp only [go_sem, reduceCtorEq, Int.lt_irrefl]; done | fail) only [go_sem, ↓reduceIte, Nat.reduceEqDiff, Nat.reduceAdd, Nat.reduceMul, Nat.reduceLeDiff, Nat.reduceLT, Nat.reduceBEq, bne, reduceCtorEq, Int.reduceLE, Int.reduceToNat, Int.reduceLT, Int.reduceAdd, Int.reduceSub, Int.reduceNeg, Int.cast_ofNat_Int, Int.lt_irrefl]
        clear hPe hi hc
        refine wp_loop_to R.fs.length (fun i st => ∃ (s : Int × Int) (A : List (List Bool)) (ex : List (Nat × Vl)), SF A R.fs ∧ st = ({ sl := (3, .bp 0 0) :: (4, .loc (encRoll (some false) (some false) (some false) (some false) R)) :: (5, .loc (.agg [.own nx R.os.length, I life', I plo', I phi', .own (nx + 3) R.fs.length, .own (nx + 1) R.ms.length, .own (nx + 2) R.cs.length])) :: (8, I i) :: ex, hp := CPr hk nx ⟨s, P, R.ms, R.cs, A⟩, nx := nx + 4 + R.fs.length } : FS)) ?_ 0 (Nat.zero_le _) ⟨s, R.fs, _, ⟨rfl, fun i hi => hw.fs_ok _ (get!_mem hi), fun i k _ _ e => e, hw.diag, hw.symm⟩, rfl⟩
        clear s
        rintro i st hi ⟨s, A, ex2, hA, rfl⟩
        by_cases hc : i < R.fs.length
        · simp +contextual (maxSteps := 1000000) (disch := first | omega | (with_reducible first | refine krN ?_ | refine krS ?_ | refine krP ?_ | refine krG ?_); kernel_rfl | refine kr ?_; simp only [go_sem, reduceCtorEq, Int.ofNat_lt, hc]; done | fail) only [go_sem, ↓reduceIte, Nat.reduceEqDiff, Nat.reduceAdd, Nat.reduceMul, Nat.reduceLeDiff, Nat.reduceLT, Nat.reduceBEq, bne, reduceCtorEq, Int.reduceLE, Int.reduceToNat, Int.reduceLT, Int.reduceAdd, Int.reduceSub, Int.reduceNeg, Int.cast_ofNat_Int, Int.ofNat_lt, hc]
          refine wp_loop_to i (fun k st => ∃ (s : Int × Int) (A : List (List Bool)) (ex : List (Nat × Vl)), SF A R.fs ∧ st = ({ sl := (3, .bp 0 0) :: (4, .loc (encRoll (some false) (some false) (some false) (some false) R)) :: (5, .loc (.agg [.own nx R.os.length, I life', I plo', I phi', .own (nx + 3) R.fs.length, .own (nx + 1) R.ms.length, .own (nx + 2) R.cs.length])) :: (8, I i) :: (9, I k) :: ex, hp := CPr hk nx ⟨s, P, R.ms, R.cs, A⟩, nx := nx + 4 + R.fs.length } : FS)) ?_ 0 (Nat.zero_le _) ⟨s, A, _, hA, rfl⟩
          clear hA s A
          rintro k st hk ⟨s, A, ex3, hA, rfl⟩
          by_cases hck : k < i
          · have hkf : k < R.fs.length := by omega
            have hAl := hA.len
            have hAi := hA.rows i hc
            have hAk := hA.rows k hkf
            have hS2 := hA.set2 hc hkf
            have hiA : i < A.length := by omega
            have hkA : k < A.length := by omega
            have hB1 : (A.set i ((A[i]!).set k false)).length = R.fs.length := by rw [List.length_set]; exact hAl
            have hkB : k < (A.set i ((A[i]!).set k false)).length := by omega
            have hB2 : ((A.set i ((A[i]!).set k false))[k]!).length = R.fs.length := by
              rw [get!_set hiA, if_neg (by omega)]; exact hAk
            simp +contextual (maxSteps := 1000000) (disch := first | omega | (with_reducible first | refine krN ?_ | refine krS ?_ | refine krP ?_ | refine krG ?_); kernel_rfl | refine kr ?_; simp only [go_sem, reduceCtorEq, Int.ofNat_lt, hck, ixCf, rdCf, ixCr, wrCr, hAl, hAi, hAk, hiA, hkA, hkB, hB2, hc, hkf]; done | fail) only [go_sem, ↓reduceIte, Nat.reduceEqDiff, Nat.reduceAdd, Nat.reduceMul, Nat.reduceLeDiff, Nat.reduceLT, Nat.reduceBEq, bne, reduceCtorEq, Int.reduceLE, Int.reduceToNat, Int.reduceLT, Int.reduceAdd, Int.reduceSub, Int.reduceNeg, Int.cast_ofNat_Int, Int.ofNat_lt, hck, ixCf, rdCf, ixCr, wrCr, hAl, hAi, hAk, hiA, hkA, hkB, hB2, hc, hkf]
            refine WI_of (fun _ => ?_) (fun _ => ?_)
            · exact ⟨_, _, [], hS2, rfl⟩
            · exact ⟨_, _, [], hA, rfl⟩
          · have hke : k = i := by omega
            subst hke
            simp +contextual (maxSteps := 1000000) (disch := first | omega | (with_reducible first | refine krN ?_ | refine krS ?_ | refine krP ?_ | refine krG ?_); kernel_rfl | refine kr ?_; simp only [go_sem, reduceCtorEq, Int.lt_irrefl]; done | fail) only [go_sem, ↓reduceIte, Nat.reduceEqDiff, Nat.reduceAdd, Nat.reduceMul, Nat.reduceLeDiff, Nat.reduceLT, Nat.reduceBEq, bne, reduceCtorEq, Int.reduceLE, Int.reduceToNat, Int.reduceLT, Int.reduceAdd, Int.reduceSub, Int.reduceNeg, Int.cast_ofNat_Int, Int.lt_irrefl]
            exact ⟨s, A, _, hA, rfl⟩
        · have hie : i = R.fs.length := by omega
          subst hie
          have f1 := rfC1 (h := hk) (n := nx) (s := s) (os := P) (ms := R.ms) (cs := R.cs) (fs := A) hnx0 hPl
          have f2 := rfC2 (h := hk) (n := nx) (s := s) (os := P) (ms := R.ms) (cs := R.cs) (fs := A) hA.len
          have f3 := rfC3 (h := hk) (n := nx) (s := s) (os := P) (ms := R.ms) (cs := R.cs) (fs := A) rfl
          have f4 := rfC4 (h := hk) (n := nx) (s := s) (os := P) (ms := R.ms) (cs := R.cs) (fs := A) rfl
          simp +contextual (maxSteps := 1000000) (disch := first | omega | (with_reducible first | refine krN ?_ | refine krS ?_ | refine krP ?_ | refine krG ?_); kernel_rfl | refine kr ?_; simp only [go_sem, reduceCtorEq, Int.lt_irrefl, f1, f2, f3, f4]; done | fail) only [go_sem, ↓reduceIte, Nat.reduceEqDiff, Nat.reduceAdd, Nat.reduceMul, Nat.reduceLeDiff, Nat.reduceLT, Nat.reduceBEq, bne, reduceCtorEq, Int.reduceLE, Int.reduceToNat, Int.reduceLT, Int.reduceAdd, Int.reduceSub, Int.reduceNeg, Int.cast_ofNat_Int, Int.lt_irrefl, f1, f2, f3, f4]
          generalize killHp _ (CPr _ _ _) = hk2
          have hwS := milder_wf hw hPl hSO c1.1 c1.2 c3.1 c3.2 c2.1 c2.2 hA
          have hmS := milder_is (R := R) hPl hSO c1.1 c3.2 c2.1 hA
          have e9 : Vl.agg [.lst 3 (P.map encO) false, I life', I plo', I phi', .lst 1 (A.map encRow) false, .lst 5 (R.ms.map encM) false, .lst 7 (R.cs.map encC) false] = encRoll (some false) (some false) (some false) (some false) ⟨P, life', plo', phi', A, R.ms, R.cs⟩ := rfl
          rw [e9]
          generalize (⟨P, life', plo', phi', A, R.ms, R.cs⟩ : Roll) = S at hwS hmS ⊢
          have hml : S.ms.length = R.ms.length := by rw [hmS.ms]
          obtain ⟨m, hm, hmlen⟩ := hmS.wrong hwS.toVal hw.toVal hl
          have hwv : wrongV R = .tup [SL 1 (l.map IN) none, I 0] := by unfold wrongV; rw [hl]; simp only; rw [listV_SL]
          have hwvS : wrongV S = .tup [SL 1 (m.map IN) none, I 0] := by unfold wrongV; rw [hm]; simp only; rw [listV_SL]
          have hgt : ¬ ((l.length : Int) < (m.length : Int)) := by omega
          have hlR := livesV.eq_1 R
          have hlS := livesV.eq_1 S
          have h90 : ¬ ((9 : Int) = 0) := by decide
          have h09 : ¬ ((0 : Int) = 9) := by decide
          cases hsv : (solveF false R).2 with
          | false =>
            have p1 : (possF R).2 = 9 := by unfold possF; rw [if_neg (by rw [hsv]; decide)]
            rw [p1, if_neg h90] at hlR
            cases hsS : (solveF false S).2 with
            | false =>
              have p2 : (possF S).2 = 9 := by unfold possF; rw [if_neg (by rw [hsS]; decide)]
              rw [p2, if_neg h90] at hlS
              simp +contextual (maxSteps := 1000000) (disch := first | omega | (with_reducible first | refine krN ?_ | refine krS ?_ | refine krP ?_ | refine krG ?_); kernel_rfl | refine kr ?_; simp only [go_sem, reduceCtorEq, wc16, wc20, wc31, hw, hwS, hlR, hlS, hwv, hwvS, hgt, h09, List.length_map]; done | fail) only [go_sem, ↓reduceIte, Nat.reduceEqDiff, Nat.reduceAdd, Nat.reduceMul, Nat.reduceLeDiff, Nat.reduceLT, Nat.reduceBEq, bne, reduceCtorEq, Int.reduceLE, Int.reduceToNat, Int.reduceLT, Int.reduceAdd, Int.reduceSub, Int.reduceNeg, Int.cast_ofNat_Int, wc16, wc20, wc31, hw, hwS, hlR, hlS, hwv, hwvS, hgt, h09, List.length_map]
            | true =>
              have p2 : (possF S).2 = 0 ∧ (possF S).1 = (solveF false S).1 := by unfold possF; rw [if_pos hsS]; exact ⟨rfl, rfl⟩
              rw [if_pos p2.1, p2.2] at hlS
              simp +contextual (maxSteps := 1000000) (disch := first | omega | (with_reducible first | refine krN ?_ | refine krS ?_ | refine krP ?_ | refine krG ?_); kernel_rfl | refine kr ?_; simp only [go_sem, reduceCtorEq, wc16, wc20, wc31, hw, hwS, hlR, hlS, hwv, hwvS, hgt, h09, List.length_map]; done | fail) only [go_sem, ↓reduceIte, Nat.reduceEqDiff, Nat.reduceAdd, Nat.reduceMul, Nat.reduceLeDiff, Nat.reduceLT, Nat.reduceBEq, bne, reduceCtorEq, Int.reduceLE, Int.reduceToNat, Int.reduceLT, Int.reduceAdd, Int.reduceSub, Int.reduceNeg, Int.cast_ofNat_Int, wc16, wc20, wc31, hw, hwS, hlR, hlS, hwv, hwvS, hgt, h09, List.length_map]
          | true =>
            have hsS : (solveF false S).2 = true := hull_may hwS.toVal hw.toVal (fun t ht => ⟨t, hmS.lived hwS.toVal hw.toVal ht⟩) hsv
            have p1 : (possF R).2 = 0 ∧ (possF R).1 = (solveF false R).1 := by unfold possF; rw [if_pos hsv]; exact ⟨rfl, rfl⟩
            have p2 : (possF S).2 = 0 ∧ (possF S).1 = (solveF false S).1 := by unfold possF; rw [if_pos hsS]; exact ⟨rfl, rfl⟩
            rw [if_pos p1.1, p1.2, spans_enc, spans_enc] at hlR
            rw [if_pos p2.1, p2.2, spans_enc, spans_enc, hml] at hlS
            have hin : ∀ i, i < 20 → ((solveF false S).1.getD i (0, 0)).1 ≤ ((solveF false R).1.getD i (0, 0)).1 ∧ ((solveF false R).1.getD i (0, 0)).2 ≤ ((solveF false S).1.getD i (0, 0)).2 := fun i hi => by
              have := hull_sub hwS.toVal hw.toVal (d := 0) hi hi (fun t ht => ⟨t, hmS.lived hwS.toVal hw.toVal ht, by omega⟩) hsv
              omega
            have g1 := inside_spans (p := (solveF false S).1) (p' := (solveF false R).1) (l := List.range R.ms.length) fun i hi => hin i (by have := List.mem_range.1 hi; omega)
            have g2 := inside_spans (p := (solveF false S).1) (p' := (solveF false R).1) (l := (List.range R.ms.length).map fun x => 6 + x) fun i hi => by
              obtain ⟨j, hj, rfl⟩ := List.mem_map.1 hi
              have := List.mem_range.1 hj
              exact hin _ (by omega)
            have k1 : ((List.range R.ms.length).map fun i => (solveF false R).1.getD i (0, 0)).length ≤ 1000 := by simp only [List.length_map, List.length_range]; omega
            have k2 : (((List.range R.ms.length).map fun x => 6 + x).map fun i => (solveF false R).1.getD i (0, 0)).length ≤ 1000 := by simp only [List.length_map, List.length_range]; omega
            have w1 := fun (m : Mem) (K : Vl → Mem → Prop) => wc43 (b := true) (m := m) (K := K) k1 g1
            have w2 := fun (m : Mem) (K : Vl → Mem → Prop) => wc43 (b := true) (m := m) (K := K) k2 g2
            simp +contextual (maxSteps := 1000000) (disch := first | omega | (with_reducible first | refine krN ?_ | refine krS ?_ | refine krP ?_ | refine krG ?_); kernel_rfl | refine kr ?_; simp only [go_sem, reduceCtorEq, wc16, wc20, wc31, hw, hwS, hlR, hlS, hwv, hwvS, hgt, h09, w1, w2, List.length_map]; done | fail) only [go_sem, ↓reduceIte, Nat.reduceEqDiff, Nat.reduceAdd, Nat.reduceMul, Nat.reduceLeDiff, Nat.reduceLT, Nat.reduceBEq, bne, reduceCtorEq, Int.reduceLE, Int.reduceToNat, Int.reduceLT, Int.reduceAdd, Int.reduceSub, Int.reduceNeg, Int.cast_ofNat_Int, wc16, wc20, wc31, hw, hwS, hlR, hlS, hwv, hwvS, hgt, h09, w1, w2, List.length_map]
    · obtain ⟨o1, o2, o3, o4, o5, o6⟩ := hw.os_ok _ (get!_mem hj)
      exact ⟨o1, Int.le_refl _, o3, Int.le_refl _, o5, Int.le_refl _⟩
end Go.Proofs
