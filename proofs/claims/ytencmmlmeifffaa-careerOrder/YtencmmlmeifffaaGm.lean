/- What functions of the given program do in the ideal machine (G24), and the plain laws of what they answer; the conditions stand in each theorem. -/
import Derived.Test.YtencmmlmeifffaaGk
set_option linter.all false
set_option linter.unusedSectionVars false
set_option linter.unusedSimpArgs false
set_option linter.unusedVariables false
namespace Go.Proofs
open Go Go.Idl
set_option linter.unusedSimpArgs false
variable {b : Bool}
section
variable {h : Nat → Ob} {n : Nat} {s : Int × Int} {os : List Office} {ms : List Man} {cs : List Rec} {fs : List (List Bool)} {lc : List (Nat × Vl)} {nx : Nat}
theorem farL_len : (farL n fs).length = fs.length := by unfold farL; rw [List.length_map, List.length_range]
theorem ixCf {k j eb : Nat} {ez : Vl} (hn : fs.length = k) (hj : j < k) : indexAddrV (.slice 1 eb ez) (.v (.own (n + 3) k)) (.int .i64 (j : Int)) { lc := lc, hp := CPr h n ⟨s, os, ms, cs, fs⟩, nx := nx } = some (.v (.ep (n + 3) k j 0), { lc := lc, hp := CPr h n ⟨s, os, ms, cs, fs⟩, nx := nx }) := by
  rw [indexAddr_own CPr_2 (by rw [farL_len]; exact hn) ⟨by omega, by omega⟩ (by decide)]; rfl
theorem rdCf {k j : Nat} (hn : fs.length = k) (hj : j < k) : Mem.read { lc := lc, hp := CPr h n ⟨s, os, ms, cs, fs⟩, nx := nx } false 1 (.v (.ep (n + 3) k j 0)) = some (.own (n + 4 + j) (fs[j]!).length) := by
  have hl : (farL n fs).length = k := by rw [farL_len]; exact hn
  simp only [Mem.read, CPr_2, hl, if_true]
  unfold farL
  rw [List.getElem?_eq_getElem (by simp; omega), List.getElem_map, List.getElem_range]
  rfl
theorem ixCr {k j i eb : Nat} {ez : Vl} (hj : j < fs.length) (hn : (fs[j]!).length = k) (hi : i < k) : indexAddrV (.slice 1 eb ez) (.v (.own (n + 4 + j) k)) (.int .i64 (i : Int)) { lc := lc, hp := CPr h n ⟨s, os, ms, cs, fs⟩, nx := nx } = some (.v (.ep (n + 4 + j) k i 0), { lc := lc, hp := CPr h n ⟨s, os, ms, cs, fs⟩, nx := nx }) := by
  rw [indexAddr_own (CPr_row hj) (by rw [List.length_map]; exact hn) ⟨by omega, by omega⟩ (by decide)]; rfl
theorem farL_set {j : Nat} {w : List Bool} (hw : w.length = (fs[j]!).length) : farL n (fs.set j w) = farL n fs := by
  unfold farL
  rw [List.length_set]
  refine List.map_congr_left fun i hi => ?_
  have hi := List.mem_range.1 hi
  by_cases e : i = j
  · subst e; rw [get!_set_eq hi, hw]
  · by_cases hj : j < fs.length
    · rw [get!_set hj, if_neg (by omega)]
    · rw [List.set_eq_of_length_le (by omega)]
theorem wrCr {k j i : Nat} {y : Bool} (hj : j < fs.length) (hn : (fs[j]!).length = k) (hi : i < k) : Mem.write { lc := lc, hp := CPr h n ⟨s, os, ms, cs, fs⟩, nx := nx } (.bool y) (.v (.ep (n + 4 + j) k i 0)) = some { lc := lc, hp := CPr h n ⟨s, os, ms, cs, fs.set j ((fs[j]!).set i y)⟩, nx := nx } := by
  have hl : ((fs[j]!).map Vl.bool).length = k := by rw [List.length_map]; exact hn
  have hr := CPr_row (h := h) (n := n) (s := s) (os := os) (ms := ms) (cs := cs) hj
  simp only [Mem.write, hr, hl, if_true]
  rw [List.getElem?_eq_getElem (by rw [hl]; exact hi), List.getElem_map]
  show some ({ lc := lc, hp := upd (CPr h n ⟨s, os, ms, cs, fs⟩) (n + 4 + j) (.arr 1 (((fs[j]!).map .bool).set i (.bool y))), nx := nx } : Mem) = _
  congr 2
  have e : ((fs[j]!).map Vl.bool).set i (.bool y) = ((fs[j]!).set i y).map .bool := by rw [List.map_set]
  rw [e]
  funext a
  by_cases ha : a = n + 4 + j
  · subst ha
    rw [upd_same, CPr_row (by rw [List.length_set]; exact hj), get!_set_eq hj]
  · rw [upd_ne _ _ ha]
    unfold CPr
    simp only [List.length_set, farL_set (w := (fs[j]!).set i y) (List.length_set)]
    by_cases h1 : n + 4 ≤ a ∧ a < n + 4 + fs.length
    · have k0 : ¬ a = 0 := by omega
      have k1 : ¬ a = n := by omega
      have k2 : ¬ a = n + 1 := by omega
      have k3 : ¬ a = n + 2 := by omega
      have k4 : ¬ a = n + 3 := by omega
      simp only [k0, k1, k2, k3, k4, h1, and_self, if_false, if_true]
      rw [get!_set hj, if_neg (by omega)]
    · simp only [h1, if_false]
end
structure Milder (S R : Roll) : Prop where
  ol : S.os.length = R.os.length
  os : ∀ i, i < R.os.length → S.os[i]!.age ≤ R.os[i]!.age ∧ S.os[i]!.gap ≤ R.os[i]!.gap ∧ S.os[i]!.again ≤ R.os[i]!.again
  life : R.life ≤ S.life
  plo : S.plo ≤ R.plo
  phi : R.phi ≤ S.phi
  fl : S.fs.length = R.fs.length
  fs : ∀ i k, i < R.fs.length → k < R.fs.length → (S.fs[i]!)[k]! = true → (R.fs[i]!)[k]! = true
  ms : S.ms = R.ms
  cs : S.cs = R.cs
theorem Milder.far {S R : Roll} (h : Milder S R) (hS : Val S) (hR : Val R) {i k : Int} (h0 : 0 ≤ i) (h1 : i < R.fs.length) (h2 : 0 ≤ k) (h3 : k < R.fs.length) (e : farAt S.fs i k = true) : farAt R.fs i k = true := by
  rw [farAt_get hS.fs_ok h0 (by rw [h.fl]; exact h1) h2 (by rw [h.fl]; exact h3)] at e
  rw [farAt_get hR.fs_ok h0 h1 h2 h3]
  exact h.fs _ _ (by omega) (by omega) e
theorem Milder.off {S R : Roll} (h : Milder S R) {i : Int} (h0 : 0 ≤ i) (h1 : i < R.os.length) : (offAt S.os i).age ≤ (offAt R.os i).age ∧ (offAt S.os i).gap ≤ (offAt R.os i).gap ∧ (offAt S.os i).again ≤ (offAt R.os i).again := by
  have hl := h.ol
  unfold offAt
  rw [getD_get! (by omega), getD_get! (by omega)]
  exact h.os _ (by omega)
theorem Milder.lived {S R : Roll} (h : Milder S R) (hS : Val S) (hR : Val R) {t : Nat → Int} (ht : Lived R t) : Lived S t := by
  have hms := h.ms
  have hcs := h.cs
  refine ⟨fun i hi => ?_, fun i hi => ?_, fun i hi => ?_, fun i hi => ?_, fun i hi hk => ?_, fun i hi hk => ?_, fun i k hik hk k1 k2 hm => ?_, fun i hi hu => ?_⟩
  · rw [hms] at hi ⊢; exact ht.born i hi
  · rw [hms] at hi ⊢; exact ht.died i hi
  · rw [hms] at hi
    have := ht.life i hi
    have := h.life
    omega
  · rw [hcs] at hi ⊢; exact ht.year i hi
  · rw [hcs] at hi hk ⊢
    have := ht.kin i hi hk
    have := h.plo
    have := h.phi
    omega
  · rw [hcs] at hi hk ⊢
    have := ht.held i hi hk
    refine ⟨?_, this.2⟩
    have hr := (hR.cs_ok _ (get!_mem hi)).2.2.2 hk
    unfold ageOf at *
    split
    · rename_i h0
      rw [if_pos h0] at this
      have := h.os (R.cs[i]!.office.toNat) (by omega)
      omega
    · rename_i h0
      rw [if_neg h0] at this
      exact this.1
  · rw [hcs] at hk k1 k2 hm ⊢
    have hi : i < R.cs.length := by omega
    have r1 := (hR.cs_ok _ (get!_mem hi)).2.2.2 k1
    have r2 := (hR.cs_ok _ (get!_mem hk)).2.2.2 k2
    obtain ⟨f1, f2, f3, f4⟩ := ht.fit i k hik hk k1 k2 hm
    refine ⟨fun e e0 => ?_, fun e => f2 (h.far hS hR r1.2.2.1 r1.2.2.2.1 r2.2.2.1 r2.2.2.2.1 e), fun e0 e => ?_, fun e0 e => ?_⟩
    · have := h.off e0 r1.2.1
      rcases f1 e e0 with (f | f) | ⟨f, f'⟩
      · exact .inl (.inl (by omega))
      · exact .inl (.inr (by omega))
      · refine .inr ⟨?_, f'⟩
        cases hf : farAt S.fs R.cs[i]!.town R.cs[k]!.town with
        | false => rfl
        | true => rw [h.far hS hR r1.2.2.1 r1.2.2.2.1 r2.2.2.1 r2.2.2.2.1 hf] at f; cases f
    · have := h.off (by omega) r2.2.1
      have := f3 e0 e
      omega
    · have := h.off (by omega) r1.2.1
      have := f4 e0 e
      omega
  · refine ht.zero i hi fun e => hu ?_
    unfold Used at *
    rw [hms, hcs]; exact e
theorem Milder.drop {S R : Roll} (h : Milder S R) (x : List Nat) : Milder (dropF S x) (dropF R x) where
  ol := h.ol
  os := h.os
  life := h.life
  plo := h.plo
  phi := h.phi
  fl := h.fl
  fs := h.fs
  ms := h.ms
  cs := by
    show keptTo S x S.cs.length = keptTo R x R.cs.length
    unfold keptTo
    rw [h.cs]
theorem Milder.may {S R : Roll} (h : Milder S R) (hS : Val S) (hR : Val R) {x : List Nat} (e : mayF R x = true) : mayF S x = true := by
  rw [mayF_iff hR] at e
  rw [mayF_iff hS]
  obtain ⟨t, ht⟩ := e
  exact ⟨t, (h.drop x).lived (hS.drop x) (hR.drop x) ht⟩
theorem find_short {n k : Nat} {p : List Nat → Bool} {l m : List Nat} (hk : k ≤ n) (hl : l ∈ combs (List.range n) k) (hp : p l = true) (hm : (allLists n).find? p = some m) : m.length ≤ k := by
  have e : List.range (n + 1) = List.range (k + 1) ++ List.range' (k + 1) (n - k) := by
    rw [List.range_eq_range', List.range_eq_range']
    have := List.range'_append_1 (s := 0) (m := k + 1) (n := n - k)
    rw [Nat.zero_add] at this
    rw [this]; congr 1; omega
  unfold allLists at hm
  rw [e, List.map_append, List.flatten_append, List.find?_append] at hm
  cases hf : ((List.range (k + 1)).map (combs (List.range n))).flatten.find? p with
  | none =>
    rw [List.find?_eq_none] at hf
    refine absurd hp (hf l ?_)
    simp only [List.mem_flatten, List.mem_map, List.mem_range]
    exact ⟨_, ⟨k, Nat.lt_succ_self _, rfl⟩, hl⟩
  | some m' =>
    rw [hf] at hm
    simp only [Option.some_or, Option.some.injEq] at hm
    subst hm
    have := List.mem_of_find?_eq_some hf
    simp only [List.mem_flatten, List.mem_map, List.mem_range] at this
    obtain ⟨_, ⟨j, hj, rfl⟩, h⟩ := this
    rw [combs_mem h]; omega
theorem wrong_in {r : Roll} {l : List Nat} (h : wrongF r = some l) : l ∈ combs (List.range r.cs.length) l.length := by
  unfold wrongF at h
  have h1 := List.mem_of_find?_eq_some h
  unfold allLists at h1
  simp only [List.mem_flatten, List.mem_map, List.mem_range] at h1
  obtain ⟨_, ⟨k, hk, rfl⟩, h1⟩ := h1
  rw [combs_mem h1]; exact h1
theorem Milder.wrong {S R : Roll} (h : Milder S R) (hS : Val S) (hR : Val R) {l : List Nat} (hl : wrongF R = some l) : ∃ m, wrongF S = some m ∧ m.length ≤ l.length := by
  obtain ⟨h1, h2⟩ := wrong_len hl
  have h3 := wrong_in hl
  have hc : S.cs.length = R.cs.length := by rw [h.cs]
  cases hm : wrongF S with
  | none =>
    exfalso
    unfold wrongF at hm
    rw [List.find?_eq_none] at hm
    refine absurd (h.may hS hR h2) (hm l ?_)
    unfold allLists
    simp only [List.mem_flatten, List.mem_map, List.mem_range]
    exact ⟨_, ⟨l.length, by omega, rfl⟩, by rw [hc]; exact h3⟩
  | some m =>
    refine ⟨m, rfl, ?_⟩
    unfold wrongF at hm
    rw [hc] at hm
    exact find_short h1 h3 (h.may hS hR h2) hm
end Go.Proofs
