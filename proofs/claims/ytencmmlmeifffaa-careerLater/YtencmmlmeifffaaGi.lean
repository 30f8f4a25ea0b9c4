/- What functions of the given program do in the ideal machine (G19, G20), and the plain laws of what they answer; the conditions stand in each theorem. -/
import Derived.Test.YtencmmlmeifffaaGg
import Derived.Test.YtencmmlmeifffaaGh
set_option linter.all false
set_option linter.unusedSectionVars false
set_option linter.unusedSimpArgs false
set_option linter.unusedVariables false
namespace Go.Proofs
open Go Go.Idl
set_option linter.unusedSimpArgs false
variable {b : Bool}
section
variable {R S : Roll}
theorem hull_may (hR : Val R) (hS : Val S) (h : ∀ t, Lived S t → ∃ t', Lived R t') : (solveF false S).2 = true → (solveF false R).2 = true := fun e => by
  obtain ⟨t, ht⟩ := (solve_iff' hS).1 e
  exact (solve_iff' hR).2 (h t ht)
theorem hull_sub (hR : Val R) (hS : Val S) {i j : Nat} {d : Int} (hi : i < 20) (hj : j < 20) (h : ∀ t, Lived S t → ∃ t', Lived R t' ∧ t' i = t j - d) (e : (solveF false S).2 = true) :
    ((solveF false R).1.getD i (0, 0)).1 ≤ ((solveF false S).1.getD j (0, 0)).1 - d ∧ ((solveF false S).1.getD j (0, 0)).2 - d ≤ ((solveF false R).1.getD i (0, 0)).2 := by
  obtain ⟨t, ht, e1⟩ := solve_lo hS e hj
  obtain ⟨u, hu, e2⟩ := solve_hi hS e hj
  obtain ⟨t', ht', e3⟩ := h t ((truth_iff hS).1 ht)
  obtain ⟨u', hu', e4⟩ := h u ((truth_iff hS).1 hu)
  have h1 := solve_in hR ((truth_iff hR).2 ht') i hi
  have h2 := solve_in hR ((truth_iff hR).2 hu') i hi
  omega
theorem hull_same (hR : Val R) (hS : Val S) (h1 : ∀ t, Lived R t → ∃ t', Lived S t') (h2 : ∀ t, Lived S t → ∃ t', Lived R t') : (solveF false R).2 = (solveF false S).2 := by
  rw [Bool.eq_iff_iff]
  exact ⟨hull_may hS hR h1, hull_may hR hS h2⟩
theorem hull_eq (hR : Val R) (hS : Val S) {i j : Nat} {d : Int} (hi : i < 20) (hj : j < 20) (h1 : ∀ t, Lived R t → ∃ t', Lived S t' ∧ t' j = t i + d) (h2 : ∀ t, Lived S t → ∃ t', Lived R t' ∧ t' i = t j - d) (e : (solveF false R).2 = true) :
    ((solveF false S).1.getD j (0, 0)).1 = ((solveF false R).1.getD i (0, 0)).1 + d ∧ ((solveF false S).1.getD j (0, 0)).2 = ((solveF false R).1.getD i (0, 0)).2 + d := by
  have e' : (solveF false S).2 = true := hull_may hS hR (fun t ht => (h1 t ht).imp fun _ h => h.1) e
  have a := hull_sub hR hS hi hj h2 e'
  have b := hull_sub hS hR (d := -d) hj hi (fun t ht => by
    obtain ⟨t', x, y⟩ := h1 t ht
    exact ⟨t', x, by omega⟩) e
  omega
end
def shM (d : Int) (m : Man) : Man := ⟨m.name, m.blo + d, m.bhi + d, m.dlo + d, m.dhi + d⟩
def shR (d : Int) (c : Rec) : Rec := if c.kin = true then c else ⟨c.kin, c.man, c.office, c.town, c.child, c.lo + d, c.hi + d⟩
def shift (d : Int) (r : Roll) : Roll := { r with ms := r.ms.map (shM d), cs := r.cs.map (shR d) }
theorem shR_kin {d : Int} {c : Rec} : (shR d c).kin = c.kin := by unfold shR; split <;> rfl
theorem shR_man {d : Int} {c : Rec} : (shR d c).man = c.man := by unfold shR; split <;> rfl
theorem shR_office {d : Int} {c : Rec} : (shR d c).office = c.office := by unfold shR; split <;> rfl
theorem shR_town {d : Int} {c : Rec} : (shR d c).town = c.town := by unfold shR; split <;> rfl
theorem shR_child {d : Int} {c : Rec} : (shR d c).child = c.child := by unfold shR; split <;> rfl
theorem shift_back {d : Int} {r : Roll} : shift (-d) (shift d r) = r := by
  unfold shift
  simp only [List.map_map]
  have e1 : r.ms.map (shM (-d) ∘ shM d) = r.ms := by
    conv => rhs; rw [← List.map_id r.ms]
    refine List.map_congr_left fun m _ => ?_
    obtain ⟨a, x, y, z, w⟩ := m
    show Man.mk a (x + d + -d) (y + d + -d) (z + d + -d) (w + d + -d) = _
    rw [Int.add_neg_cancel_right, Int.add_neg_cancel_right, Int.add_neg_cancel_right, Int.add_neg_cancel_right]; rfl
  have e2 : r.cs.map (shR (-d) ∘ shR d) = r.cs := by
    conv => rhs; rw [← List.map_id r.cs]
    refine List.map_congr_left fun c _ => ?_
    show shR (-d) (shR d c) = c
    cases hk : c.kin with
    | true =>
      have : shR d c = c := by unfold shR; rw [if_pos hk]
      rw [this]; unfold shR; rw [if_pos hk]
    | false =>
      unfold shR
      simp only [hk, Bool.false_eq_true, if_false]
      rw [Int.add_neg_cancel_right, Int.add_neg_cancel_right, ← hk]
  rw [e1, e2]
def shT (r : Roll) (d : Int) (t : Nat → Int) : Nat → Int := fun i => if i < r.ms.length ∨ (6 ≤ i ∧ i < 6 + r.ms.length) ∨ (12 ≤ i ∧ i < 12 + r.cs.length ∧ r.cs[i - 12]!.kin = false) then t i + d else t i
theorem shift_ms {d : Int} {r : Roll} {i : Nat} (h : i < r.ms.length) : (shift d r).ms[i]! = shM d r.ms[i]! := map_get! h
theorem shift_cs {d : Int} {r : Roll} {i : Nat} (h : i < r.cs.length) : (shift d r).cs[i]! = shR d r.cs[i]! := map_get! h
theorem shift_ml {d : Int} {r : Roll} : (shift d r).ms.length = r.ms.length := List.length_map _
theorem shift_cl {d : Int} {r : Roll} : (shift d r).cs.length = r.cs.length := List.length_map _
theorem FitP.shift {os : List Office} {fs : List (List Bool)} {a c : Rec} {y z d : Int} (h : FitP os fs a y c z) : FitP os fs (shR d a) (y + d) (shR d c) (z + d) := by
  obtain ⟨h1, h2, h3, h4⟩ := h
  unfold FitP
  rw [shR_office, shR_office, shR_town, shR_town]
  refine ⟨fun e e0 => ?_, fun e => ?_, fun e e0 => ?_, fun e e0 => ?_⟩
  · rcases h1 e e0 with (h | h) | ⟨h, h'⟩
    · exact .inl (.inl (by omega))
    · exact .inl (.inr (by omega))
    · exact .inr ⟨h, by omega⟩
  · have := h2 e; omega
  · have := h3 e e0; omega
  · have := h4 e e0; omega
theorem shift_val {d : Int} {r : Roll} (hv : WF r) (hn : Near r 500) (h1 : -600 ≤ d) (h2 : d ≤ 600) : WF (shift d r) where
  os_l := hv.os_l
  os_ok := hv.os_ok
  life := hv.life
  par := hv.par
  fs_l := hv.fs_l
  fs_ok := hv.fs_ok
  ms_l := by have := hv.ms_l; rw [shift_ml]; exact this
  ms_ok m hm := by
    obtain ⟨m, hm', rfl⟩ := List.mem_map.1 hm
    have := hv.ms_ok m hm'
    have := hn.1 m hm'
    unfold YearsOk at *
    unfold shM
    simp only
    omega
  cs_l := by have := hv.cs_l; rw [shift_cl]; exact this
  cs_ok c hc := by
    obtain ⟨c, hc', rfl⟩ := List.mem_map.1 hc
    obtain ⟨a1, a2, a3, a4⟩ := hv.cs_ok c hc'
    have hnr := hn.2 c hc'
    unfold RecVal
    rw [shR_man, shR_kin, shR_child, shR_office, shR_town, shift_ml]
    refine ⟨a1, a2, fun e => ?_, fun e => ?_⟩
    · obtain ⟨b1, b2, b3, b4, b5, b6, b7⟩ := a3 e
      unfold shR; rw [if_pos e]
      exact ⟨b1, b2, b3, b4, b5, b6, b7⟩
    · obtain ⟨b1, b2, b3, b4, b5, b6⟩ := a4 e
      unfold shR; rw [if_neg (by simp [e])]
      refine ⟨b1, b2, b3, b4, b5, ?_⟩
      unfold YearsOk at *
      simp only
      omega
  names m hm := by
    obtain ⟨m, hm', rfl⟩ := List.mem_map.1 hm
    exact hv.names m hm'
  diag := hv.diag
  symm := hv.symm
theorem shift_lived {d : Int} {r : Roll} (hv : Val r) {t : Nat → Int} (h : Lived r t) : Lived (shift d r) (shT r d t) := by
  have hm6 := hv.ms_l
  have hb : ∀ i, i < r.ms.length → shT r d t i = t i + d := fun i hi => if_pos (.inl hi)
  have hd : ∀ i, i < r.ms.length → shT r d t (6 + i) = t (6 + i) + d := fun i hi => if_pos (.inr (.inl ⟨by omega, by omega⟩))
  have hh : ∀ i, i < r.cs.length → r.cs[i]!.kin = false → shT r d t (12 + i) = t (12 + i) + d := fun i hi hk => if_pos (.inr (.inr ⟨by omega, by omega, by rw [show 12 + i - 12 = i by omega]; exact hk⟩))
  have hk : ∀ i, i < r.cs.length → r.cs[i]!.kin = true → shT r d t (12 + i) = t (12 + i) := fun i hi hk => if_neg (by
    rintro (h | h | ⟨_, _, h⟩)
    · omega
    · omega
    · rw [show 12 + i - 12 = i by omega, hk] at h; cases h)
  have hman : ∀ i, i < r.cs.length → (r.cs[i]!.man).toNat < r.ms.length := fun i hi => by
    obtain ⟨a1, a2, _⟩ := hv.cs_ok _ (get!_mem hi); omega
  refine ⟨fun i hi => ?_, fun i hi => ?_, fun i hi => ?_, fun i hi => ?_, fun i hi hkn => ?_, fun i hi hkn => ?_, fun i k hik hki k1 k2 hm => ?_, fun i hi hu => ?_⟩
  · rw [shift_ml] at hi
    rw [shift_ms hi, hb i hi]
    have := h.born i hi
    unfold shM; simp only; omega
  · rw [shift_ml] at hi
    rw [shift_ms hi, hd i hi]
    have := h.died i hi
    unfold shM; simp only; omega
  · rw [shift_ml] at hi
    rw [hb i hi, hd i hi]
    have := h.life i hi
    show _ ∧ _ ≤ _ + r.life
    omega
  · rw [shift_cl] at hi
    rw [shift_cs hi]
    have := h.year i hi
    cases e : r.cs[i]!.kin with
    | true => rw [hk i hi e]; unfold shR; rw [if_pos e]; exact this
    | false => rw [hh i hi e]; unfold shR; rw [if_neg (by rw [e]; decide)]; simp only; omega
  · rw [shift_cl] at hi
    rw [shift_cs hi, shR_kin] at hkn
    rw [shift_cs hi, shR_man, shR_child]
    obtain ⟨b1, b2, _⟩ := (hv.cs_ok _ (get!_mem hi)).2.2.1 hkn
    have hmi := hman i hi
    rw [hb _ hmi, hb _ (by omega), hd _ hmi]
    have := h.kin i hi hkn
    show _ + r.plo ≤ _ ∧ _ ≤ _ + r.phi ∧ _
    omega
  · rw [shift_cl] at hi
    rw [shift_cs hi, shR_kin] at hkn
    have ha : ageOf (shift d r).os ((shift d r).cs[i]!) = ageOf r.os r.cs[i]! := by rw [shift_cs hi]; unfold ageOf; rw [shR_office]; rfl
    rw [ha, shift_cs hi, shR_man, hb _ (hman i hi), hd _ (hman i hi), hh i hi hkn]
    have := h.held i hi hkn
    omega
  · rw [shift_cl] at hki
    have hi : i < r.cs.length := by omega
    rw [shift_cs hi, shR_kin] at k1
    rw [shift_cs hki, shR_kin] at k2
    rw [shift_cs hi, shift_cs hki, shR_man, shR_man] at hm
    rw [shift_cs hi, shift_cs hki, hh i hi k1, hh k hki k2]
    exact (h.fit i k hik hki k1 k2 hm).shift
  · have hu' : ¬ Used r i := fun e => hu (by unfold Used at *; rw [shift_ml, shift_cl]; exact e)
    have e : shT r d t i = t i := if_neg (fun e => hu' (by unfold Used; omega))
    rw [e]; exact h.zero i hi hu'
theorem shift_drop {d : Int} {r : Roll} {x : List Nat} : dropF (shift d r) x = shift d (dropF r x) := by
  unfold dropF
  have e : keptTo (shift d r) x (shift d r).cs.length = (keptTo r x r.cs.length).map (shR d) := by
    unfold keptTo
    rw [shift_cl, List.map_map]
    refine List.map_congr_left fun i hi => ?_
    have := List.mem_range.1 (List.mem_filter.1 hi).1
    rw [shift_cs this]; rfl
  rw [e]
  rfl
theorem Near.drop {r : Roll} {B : Int} (h : Near r B) (x : List Nat) : Near (dropF r x) B := ⟨h.1, fun c hc => h.2 c (keptTo_mem (Nat.le_refl _) hc)⟩
theorem shift_back_lived {d : Int} {r : Roll} (hv : WF r) (hn : Near r 500) (h1 : -600 ≤ d) (h2 : d ≤ 600) {t : Nat → Int} (h : Lived (shift d r) t) : Lived r (shT (shift d r) (-d) t) := by
  have := shift_lived (d := -d) (shift_val hv hn h1 h2).toVal h
  rw [shift_back] at this
  exact this
theorem shift_may {d : Int} {r : Roll} (hv : WF r) (hn : Near r 500) (h1 : -600 ≤ d) (h2 : d ≤ 600) {x : List Nat} : mayF (shift d r) x = mayF r x := by
  have hd := hv.drop x
  have hnd := hn.drop x
  rw [Bool.eq_iff_iff, mayF_iff (shift_val hv hn h1 h2).toVal, mayF_iff hv.toVal, shift_drop]
  exact ⟨fun ⟨t, ht⟩ => ⟨_, shift_back_lived hd hnd h1 h2 ht⟩, fun ⟨t, ht⟩ => ⟨_, shift_lived hd.toVal ht⟩⟩
theorem shift_wrong {d : Int} {r : Roll} (hv : WF r) (hn : Near r 500) (h1 : -600 ≤ d) (h2 : d ≤ 600) : wrongF (shift d r) = wrongF r := by
  unfold wrongF
  rw [shift_cl]
  congr 1
  funext x
  exact shift_may hv hn h1 h2
end Go.Proofs
namespace Go.Proofs
open Go Go.Idl
set_option linter.unusedSimpArgs false
variable {b : Bool}
section
variable {m : Mem} {K : Vl → Mem → Prop}
theorem moved_to {lo hi d : Int} : Ans Try.prog (AA b) 47 [.agg [I lo, I hi], I d] (fun v => v = .agg [I (w64 (lo + d)), I (w64 (hi + d))]) := by
  refine Ans_of Try.func47 rfl rfl ?_
  simp +contextual (maxSteps := 1000000) (disch := first | omega | (with_reducible first | refine krN ?_ | refine krS ?_ | refine krP ?_ | refine krG ?_); kernel_rfl | refine kr ?_; simp only [go_sem, reduceCtorEq, w64]; done | fail) only [go_sem, ↓reduceIte, Nat.reduceEqDiff, Nat.reduceAdd, Nat.reduceMul, Nat.reduceLeDiff, Nat.reduceLT, Nat.reduceBEq, bne, reduceCtorEq, Int.reduceLE, Int.reduceToNat, Int.reduceLT, Int.reduceAdd, Int.reduceSub, Int.reduceNeg, Int.cast_ofNat_Int, w64]
theorem wc47 {lo hi d : Int} : WC Try.prog (AA b) (.fn (.func 47) [] []) [.v (.agg [I lo, I hi]), .v (I d)] m K = K (.agg [I (w64 (lo + d)), I (w64 (hi + d))]) m := WC_flat (by simp only [mkAnn, K47]) (rfAs (xs := [.agg [I lo, I hi], I d]) rfl) moved_to rfl
end
theorem bin_neSs (x y : Int) : binOpV { ok := true, agg := true, size := 2, zero := Vl.agg [I 0, I 0], flat := some [CK.i, CK.i], k := TK.struct [(0, false, 1), (1, false, 1)] } .neq (Vl.agg [.int .i64 x, .int .i64 y]) (Vl.agg [.int .i64 x, .int .i64 y]) = some (.bool false) := by
  simp [binOpV, eqCells, eqCell]
theorem solve_b {R : Roll} (hv : Val R) (h : (solveF false R).2 = true) {i : Nat} (hi : i < 20) : -100000 ≤ ((solveF false R).1.getD i (0, 0)).1 ∧ ((solveF false R).1.getD i (0, 0)).1 ≤ 100000 ∧ -100000 ≤ ((solveF false R).1.getD i (0, 0)).2 ∧ ((solveF false R).1.getD i (0, 0)).2 ≤ 100000 := by
  obtain ⟨t, ht, e1⟩ := solve_lo hv h hi
  obtain ⟨u, hu, e2⟩ := solve_hi hv h hi
  have hk := (recK_InB hv (Nat.le_refl R.cs.length)).get i hi
  have h1 := ht.1 i hi
  have h2 := hu.1 i hi
  unfold k0F at h1 h2
  omega
theorem wrong_form (r : Roll) : ∃ (l : List Nat) (c : Int), wrongV r = .tup [SL 1 (l.map IN) none, I c] ∧ l.length ≤ r.cs.length := by
  unfold wrongV
  cases h : wrongF r with
  | none => exact ⟨[], 9, rfl, Nat.zero_le _⟩
  | some l => exact ⟨l, 0, by simp only; rw [listV_SL], (wrong_len h).1⟩
theorem killHp_low {s : Int × Int} {os : List Office} {ms : List Man} {cs : List Rec} {T : Nat} {F : Nat → Nat → Bool} {x : Bool} {bs ds ys : List Int} {hk : Nat → Ob} (hT : 1 ≤ T)
    (h : killHp (1 :: 2 :: (((List.range T).map fun j => [5 + j]).flatten ++ [3, 4])) (HPr ⟨s, os, ms, cs, T, T, F, x, bs, ds, ys⟩) = hk) : hk 0 = urnO s := by
  rw [← h]
  rw [killHp_ne (by
    simp only [List.mem_cons, List.mem_append, List.mem_flatten, List.mem_map, List.mem_range, List.not_mem_nil, or_false, not_or]
    refine ⟨by omega, by omega, ?_, by omega, by omega⟩
    rintro ⟨l, ⟨j, hj, rfl⟩, hm⟩
    rw [List.mem_singleton] at hm
    omega)]
  exact HPr_0
set_option maxRecDepth 10000 in
set_option maxHeartbeats 8000000 in
theorem later_to {ns : List Int} (hn : ns.length ≤ 9223372036854775807) {o : Option Bool} : Ans Try.prog (AA true) 11 [SL 1 (ns.map I) o] (fun v => v = .bool true) := by
  refine Ans_of Try.func11 rfl rfl ?_
  simp +contextual (maxSteps := 1000000) (disch := first | omega | (with_reducible first | refine krN ?_ | refine krS ?_ | refine krP ?_ | refine krG ?_); kernel_rfl | refine kr ?_; simp only [go_sem, reduceCtorEq]; done | fail) only [go_sem, ↓reduceIte, Nat.reduceEqDiff, Nat.reduceAdd, Nat.reduceMul, Nat.reduceLeDiff, Nat.reduceLT, Nat.reduceBEq, bne, reduceCtorEq, Int.reduceLE, Int.reduceToNat, Int.reduceLT, Int.reduceAdd, Int.reduceSub, Int.reduceNeg, Int.cast_ofNat_Int]
  refine wc_heap (by simp only [mkAnn, K18]) rfl (newUrn_to (b := true) hn) ?_
  rintro v hp' nx' ⟨rfl, rfl, x, y, rfl⟩
  simp +contextual (maxSteps := 1000000) (disch := first | omega | (with_reducible first | refine krN ?_ | refine krS ?_ | refine krP ?_ | refine krG ?_); kernel_rfl | refine kr ?_; simp only [go_sem, reduceCtorEq]; done | fail) only [go_sem, ↓reduceIte, Nat.reduceEqDiff, Nat.reduceAdd, Nat.reduceMul, Nat.reduceLeDiff, Nat.reduceLT, Nat.reduceBEq, bne, reduceCtorEq, Int.reduceLE, Int.reduceToNat, Int.reduceLT, Int.reduceAdd, Int.reduceSub, Int.reduceNeg, Int.cast_ofNat_Int]
  refine wc_heap (by simp only [mkAnn, K30]) rfl (spoilt_to (b := true) (s := (x, y)) (recs := 5) (by decide) (by decide)) ?_
  rintro v hp' nx' ⟨s, life, plo, phi, T, F, os, ms, cs, bs, ds, ys, hw, hnear, hcl, hT1, hmen, rfl, rfl, rfl⟩
  have r1 := rfR1 (s := s) (os := os) (ms := ms) (cs := cs) (T := T) (t := T) (F := F) (x := true) (bs := bs) (ds := ds) (ys := ys) rfl
  have r2 := rfR2 (s := s) (os := os) (ms := ms) (cs := cs) (T := T) (F := F) (x := true) (bs := bs) (ds := ds) (ys := ys)
  have r3 := rfR3 (s := s) (os := os) (ms := ms) (cs := cs) (T := T) (t := T) (F := F) (x := true) (bs := bs) (ds := ds) (ys := ys) rfl
  have r4 := rfR4 (s := s) (os := os) (ms := ms) (cs := cs) (T := T) (t := T) (F := F) (x := true) (bs := bs) (ds := ds) (ys := ys) rfl
  simp +contextual (maxSteps := 1000000) (disch := first | omega | (with_reducible first | refine krN ?_ | refine krS ?_ | refine krP ?_ | refine krG ?_); kernel_rfl | refine kr ?_; simp only [go_sem, reduceCtorEq, r1, r2, r3, r4]; done | fail) only [go_sem, ↓reduceIte, Nat.reduceEqDiff, Nat.reduceAdd, Nat.reduceMul, Nat.reduceLeDiff, Nat.reduceLT, Nat.reduceBEq, bne, reduceCtorEq, Int.reduceLE, Int.reduceToNat, Int.reduceLT, Int.reduceAdd, Int.reduceSub, Int.reduceNeg, Int.cast_ofNat_Int, r1, r2, r3, r4]
  clear r1 r2 r3 r4
  generalize hhk : killHp _ (HPr _) = hk
  have hk0 := killHp_low hT1 hhk
  rw [enc_rollD]
  obtain ⟨R, hRd⟩ : ∃ R, R = rollD life plo phi T F os ms cs := ⟨_, rfl⟩
  rw [← hRd] at hw hnear ⊢
  obtain ⟨nx, hnx⟩ : ∃ nx, nx = 5 + T + 1 + 1 + 1 := ⟨_, rfl⟩
  have hnx0 : 0 < nx := by omega
  rw [← hnx]
  clear hmen hcl hhk hRd hnx hT1
  refine busy_wc hw fun t => ?_
  cases t with
  | true => simp +contextual (maxSteps := 1000000) (disch := first | omega | (with_reducible first | refine krN ?_ | refine krS ?_ | refine krP ?_ | refine krG ?_); kernel_rfl | refine kr ?_; simp only [go_sem, reduceCtorEq, wc16]; done | fail) only [go_sem, ↓reduceIte, Nat.reduceEqDiff, Nat.reduceAdd, Nat.reduceMul, Nat.reduceLeDiff, Nat.reduceLT, Nat.reduceBEq, bne, reduceCtorEq, Int.reduceLE, Int.reduceToNat, Int.reduceLT, Int.reduceAdd, Int.reduceSub, Int.reduceNeg, Int.cast_ofNat_Int, wc16]
  | false =>
    have hU : UrnOk 0 hk := by unfold UrnOk urnAt; rw [hk0]
    have hat : urnAt 0 hk = s := by unfold urnAt; rw [hk0]
    obtain ⟨d, hd⟩ : ∃ d, d = fromR s (-500) 500 := ⟨_, rfl⟩
    have hdb := fromR_b s (lo := -500) (hi := 500) (by omega) (by omega) (by omega) (by omega)
    rw [← hd] at hdb
    obtain ⟨hm1, hm6⟩ := hw.ms_l
    have hc8 := hw.cs_l
    have ho5 := hw.os_l
    have hf4 := hw.fs_l
    simp +contextual (maxSteps := 1000000) (disch := first | omega | (with_reducible first | refine krN ?_ | refine krS ?_ | refine krP ?_ | refine krG ?_); kernel_rfl | refine kr ?_; simp only [go_sem, reduceCtorEq, wc16, hU, hat, ← hd]; done | fail) only [go_sem, ↓reduceIte, Nat.reduceEqDiff, Nat.reduceAdd, Nat.reduceMul, Nat.reduceLeDiff, Nat.reduceLT, Nat.reduceBEq, bne, reduceCtorEq, Int.reduceLE, Int.reduceToNat, Int.reduceLT, Int.reduceAdd, Int.reduceSub, Int.reduceNeg, Int.cast_ofNat_Int, wc16, hU, hat, ← hd]
    refine wc_heap (by simp only [mkAnn, K19]) rfl (copy_to (b := true) (s := fromS s (-500) 500) (by omega) (by omega) (by omega) (by omega) (fun w h => by rw [hw.fs_ok w h]; omega) hnx0 (upd_same hk 0 _)) ?_
    rintro v hp' nx' ⟨rfl, rfl, rfl⟩
    generalize upd hk 0 _ = h0
    generalize fromS s (-500) 500 = s1
    clear hU hat hk0 hd
    simp +contextual (maxSteps := 1000000) (disch := first | omega | (with_reducible first | refine krN ?_ | refine krS ?_ | refine krP ?_ | refine krG ?_); kernel_rfl | refine kr ?_; simp only [go_sem, reduceCtorEq, wc16]; done | fail) only [go_sem, ↓reduceIte, Nat.reduceEqDiff, Nat.reduceAdd, Nat.reduceMul, Nat.reduceLeDiff, Nat.reduceLT, Nat.reduceBEq, bne, reduceCtorEq, Int.reduceLE, Int.reduceToNat, Int.reduceLT, Int.reduceAdd, Int.reduceSub, Int.reduceNeg, Int.cast_ofNat_Int, wc16]
    have hw64 : ∀ a : Int, -3000 ≤ a → a ≤ 3000 → w64 a = a := fun a h1 h2 => wrap_i64 (by omega) (by omega)
    refine wp_loop_to R.ms.length (fun i st => ∃ (ex : List (Nat × Vl)), st = ({ sl := (4, .loc (encRoll (some false) (some false) (some false) (some false) R)) :: (5, I d) :: (6, .loc (.agg [.own nx R.os.length, I R.life, I R.plo, I R.phi, .own (nx + 3) R.fs.length, .own (nx + 1) R.ms.length, .own (nx + 2) R.cs.length])) :: (7, I i) :: ex, hp := CPr h0 nx ⟨s1, R.os, pm (shM d) R.ms i, R.cs, R.fs⟩, nx := nx + 4 + R.fs.length } : FS)) ?_ 0 (Nat.zero_le _) ⟨_, rfl⟩
    rintro i st hi ⟨ex, rfl⟩
    by_cases hc : i < R.ms.length
    · have hpl : (pm (shM d) R.ms i).length = R.ms.length := pm_len
      have hpg : (pm (shM d) R.ms i)[i]! = R.ms[i]! := pm_get hc
      have hps : (pm (shM d) R.ms i).set i (shM d R.ms[i]!) = pm (shM d) R.ms (i + 1) := pm_set hc
      have hms := hnear.1 _ (get!_mem hc)
      have hmy := hw.ms_ok _ (get!_mem hc)
      unfold YearsOk at hmy
      have q1 := hw64 (R.ms[i]!.blo + d) (by omega) (by omega)
      have q2 := hw64 (R.ms[i]!.bhi + d) (by omega) (by omega)
      have q3 := hw64 (R.ms[i]!.dlo + d) (by omega) (by omega)
      have q4 := hw64 (R.ms[i]!.dhi + d) (by omega) (by omega)
      generalize pm (shM d) R.ms i = P at hpl hpg hps
      have hiP : i < P.length := by omega
      simp +contextual (maxSteps := 1000000) (disch := first | omega | (with_reducible first | refine krN ?_ | refine krS ?_ | refine krP ?_ | refine krG ?_); kernel_rfl | refine kr ?_; simp only [go_sem, reduceCtorEq, Int.ofNat_lt, hc, ixC3, rdC3, wrC3, CPr_setC3, hpl, hpg, encM, wc47, q1, q2, q3, q4, List.length_set, List.set_set, get!_set_eq, hiP]; done | fail) only [go_sem, ↓reduceIte, Nat.reduceEqDiff, Nat.reduceAdd, Nat.reduceMul, Nat.reduceLeDiff, Nat.reduceLT, Nat.reduceBEq, bne, reduceCtorEq, Int.reduceLE, Int.reduceToNat, Int.reduceLT, Int.reduceAdd, Int.reduceSub, Int.reduceNeg, Int.cast_ofNat_Int, Int.ofNat_lt, hc, ixC3, rdC3, wrC3, CPr_setC3, hpl, hpg, encM, wc47, q1, q2, q3, q4, List.length_set, List.set_set, get!_set_eq, hiP]
      exact ⟨_, by rw [← hps]; rfl⟩
    · have hie : i = R.ms.length := by omega
      subst hie
      rw [pm_all]
      simp +contextual (maxSteps := 1000000) (disch := first | omega | (with_reducible first | refine krN ?_ | refine krS ?_ | refine krP ?_ | refine krG ?_); kernel_rfl | refine kr ?_; simp only [go_sem, reduceCtorEq, Int.lt_irrefl]; done | fail) only [go_sem, ↓reduceIte, Nat.reduceEqDiff, Nat.reduceAdd, Nat.reduceMul, Nat.reduceLeDiff, Nat.reduceLT, Nat.reduceBEq, bne, reduceCtorEq, Int.reduceLE, Int.reduceToNat, Int.reduceLT, Int.reduceAdd, Int.reduceSub, Int.reduceNeg, Int.cast_ofNat_Int, Int.lt_irrefl]
      clear ex hi hc
      refine wp_loop_to R.cs.length (fun i st => ∃ (ex : List (Nat × Vl)), st = ({ sl := (4, .loc (encRoll (some false) (some false) (some false) (some false) R)) :: (5, I d) :: (6, .loc (.agg [.own nx R.os.length, I R.life, I R.plo, I R.phi, .own (nx + 3) R.fs.length, .own (nx + 1) R.ms.length, .own (nx + 2) R.cs.length])) :: (8, I i) :: ex, hp := CPr h0 nx ⟨s1, R.os, R.ms.map (shM d), pm (shR d) R.cs i, R.fs⟩, nx := nx + 4 + R.fs.length } : FS)) ?_ 0 (Nat.zero_le _) ⟨_, rfl⟩
      rintro i st hi ⟨ex, rfl⟩
      by_cases hc : i < R.cs.length
      · have hpl : (pm (shR d) R.cs i).length = R.cs.length := pm_len
        have hpg : (pm (shR d) R.cs i)[i]! = R.cs[i]! := pm_get hc
        have hps : (pm (shR d) R.cs i).set i (shR d R.cs[i]!) = pm (shR d) R.cs (i + 1) := pm_set hc
        have hcn := hnear.2 _ (get!_mem hc)
        obtain ⟨_, _, hck, hch⟩ := hw.cs_ok _ (get!_mem hc)
        generalize pm (shR d) R.cs i = P at hpl hpg hps
        have hiP : i < P.length := by omega
        cases hk : R.cs[i]!.kin with
        | true =>
          have hsh : P.set i (shR d R.cs[i]!) = P := by
            unfold shR
            rw [if_pos hk, ← hpg, get!_eq hiP, List.set_getElem_self]
          simp +contextual (maxSteps := 1000000) (disch := first | omega | (with_reducible first | refine krN ?_ | refine krS ?_ | refine krP ?_ | refine krG ?_); kernel_rfl | refine kr ?_; simp only [go_sem, reduceCtorEq, Int.ofNat_lt, hc, ixC4, rdC4, hpl, hpg, encC, hk]; done | fail) only [go_sem, ↓reduceIte, Nat.reduceEqDiff, Nat.reduceAdd, Nat.reduceMul, Nat.reduceLeDiff, Nat.reduceLT, Nat.reduceBEq, bne, reduceCtorEq, Int.reduceLE, Int.reduceToNat, Int.reduceLT, Int.reduceAdd, Int.reduceSub, Int.reduceNeg, Int.cast_ofNat_Int, Int.ofNat_lt, hc, ixC4, rdC4, hpl, hpg, encC, hk]
          exact ⟨_, by rw [← hps, hsh]⟩
        | false =>
          have hch := (hch hk).2.2.2.2.2
          unfold YearsOk at hch
          have q1 := hw64 (R.cs[i]!.lo + d) (by omega) (by omega)
          have q2 := hw64 (R.cs[i]!.hi + d) (by omega) (by omega)
          simp +contextual (maxSteps := 1000000) (disch := first | omega | (with_reducible first | refine krN ?_ | refine krS ?_ | refine krP ?_ | refine krG ?_); kernel_rfl | refine kr ?_; simp only [go_sem, reduceCtorEq, Int.ofNat_lt, hc, ixC4, rdC4, wrC4, CPr_setC4, hpl, hpg, encC, hk, wc47, q1, q2, List.length_set, List.set_set, get!_set_eq, hiP]; done | fail) only [go_sem, ↓reduceIte, Nat.reduceEqDiff, Nat.reduceAdd, Nat.reduceMul, Nat.reduceLeDiff, Nat.reduceLT, Nat.reduceBEq, bne, reduceCtorEq, Int.reduceLE, Int.reduceToNat, Int.reduceLT, Int.reduceAdd, Int.reduceSub, Int.reduceNeg, Int.cast_ofNat_Int, Int.ofNat_lt, hc, ixC4, rdC4, wrC4, CPr_setC4, hpl, hpg, encC, hk, wc47, q1, q2, List.length_set, List.set_set, get!_set_eq, hiP]
          exact ⟨_, by rw [← hps]; unfold shR; rw [if_neg (by rw [hk]; decide), hk]⟩
      · have hie : i = R.cs.length := by omega
        subst hie
        rw [pm_all]
        have f1 := rfC1 (h := h0) (n := nx) (s := s1) (os := R.os) (ms := R.ms.map (shM d)) (cs := R.cs.map (shR d)) (fs := R.fs) hnx0 rfl
        have f2 := rfC2 (h := h0) (n := nx) (s := s1) (os := R.os) (ms := R.ms.map (shM d)) (cs := R.cs.map (shR d)) (fs := R.fs) rfl
        have f3 := rfC3 (h := h0) (n := nx) (s := s1) (os := R.os) (ms := R.ms.map (shM d)) (cs := R.cs.map (shR d)) (fs := R.fs) (List.length_map (shM d))
        have f4 := rfC4 (h := h0) (n := nx) (s := s1) (os := R.os) (ms := R.ms.map (shM d)) (cs := R.cs.map (shR d)) (fs := R.fs) (List.length_map (shR d))
        simp +contextual (maxSteps := 1000000) (disch := first | omega | (with_reducible first | refine krN ?_ | refine krS ?_ | refine krP ?_ | refine krG ?_); kernel_rfl | refine kr ?_; simp only [go_sem, reduceCtorEq, Int.lt_irrefl, f1, f2, f3, f4]; done | fail) only [go_sem, ↓reduceIte, Nat.reduceEqDiff, Nat.reduceAdd, Nat.reduceMul, Nat.reduceLeDiff, Nat.reduceLT, Nat.reduceBEq, bne, reduceCtorEq, Int.reduceLE, Int.reduceToNat, Int.reduceLT, Int.reduceAdd, Int.reduceSub, Int.reduceNeg, Int.cast_ofNat_Int, Int.lt_irrefl, f1, f2, f3, f4]
        clear f1 f2 f3 f4 ex hi hc
        generalize killHp _ (CPr _ _ _) = hk2
        have e2 : Vl.agg [.lst 3 (R.os.map encO) false, I R.life, I R.plo, I R.phi, .lst 1 (R.fs.map encRow) false, .lst 5 ((R.ms.map (shM d)).map encM) false, .lst 7 ((R.cs.map (shR d)).map encC) false] = encRoll (some false) (some false) (some false) (some false) (shift d R) := rfl
        rw [e2]
        have hnear5 : Near R 500 := ⟨fun m hm => by have := hnear.1 m hm; omega, fun c hc => by have := hnear.2 c hc; omega⟩
        have hwS := shift_val hw hnear5 (d := d) (by omega) (by omega)
        have hwr := shift_wrong hw hnear5 (d := d) (by omega) (by omega)
        have hwvS : wrongV (shift d R) = wrongV R := by unfold wrongV; rw [hwr]
        obtain ⟨l, c, hwv, hll⟩ := wrong_form R
        rw [hwv] at hwvS
        have hll2 : l.length ≤ 1000 := by omega
        have hdl : decide (l = l) = true := decide_eq_true rfl
        have hml : (shift d R).ms.length = R.ms.length := shift_ml
        have hcl : (shift d R).cs.length = R.cs.length := shift_cl
        have hto : ∀ t, Lived R t → Lived (shift d R) (shT R d t) := fun t ht => shift_lived hw.toVal ht
        have hfrom : ∀ t, Lived (shift d R) t → Lived R (shT (shift d R) (-d) t) := fun t ht => shift_back_lived hw hnear5 (by omega) (by omega) ht
        have hsame := hull_same hw.toVal hwS.toVal (fun t ht => ⟨_, hto t ht⟩) (fun t ht => ⟨_, hfrom t ht⟩)
        have hlR := livesV.eq_1 R
        have hyR := yearsV.eq_1 R
        have hlS := livesV.eq_1 (shift d R)
        have hyS := yearsV.eq_1 (shift d R)
        rw [hml] at hlS
        rw [hcl] at hyS
        cases hsv : (solveF false R).2 with
        | false =>
          have hsS : (solveF false (shift d R)).2 = false := by rw [← hsame]; exact hsv
          have h90 : ¬ ((9 : Int) = 0) := by decide
          have p1 : (possF R).2 = 9 := by unfold possF; rw [if_neg (by rw [hsv]; decide)]
          have p2 : (possF (shift d R)).2 = 9 := by unfold possF; rw [if_neg (by rw [hsS]; decide)]
          rw [p1, if_neg h90] at hlR hyR
          rw [p2, if_neg h90] at hlS hyS
          simp +contextual (maxSteps := 1000000) (disch := first | omega | (with_reducible first | refine krN ?_ | refine krS ?_ | refine krP ?_ | refine krG ?_); kernel_rfl | refine kr ?_; simp only [go_sem, reduceCtorEq, wc16, wc20, wc22, wc31, wc33, hw, hwS, hlR, hyR, hlS, hyS, hwv, hwvS, hll2, hdl]; done | fail) only [go_sem, ↓reduceIte, Nat.reduceEqDiff, Nat.reduceAdd, Nat.reduceMul, Nat.reduceLeDiff, Nat.reduceLT, Nat.reduceBEq, bne, reduceCtorEq, Int.reduceLE, Int.reduceToNat, Int.reduceLT, Int.reduceAdd, Int.reduceSub, Int.reduceNeg, Int.cast_ofNat_Int, wc16, wc20, wc22, wc31, wc33, hw, hwS, hlR, hyR, hlS, hyS, hwv, hwvS, hll2, hdl]
          refine wp_loop_to 0 (fun i st => ∃ (ex : List (Nat × Vl)), st = ({ sl := (4, .loc (encRoll (some false) (some false) (some false) (some false) R)) :: (5, I d) :: (9, .nils) :: (10, .nils) :: (12, .nils) :: (13, .nils) :: (15, .nils) :: (17, .nils) :: (23, I i) :: ex, hp := hk2, nx := nx + 4 + R.fs.length } : FS)) ?_ 0 (Nat.le_refl _) ⟨_, rfl⟩
          rintro i st hi ⟨ex, rfl⟩
          obtain rfl : i = 0 := by omega
          simp +contextual (maxSteps := 1000000) (disch := first | omega | (with_reducible first | refine krN ?_ | refine krS ?_ | refine krP ?_ | refine krG ?_); kernel_rfl | refine kr ?_; simp only [go_sem, reduceCtorEq]; done | fail) only [go_sem, ↓reduceIte, Nat.reduceEqDiff, Nat.reduceAdd, Nat.reduceMul, Nat.reduceLeDiff, Nat.reduceLT, Nat.reduceBEq, bne, reduceCtorEq, Int.reduceLE, Int.reduceToNat, Int.reduceLT, Int.reduceAdd, Int.reduceSub, Int.reduceNeg, Int.cast_ofNat_Int]
          refine wp_loop_to 0 (fun i st => ∃ (ex : List (Nat × Vl)), st = ({ sl := (4, .loc (encRoll (some false) (some false) (some false) (some false) R)) :: (5, I d) :: (15, .nils) :: (17, .nils) :: (24, I i) :: ex, hp := hk2, nx := nx + 4 + R.fs.length } : FS)) ?_ 0 (Nat.le_refl _) ⟨_, rfl⟩
          clear hi ex
          rintro i st hi ⟨ex, rfl⟩
          obtain rfl : i = 0 := by omega
          simp +contextual (maxSteps := 1000000) (disch := first | omega | (with_reducible first | refine krN ?_ | refine krS ?_ | refine krP ?_ | refine krG ?_); kernel_rfl | refine kr ?_; simp only [go_sem, reduceCtorEq, wc16]; done | fail) only [go_sem, ↓reduceIte, Nat.reduceEqDiff, Nat.reduceAdd, Nat.reduceMul, Nat.reduceLeDiff, Nat.reduceLT, Nat.reduceBEq, bne, reduceCtorEq, Int.reduceLE, Int.reduceToNat, Int.reduceLT, Int.reduceAdd, Int.reduceSub, Int.reduceNeg, Int.cast_ofNat_Int, wc16]
        | true =>
          have hsS : (solveF false (shift d R)).2 = true := by rw [← hsame]; exact hsv
          have p1 : (possF R).2 = 0 ∧ (possF R).1 = (solveF false R).1 := by unfold possF; rw [if_pos hsv]; exact ⟨rfl, rfl⟩
          have p2 : (possF (shift d R)).2 = 0 ∧ (possF (shift d R)).1 = (solveF false (shift d R)).1 := by unfold possF; rw [if_pos hsS]; exact ⟨rfl, rfl⟩
          rw [if_pos p1.1, p1.2] at hlR hyR
          rw [if_pos p2.1, p2.2] at hlS hyS
          have spl : ∀ (k : Kn) (l : List Nat), (spans k l).length = l.length := fun k l => by unfold spans; rw [List.length_map]
          simp +contextual (maxSteps := 1000000) (disch := first | omega | (with_reducible first | refine krN ?_ | refine krS ?_ | refine krP ?_ | refine krG ?_); kernel_rfl | refine kr ?_; simp only [go_sem, reduceCtorEq, wc16, wc20, wc22, wc31, wc33, hw, hwS, hlR, hyR, hlS, hyS, hwv, hwvS, hll2, hdl, spl, List.length_range, List.length_map]; done | fail) only [go_sem, ↓reduceIte, Nat.reduceEqDiff, Nat.reduceAdd, Nat.reduceMul, Nat.reduceLeDiff, Nat.reduceLT, Nat.reduceBEq, bne, reduceCtorEq, Int.reduceLE, Int.reduceToNat, Int.reduceLT, Int.reduceAdd, Int.reduceSub, Int.reduceNeg, Int.cast_ofNat_Int, wc16, wc20, wc22, wc31, wc33, hw, hwS, hlR, hyR, hlS, hyS, hwv, hwvS, hll2, hdl, spl, List.length_range, List.length_map]
          have hq : ∀ i, i < 20 → (∀ t, shT R d t i = t i + d) → (∀ t, shT (shift d R) (-d) t i = t i + -d) → ((solveF false (shift d R)).1.getD i (0, 0)).1 = w64 (((solveF false R).1.getD i (0, 0)).1 + d) ∧ ((solveF false (shift d R)).1.getD i (0, 0)).2 = w64 (((solveF false R).1.getD i (0, 0)).2 + d) := fun i hi h1 h2 => by
            have := hull_eq hw.toVal hwS.toVal (d := d) hi hi (fun t ht => ⟨_, hto t ht, h1 t⟩) (fun t ht => ⟨_, hfrom t ht, (h2 t).trans (by omega)⟩) hsv
            have hb := solve_b hw.toVal hsv hi
            rw [this.1, this.2]
            unfold w64
            rw [wrap_i64 (by omega) (by omega), wrap_i64 (by omega) (by omega)]
            exact ⟨rfl, rfl⟩
          have hyk : ∀ (p : Kn) i, R.cs[i]!.kin = true → yearAt R p i = Sp 0 0 := fun p i h => by unfold yearAt; rw [if_pos h]
          have hyh : ∀ (p : Kn) i, R.cs[i]!.kin = false → yearAt R p i = Sp (p.getD (12 + i) (0, 0)).1 (p.getD (12 + i) (0, 0)).2 := fun p i h => by unfold yearAt; rw [if_neg (by rw [h]; decide)]
          have hyS2 : ∀ (p : Kn) i, i < R.cs.length → yearAt (shift d R) p i = yearAt R p i := fun p i h => by unfold yearAt; rw [shift_cs h, shR_kin]
          generalize (solveF false R).1 = p at hq ⊢
          generalize (solveF false (shift d R)).1 = p' at hq ⊢
          refine wp_loop_to R.ms.length (fun i st => ∃ (ex : List (Nat × Vl)), st = ({ sl := (4, .loc (encRoll (some false) (some false) (some false) (some false) R)) :: (5, I d) :: (9, .lst 2 (spans p (List.range R.ms.length)) false) :: (10, .lst 2 (spans p ((List.range R.ms.length).map fun x => 6 + x)) false) :: (12, .lst 2 (spans p' (List.range R.ms.length)) false) :: (13, .lst 2 (spans p' ((List.range R.ms.length).map fun x => 6 + x)) false) :: (15, .lst 2 ((List.range R.cs.length).map (yearAt R p)) false) :: (17, .lst 2 ((List.range R.cs.length).map (yearAt (shift d R) p')) false) :: (23, I i) :: ex, hp := hk2, nx := nx + 4 + R.fs.length } : FS)) ?_ 0 (Nat.zero_le _) ⟨_, rfl⟩
          rintro i st hi ⟨ex, rfl⟩
          by_cases hc : i < R.ms.length
          · have x1 := ix_spans (l := List.range R.ms.length) (p := p) (i := i) (by simpa using hc)
            have x2 := ix_spans (l := (List.range R.ms.length).map fun x => 6 + x) (p := p) (i := i) (by simpa using hc)
            have x3 := ix_spans (l := List.range R.ms.length) (p := p') (i := i) (by simpa using hc)
            have x4 := ix_spans (l := (List.range R.ms.length).map fun x => 6 + x) (p := p') (i := i) (by simpa using hc)
            rw [range_get! hc] at x1 x3
            rw [map_get! (by simpa using hc), range_get! hc] at x2 x4
            have q1 := hq i (by omega) (fun t => if_pos (.inl hc)) (fun t => if_pos (.inl (by rw [hml]; exact hc)))
            have q2 := hq (6 + i) (by omega) (fun t => if_pos (.inr (.inl ⟨by omega, by omega⟩))) (fun t => if_pos (.inr (.inl ⟨by omega, by rw [hml]; omega⟩)))
            rw [q1.1, q1.2] at x3
            rw [q2.1, q2.2] at x4
            simp +contextual (maxSteps := 1000000) (disch := first | omega | (with_reducible first | refine krN ?_ | refine krS ?_ | refine krP ?_ | refine krG ?_); kernel_rfl | refine kr ?_; simp only [go_sem, reduceCtorEq, Int.ofNat_lt, hc, x1, x2, x3, x4, wc47, bin_neSs, spl, List.length_range, List.length_map]; done | fail) only [go_sem, ↓reduceIte, Nat.reduceEqDiff, Nat.reduceAdd, Nat.reduceMul, Nat.reduceLeDiff, Nat.reduceLT, Nat.reduceBEq, bne, reduceCtorEq, Int.reduceLE, Int.reduceToNat, Int.reduceLT, Int.reduceAdd, Int.reduceSub, Int.reduceNeg, Int.cast_ofNat_Int, Int.ofNat_lt, hc, x1, x2, x3, x4, wc47, bin_neSs, spl, List.length_range, List.length_map]
            exact ⟨_, rfl⟩
          · have hie : i = R.ms.length := by omega
            subst hie
            simp +contextual (maxSteps := 1000000) (disch := first | omega | (with_reducible first | refine krN ?_ | refine krS ?_ | refine krP ?_ | refine krG ?_); kernel_rfl | refine kr ?_; simp only [go_sem, reduceCtorEq, Int.lt_irrefl, spl, List.length_range, List.length_map]; done | fail) only [go_sem, ↓reduceIte, Nat.reduceEqDiff, Nat.reduceAdd, Nat.reduceMul, Nat.reduceLeDiff, Nat.reduceLT, Nat.reduceBEq, bne, reduceCtorEq, Int.reduceLE, Int.reduceToNat, Int.reduceLT, Int.reduceAdd, Int.reduceSub, Int.reduceNeg, Int.cast_ofNat_Int, Int.lt_irrefl, spl, List.length_range, List.length_map]
            clear ex hi hc
            refine wp_loop_to R.cs.length (fun i st => ∃ (ex : List (Nat × Vl)), st = ({ sl := (4, .loc (encRoll (some false) (some false) (some false) (some false) R)) :: (5, I d) :: (15, .lst 2 ((List.range R.cs.length).map (yearAt R p)) false) :: (17, .lst 2 ((List.range R.cs.length).map (yearAt (shift d R) p')) false) :: (24, I i) :: ex, hp := hk2, nx := nx + 4 + R.fs.length } : FS)) ?_ 0 (Nat.zero_le _) ⟨_, rfl⟩
            rintro i st hi ⟨ex, rfl⟩
            by_cases hc : i < R.cs.length
            · have x5 := ix_years (R := R) (p := p) (n := R.cs.length) (i := i) hc
              have x6 := ix_years (R := shift d R) (p := p') (n := R.cs.length) (i := i) hc
              rw [hyS2 p' i hc] at x6
              cases hk : R.cs[i]!.kin with
              | true =>
                rw [hyk p i hk] at x5
                rw [hyk p' i hk] at x6
                simp +contextual (maxSteps := 1000000) (disch := first | omega | (with_reducible first | refine krN ?_ | refine krS ?_ | refine krP ?_ | refine krG ?_); kernel_rfl | refine kr ?_; simp only [go_sem, reduceCtorEq, Int.ofNat_lt, hc, ix_map, encC, hk, x5, x6, bin_neSs, List.length_range, List.length_map]; done | fail) only [go_sem, ↓reduceIte, Nat.reduceEqDiff, Nat.reduceAdd, Nat.reduceMul, Nat.reduceLeDiff, Nat.reduceLT, Nat.reduceBEq, bne, reduceCtorEq, Int.reduceLE, Int.reduceToNat, Int.reduceLT, Int.reduceAdd, Int.reduceSub, Int.reduceNeg, Int.cast_ofNat_Int, Int.ofNat_lt, hc, ix_map, encC, hk, x5, x6, bin_neSs, List.length_range, List.length_map]
                exact ⟨_, rfl⟩
              | false =>
                rw [hyh p i hk] at x5
                rw [hyh p' i hk] at x6
                have hkS : (shift d R).cs[i]!.kin = false := by rw [shift_cs hc, shR_kin]; exact hk
                have q := hq (12 + i) (by omega) (fun t => if_pos (.inr (.inr ⟨by omega, by omega, by rw [show 12 + i - 12 = i by omega]; exact hk⟩))) (fun t => if_pos (.inr (.inr ⟨by omega, by rw [hcl]; omega, by rw [show 12 + i - 12 = i by omega]; exact hkS⟩)))
                rw [q.1, q.2] at x6
                simp +contextual (maxSteps := 1000000) (disch := first | omega | (with_reducible first | refine krN ?_ | refine krS ?_ | refine krP ?_ | refine krG ?_); kernel_rfl | refine kr ?_; simp only [go_sem, reduceCtorEq, Int.ofNat_lt, hc, ix_map, encC, hk, x5, x6, wc47, bin_neSs, List.length_range, List.length_map]; done | fail) only [go_sem, ↓reduceIte, Nat.reduceEqDiff, Nat.reduceAdd, Nat.reduceMul, Nat.reduceLeDiff, Nat.reduceLT, Nat.reduceBEq, bne, reduceCtorEq, Int.reduceLE, Int.reduceToNat, Int.reduceLT, Int.reduceAdd, Int.reduceSub, Int.reduceNeg, Int.cast_ofNat_Int, Int.ofNat_lt, hc, ix_map, encC, hk, x5, x6, wc47, bin_neSs, List.length_range, List.length_map]
                exact ⟨_, rfl⟩
            · have hie : i = R.cs.length := by omega
              subst hie
              simp +contextual (maxSteps := 1000000) (disch := first | omega | (with_reducible first | refine krN ?_ | refine krS ?_ | refine krP ?_ | refine krG ?_); kernel_rfl | refine kr ?_; simp only [go_sem, reduceCtorEq, Int.lt_irrefl, List.length_range, List.length_map, wc16]; done | fail) only [go_sem, ↓reduceIte, Nat.reduceEqDiff, Nat.reduceAdd, Nat.reduceMul, Nat.reduceLeDiff, Nat.reduceLT, Nat.reduceBEq, bne, reduceCtorEq, Int.reduceLE, Int.reduceToNat, Int.reduceLT, Int.reduceAdd, Int.reduceSub, Int.reduceNeg, Int.cast_ofNat_Int, Int.lt_irrefl, List.length_range, List.length_map, wc16]
end Go.Proofs
