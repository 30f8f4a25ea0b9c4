/- What functions of the given program do in the ideal machine (G19, G19b), and the plain laws of what they answer; the conditions stand in each theorem. -/
import Derived.Test.YtencmmlmeifffaaGg
set_option linter.all false
set_option linter.unusedSectionVars false
set_option linter.unusedSimpArgs false
set_option linter.unusedVariables false
namespace Go.Proofs
open Go Go.Idl
set_option linter.unusedSimpArgs false
variable {b : Bool}
section
variable {R S : Roll}
theorem hull_may (hR : Val R) (hS : Val S) (h : ∀ t, Lived S t → ∃ t', Lived R t') : (solveF false S).2 = true → (solveF false R).2 = true := fun e => by
  obtain ⟨t, ht⟩ := (solve_iff' hS).1 e
  exact (solve_iff' hR).2 (h t ht)
theorem hull_sub (hR : Val R) (hS : Val S) {i j : Nat} {d : Int} (hi : i < 20) (hj : j < 20) (h : ∀ t, Lived S t → ∃ t', Lived R t' ∧ t' i = t j - d) (e : (solveF false S).2 = true) :
    ((solveF false R).1.getD i (0, 0)).1 ≤ ((solveF false S).1.getD j (0, 0)).1 - d ∧ ((solveF false S).1.getD j (0, 0)).2 - d ≤ ((solveF false R).1.getD i (0, 0)).2 := by
  obtain ⟨t, ht, e1⟩ := solve_lo hS e hj
  obtain ⟨u, hu, e2⟩ := solve_hi hS e hj
  obtain ⟨t', ht', e3⟩ := h t ((truth_iff hS).1 ht)
  obtain ⟨u', hu', e4⟩ := h u ((truth_iff hS).1 hu)
  have h1 := solve_in hR ((truth_iff hR).2 ht') i hi
  have h2 := solve_in hR ((truth_iff hR).2 hu') i hi
  omega
theorem hull_same (hR : Val R) (hS : Val S) (h1 : ∀ t, Lived R t → ∃ t', Lived S t') (h2 : ∀ t, Lived S t → ∃ t', Lived R t') : (solveF false R).2 = (solveF false S).2 := by
  rw [Bool.eq_iff_iff]
  exact ⟨hull_may hS hR h1, hull_may hR hS h2⟩
theorem hull_eq (hR : Val R) (hS : Val S) {i j : Nat} {d : Int} (hi : i < 20) (hj : j < 20) (h1 : ∀ t, Lived R t → ∃ t', Lived S t' ∧ t' j = t i + d) (h2 : ∀ t, Lived S t → ∃ t', Lived R t' ∧ t' i = t j - d) (e : (solveF false R).2 = true) :
    ((solveF false S).1.getD j (0, 0)).1 = ((solveF false R).1.getD i (0, 0)).1 + d ∧ ((solveF false S).1.getD j (0, 0)).2 = ((solveF false R).1.getD i (0, 0)).2 + d := by
  have e' : (solveF false S).2 = true := hull_may hS hR (fun t ht => (h1 t ht).imp fun _ h => h.1) e
  have a := hull_sub hR hS hi hj h2 e'
  have b := hull_sub hS hR (d := -d) hj hi (fun t ht => by
    obtain ⟨t', x, y⟩ := h1 t ht
    exact ⟨t', x, by omega⟩) e
  omega
end
def shM (d : Int) (m : Man) : Man := ⟨m.name, m.blo + d, m.bhi + d, m.dlo + d, m.dhi + d⟩
def shR (d : Int) (c : Rec) : Rec := if c.kin = true then c else ⟨c.kin, c.man, c.office, c.town, c.child, c.lo + d, c.hi + d⟩
def shift (d : Int) (r : Roll) : Roll := { r with ms := r.ms.map (shM d), cs := r.cs.map (shR d) }
theorem shR_kin {d : Int} {c : Rec} : (shR d c).kin = c.kin := by unfold shR; split <;> rfl
theorem shR_man {d : Int} {c : Rec} : (shR d c).man = c.man := by unfold shR; split <;> rfl
theorem shR_office {d : Int} {c : Rec} : (shR d c).office = c.office := by unfold shR; split <;> rfl
theorem shR_town {d : Int} {c : Rec} : (shR d c).town = c.town := by unfold shR; split <;> rfl
theorem shR_child {d : Int} {c : Rec} : (shR d c).child = c.child := by unfold shR; split <;> rfl
theorem shift_back {d : Int} {r : Roll} : shift (-d) (shift d r) = r := by
  unfold shift
  simp only [List.map_map]
  have e1 : r.ms.map (shM (-d) ∘ shM d) = r.ms := by
    conv => rhs; rw [← List.map_id r.ms]
    refine List.map_congr_left fun m _ => ?_
    obtain ⟨a, x, y, z, w⟩ := m
    show Man.mk a (x + d + -d) (y + d + -d) (z + d + -d) (w + d + -d) = _
    rw [Int.add_neg_cancel_right, Int.add_neg_cancel_right, Int.add_neg_cancel_right, Int.add_neg_cancel_right]; rfl
  have e2 : r.cs.map (shR (-d) ∘ shR d) = r.cs := by
    conv => rhs; rw [← List.map_id r.cs]
    refine List.map_congr_left fun c _ => ?_
    show shR (-d) (shR d c) = c
    cases hk : c.kin with
    | true =>
      have : shR d c = c := by unfold shR; rw [if_pos hk]
      rw [this]; unfold shR; rw [if_pos hk]
    | false =>
      unfold shR
      simp only [hk, Bool.false_eq_true, if_false]
      rw [Int.add_neg_cancel_right, Int.add_neg_cancel_right, ← hk]
  rw [e1, e2]
def shT (r : Roll) (d : Int) (t : Nat → Int) : Nat → Int := fun i => if i < r.ms.length ∨ (6 ≤ i ∧ i < 6 + r.ms.length) ∨ (12 ≤ i ∧ i < 12 + r.cs.length ∧ r.cs[i - 12]!.kin = false) then t i + d else t i
theorem shift_ms {d : Int} {r : Roll} {i : Nat} (h : i < r.ms.length) : (shift d r).ms[i]! = shM d r.ms[i]! := map_get! h
theorem shift_cs {d : Int} {r : Roll} {i : Nat} (h : i < r.cs.length) : (shift d r).cs[i]! = shR d r.cs[i]! := map_get! h
theorem shift_ml {d : Int} {r : Roll} : (shift d r).ms.length = r.ms.length := List.length_map _
theorem shift_cl {d : Int} {r : Roll} : (shift d r).cs.length = r.cs.length := List.length_map _
theorem FitP.shift {os : List Office} {fs : List (List Bool)} {a c : Rec} {y z d : Int} (h : FitP os fs a y c z) : FitP os fs (shR d a) (y + d) (shR d c) (z + d) := by
  obtain ⟨h1, h2, h3, h4⟩ := h
  unfold FitP
  rw [shR_office, shR_office, shR_town, shR_town]
  refine ⟨fun e e0 => ?_, fun e => ?_, fun e e0 => ?_, fun e e0 => ?_⟩
  · rcases h1 e e0 with (h | h) | ⟨h, h'⟩
    · exact .inl (.inl (by omega))
    · exact .inl (.inr (by omega))
    · exact .inr ⟨h, by omega⟩
  · have := h2 e; omega
  · have := h3 e e0; omega
  · have := h4 e e0; omega
theorem shift_val {d : Int} {r : Roll} (hv : WF r) (hn : Near r 500) (h1 : -600 ≤ d) (h2 : d ≤ 600) : WF (shift d r) where
  os_l := hv.os_l
  os_ok := hv.os_ok
  life := hv.life
  par := hv.par
  fs_l := hv.fs_l
  fs_ok := hv.fs_ok
  ms_l := by have := hv.ms_l; rw [shift_ml]; exact this
  ms_ok m hm := by
    obtain ⟨m, hm', rfl⟩ := List.mem_map.1 hm
    have := hv.ms_ok m hm'
    have := hn.1 m hm'
    unfold YearsOk at *
    unfold shM
    simp only
    omega
  cs_l := by have := hv.cs_l; rw [shift_cl]; exact this
  cs_ok c hc := by
    obtain ⟨c, hc', rfl⟩ := List.mem_map.1 hc
    obtain ⟨a1, a2, a3, a4⟩ := hv.cs_ok c hc'
    have hnr := hn.2 c hc'
    unfold RecVal
    rw [shR_man, shR_kin, shR_child, shR_office, shR_town, shift_ml]
    refine ⟨a1, a2, fun e => ?_, fun e => ?_⟩
    · obtain ⟨b1, b2, b3, b4, b5, b6, b7⟩ := a3 e
      unfold shR; rw [if_pos e]
      exact ⟨b1, b2, b3, b4, b5, b6, b7⟩
    · obtain ⟨b1, b2, b3, b4, b5, b6⟩ := a4 e
      unfold shR; rw [if_neg (by simp [e])]
      refine ⟨b1, b2, b3, b4, b5, ?_⟩
      unfold YearsOk at *
      simp only
      omega
  names m hm := by
    obtain ⟨m, hm', rfl⟩ := List.mem_map.1 hm
    exact hv.names m hm'
  diag := hv.diag
  symm := hv.symm
theorem shift_lived {d : Int} {r : Roll} (hv : Val r) {t : Nat → Int} (h : Lived r t) : Lived (shift d r) (shT r d t) := by
  have hm6 := hv.ms_l
  have hb : ∀ i, i < r.ms.length → shT r d t i = t i + d := fun i hi => if_pos (.inl hi)
  have hd : ∀ i, i < r.ms.length → shT r d t (6 + i) = t (6 + i) + d := fun i hi => if_pos (.inr (.inl ⟨by omega, by omega⟩))
  have hh : ∀ i, i < r.cs.length → r.cs[i]!.kin = false → shT r d t (12 + i) = t (12 + i) + d := fun i hi hk => if_pos (.inr (.inr ⟨by omega, by omega, by rw [show 12 + i - 12 = i by omega]; exact hk⟩))
  have hk : ∀ i, i < r.cs.length → r.cs[i]!.kin = true → shT r d t (12 + i) = t (12 + i) := fun i hi hk => if_neg (by
    rintro (h | h | ⟨_, _, h⟩)
    · omega
    · omega
    · rw [show 12 + i - 12 = i by omega, hk] at h; cases h)
  have hman : ∀ i, i < r.cs.length → (r.cs[i]!.man).toNat < r.ms.length := fun i hi => by
    obtain ⟨a1, a2, _⟩ := hv.cs_ok _ (get!_mem hi); omega
  refine ⟨fun i hi => ?_, fun i hi => ?_, fun i hi => ?_, fun i hi => ?_, fun i hi hkn => ?_, fun i hi hkn => ?_, fun i k hik hki k1 k2 hm => ?_, fun i hi hu => ?_⟩
  · rw [shift_ml] at hi
    rw [shift_ms hi, hb i hi]
    have := h.born i hi
    unfold shM; simp only; omega
  · rw [shift_ml] at hi
    rw [shift_ms hi, hd i hi]
    have := h.died i hi
    unfold shM; simp only; omega
  · rw [shift_ml] at hi
    rw [hb i hi, hd i hi]
    have := h.life i hi
    show _ ∧ _ ≤ _ + r.life
    omega
  · rw [shift_cl] at hi
    rw [shift_cs hi]
    have := h.year i hi
    cases e : r.cs[i]!.kin with
    | true => rw [hk i hi e]; unfold shR; rw [if_pos e]; exact this
    | false => rw [hh i hi e]; unfold shR; rw [if_neg (by rw [e]; decide)]; simp only; omega
  · rw [shift_cl] at hi
    rw [shift_cs hi, shR_kin] at hkn
    rw [shift_cs hi, shR_man, shR_child]
    obtain ⟨b1, b2, _⟩ := (hv.cs_ok _ (get!_mem hi)).2.2.1 hkn
    have hmi := hman i hi
    rw [hb _ hmi, hb _ (by omega), hd _ hmi]
    have := h.kin i hi hkn
    show _ + r.plo ≤ _ ∧ _ ≤ _ + r.phi ∧ _
    omega
  · rw [shift_cl] at hi
    rw [shift_cs hi, shR_kin] at hkn
    have ha : ageOf (shift d r).os ((shift d r).cs[i]!) = ageOf r.os r.cs[i]! := by rw [shift_cs hi]; unfold ageOf; rw [shR_office]; rfl
    rw [ha, shift_cs hi, shR_man, hb _ (hman i hi), hd _ (hman i hi), hh i hi hkn]
    have := h.held i hi hkn
    omega
  · rw [shift_cl] at hki
    have hi : i < r.cs.length := by omega
    rw [shift_cs hi, shR_kin] at k1
    rw [shift_cs hki, shR_kin] at k2
    rw [shift_cs hi, shift_cs hki, shR_man, shR_man] at hm
    rw [shift_cs hi, shift_cs hki, hh i hi k1, hh k hki k2]
    exact (h.fit i k hik hki k1 k2 hm).shift
  · have hu' : ¬ Used r i := fun e => hu (by unfold Used at *; rw [shift_ml, shift_cl]; exact e)
    have e : shT r d t i = t i := if_neg (fun e => hu' (by unfold Used; omega))
    rw [e]; exact h.zero i hi hu'
theorem shift_drop {d : Int} {r : Roll} {x : List Nat} : dropF (shift d r) x = shift d (dropF r x) := by
  unfold dropF
  have e : keptTo (shift d r) x (shift d r).cs.length = (keptTo r x r.cs.length).map (shR d) := by
    unfold keptTo
    rw [shift_cl, List.map_map]
    refine List.map_congr_left fun i hi => ?_
    have := List.mem_range.1 (List.mem_filter.1 hi).1
    rw [shift_cs this]; rfl
  rw [e]
  rfl
theorem Near.drop {r : Roll} {B : Int} (h : Near r B) (x : List Nat) : Near (dropF r x) B := ⟨h.1, fun c hc => h.2 c (keptTo_mem (Nat.le_refl _) hc)⟩
theorem shift_back_lived {d : Int} {r : Roll} (hv : WF r) (hn : Near r 500) (h1 : -600 ≤ d) (h2 : d ≤ 600) {t : Nat → Int} (h : Lived (shift d r) t) : Lived r (shT (shift d r) (-d) t) := by
  have := shift_lived (d := -d) (shift_val hv hn h1 h2).toVal h
  rw [shift_back] at this
  exact this
theorem shift_may {d : Int} {r : Roll} (hv : WF r) (hn : Near r 500) (h1 : -600 ≤ d) (h2 : d ≤ 600) {x : List Nat} : mayF (shift d r) x = mayF r x := by
  have hd := hv.drop x
  have hnd := hn.drop x
  rw [Bool.eq_iff_iff, mayF_iff (shift_val hv hn h1 h2).toVal, mayF_iff hv.toVal, shift_drop]
  exact ⟨fun ⟨t, ht⟩ => ⟨_, shift_back_lived hd hnd h1 h2 ht⟩, fun ⟨t, ht⟩ => ⟨_, shift_lived hd.toVal ht⟩⟩
theorem shift_wrong {d : Int} {r : Roll} (hv : WF r) (hn : Near r 500) (h1 : -600 ≤ d) (h2 : d ≤ 600) : wrongF (shift d r) = wrongF r := by
  unfold wrongF
  rw [shift_cl]
  congr 1
  funext x
  exact shift_may hv hn h1 h2
end Go.Proofs
namespace Go.Proofs
open Go Go.Idl
set_option linter.unusedSimpArgs false
variable {b : Bool}
theorem bin_neSs (x y : Int) : binOpV { ok := true, agg := true, size := 2, zero := Vl.agg [I 0, I 0], flat := some [CK.i, CK.i], k := TK.struct [(0, false, 1), (1, false, 1)] } .neq (Vl.agg [.int .i64 x, .int .i64 y]) (Vl.agg [.int .i64 x, .int .i64 y]) = some (.bool false) := by
  simp [binOpV, eqCells, eqCell]
theorem solve_b {R : Roll} (hv : Val R) (h : (solveF false R).2 = true) {i : Nat} (hi : i < 20) : -100000 ≤ ((solveF false R).1.getD i (0, 0)).1 ∧ ((solveF false R).1.getD i (0, 0)).1 ≤ 100000 ∧ -100000 ≤ ((solveF false R).1.getD i (0, 0)).2 ∧ ((solveF false R).1.getD i (0, 0)).2 ≤ 100000 := by
  obtain ⟨t, ht, e1⟩ := solve_lo hv h hi
  obtain ⟨u, hu, e2⟩ := solve_hi hv h hi
  have hk := (recK_InB hv (Nat.le_refl R.cs.length)).get i hi
  have h1 := ht.1 i hi
  have h2 := hu.1 i hi
  unfold k0F at h1 h2
  omega
theorem wrong_form (r : Roll) : ∃ (l : List Nat) (c : Int), wrongV r = .tup [SL 1 (l.map IN) none, I c] ∧ l.length ≤ r.cs.length := by
  unfold wrongV
  cases h : wrongF r with
  | none => exact ⟨[], 9, rfl, Nat.zero_le _⟩
  | some l => exact ⟨l, 0, by simp only; rw [listV_SL], (wrong_len h).1⟩
theorem killHp_low {s : Int × Int} {os : List Office} {ms : List Man} {cs : List Rec} {T : Nat} {F : Nat → Nat → Bool} {x : Bool} {bs ds ys : List Int} {hk : Nat → Ob} (hT : 1 ≤ T)
    (h : killHp (1 :: 2 :: (((List.range T).map fun j => [5 + j]).flatten ++ [3, 4])) (HPr ⟨s, os, ms, cs, T, T, F, x, bs, ds, ys⟩) = hk) : hk 0 = urnO s := by
  rw [← h]
  rw [killHp_ne (by
    simp only [List.mem_cons, List.mem_append, List.mem_flatten, List.mem_map, List.mem_range, List.not_mem_nil, or_false, not_or]
    refine ⟨by omega, by omega, ?_, by omega, by omega⟩
    rintro ⟨l, ⟨j, hj, rfl⟩, hm⟩
    rw [List.mem_singleton] at hm
    omega)]
  exact HPr_0
end Go.Proofs
