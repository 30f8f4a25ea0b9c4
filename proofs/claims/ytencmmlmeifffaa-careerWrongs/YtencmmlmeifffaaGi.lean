/- What functions of the given program do in the ideal machine (G33), and the plain laws of what they answer; the conditions stand in each theorem. -/
import Derived.Test.YtencmmlmeifffaaGh
import Derived.Test.YtencmmlmeifffaaGf
set_option linter.all false
set_option linter.unusedSectionVars false
set_option linter.unusedSimpArgs false
set_option linter.unusedVariables false
namespace Go.Proofs
open Go Go.Idl
set_option linter.unusedSimpArgs false
variable {b : Bool}
def wt (g : List (Int × Int)) : Nat → Int
  | 0 => 1
  | n + 1 => wt g n * (g[n]!.2 - g[n]!.1 + 1)
def rk (g : List (Int × Int)) (l : List Int) : Nat → Int
  | 0 => 0
  | n + 1 => rk g l n + (l[n]! - g[n]!.1) * wt g n
def InBox (g : List (Int × Int)) (l : List Int) : Prop := l.length = g.length ∧ ∀ i, i < g.length → g[i]!.1 ≤ l[i]! ∧ l[i]! ≤ g[i]!.2
section
variable {g : List (Int × Int)} {l l' : List Int}
def Seen (g : List (Int × Int)) (P : List Int → Prop) (R : Int) (l : List Int) : Prop := InBox g l ∧ P l ∧ rk g l g.length < R
structure HullOf (S : List Int → Prop) (n : Nat) (some : Bool) (due : List (Int × Int)) : Prop where
  len : due.length = n
  ex : some = true ↔ ∃ l, S l
  hull : some = true → ∀ i, i < n → (∀ l, S l → due[i]!.1 ≤ l[i]! ∧ l[i]! ≤ due[i]!.2) ∧ (∃ l, S l ∧ l[i]! = due[i]!.1) ∧ ∃ l, S l ∧ l[i]! = due[i]!.2
theorem HullOf.congr {S S' : List Int → Prop} {n : Nat} {some : Bool} {due : List (Int × Int)} (h : HullOf S n some due) (e : ∀ l, S' l ↔ S l) : HullOf S' n some due := by
  have : S' = S := funext fun l => propext (e l)
  rw [this]; exact h
theorem HullOf.add {S S' : List Int → Prop} {n : Nat} {some : Bool} {due due' : List (Int × Int)} (h : HullOf S n some due) (e : ∀ x, S' x ↔ S x ∨ x = l) (hl : due'.length = n) (hd : ∀ i, i < n → due'[i]! = if some = true then (min due[i]!.1 l[i]!, max due[i]!.2 l[i]!) else (l[i]!, l[i]!)) : HullOf S' n true due' := by
  have hl0 : S' l := (e l).2 (.inr rfl)
  refine ⟨hl, ⟨fun _ => ⟨l, hl0⟩, fun _ => rfl⟩, fun _ i hi => ?_⟩
  have hdi := hd i hi
  by_cases hs : some = true
  · rw [if_pos hs] at hdi
    obtain ⟨h1, ⟨x, hx, ex⟩, y, hy, ey⟩ := h.hull hs i hi
    rw [hdi]
    refine ⟨fun z hz => ?_, ?_, ?_⟩
    · rcases (e z).1 hz with hz | rfl
      · have := h1 z hz; simp only; omega
      · simp only; omega
    · simp only
      by_cases c : due[i]!.1 ≤ l[i]!
      · exact ⟨x, (e x).2 (.inl hx), by omega⟩
      · exact ⟨l, hl0, by omega⟩
    · simp only
      by_cases c : due[i]!.2 ≤ l[i]!
      · exact ⟨l, hl0, by omega⟩
      · exact ⟨y, (e y).2 (.inl hy), by omega⟩
  · rw [if_neg hs] at hdi
    have hno : ∀ x, ¬ S x := fun x hx => hs (h.ex.2 ⟨x, hx⟩)
    rw [hdi]
    refine ⟨fun z hz => ?_, ⟨l, hl0, rfl⟩, l, hl0, rfl⟩
    rcases (e z).1 hz with hz | rfl
    · exact absurd hz (hno z)
    · exact ⟨Int.le_refl _, Int.le_refl _⟩
end
def givenL (r : Roll) : List (Int × Int) := (r.ms.map fun m => (m.blo, m.bhi)) ++ (r.ms.map fun m => (m.dlo, m.dhi)) ++ r.cs.map fun c => (c.lo, c.hi)
theorem FitP.symm' {os : List Office} {fs : List (List Bool)} {a c : Rec} {y z : Int} (h : FitP os fs a y c z) (hf : farAt fs a.town c.town = farAt fs c.town a.town) : FitP os fs c z a y := by
  obtain ⟨h1, h2, h3, h4⟩ := h
  unfold FitP
  rw [← hf]
  refine ⟨fun e e0 => ?_, fun e => fun e2 => h2 e e2.symm, h4, h3⟩
  rw [e] at e0 ⊢
  rcases h1 e.symm e0 with (h | h) | ⟨h, h'⟩
  · exact .inl (.inr h)
  · exact .inl (.inl h)
  · exact .inr ⟨h, h'.symm⟩
section
variable {r : Roll}
theorem given_len : (givenL r).length = 2 * r.ms.length + r.cs.length := by
  unfold givenL; simp only [List.length_append, List.length_map]; omega
theorem get!_app_l {α : Type} [Inhabited α] {xs ys : List α} {i : Nat} (h : i < xs.length) : (xs ++ ys)[i]! = xs[i]! := by
  rw [get!_eq (by rw [List.length_append]; omega), List.getElem_append_left h, get!_eq h]
theorem get!_app_r {α : Type} [Inhabited α] {xs ys : List α} {i n : Nat} (hn : xs.length = n) (h : i < ys.length) : (xs ++ ys)[n + i]! = ys[i]! := by
  subst hn
  rw [get!_eq (by rw [List.length_append]; omega), List.getElem_append_right (by omega), get!_eq h]
  congr 1; omega
theorem given_b {i : Nat} (h : i < r.ms.length) : (givenL r)[i]! = (r.ms[i]!.blo, r.ms[i]!.bhi) := by
  unfold givenL
  rw [List.append_assoc, get!_app_l (by rw [List.length_map]; exact h), map_get! h]
theorem given_d {i : Nat} (h : i < r.ms.length) : (givenL r)[r.ms.length + i]! = (r.ms[i]!.dlo, r.ms[i]!.dhi) := by
  unfold givenL
  rw [List.append_assoc, get!_app_r (by rw [List.length_map]) (by rw [List.length_append, List.length_map]; omega), get!_app_l (by rw [List.length_map]; exact h), map_get! h]
theorem given_y {i : Nat} (h : i < r.cs.length) : (givenL r)[2 * r.ms.length + i]! = (r.cs[i]!.lo, r.cs[i]!.hi) := by
  unfold givenL
  rw [get!_app_r (by rw [List.length_append, List.length_map, List.length_map]; omega) (by rw [List.length_map]; exact h), map_get! h]
def listT (r : Roll) (t : Nat → Int) : List Int := ((List.range r.ms.length).map t ++ (List.range r.ms.length).map fun i => t (6 + i)) ++ (List.range r.cs.length).map fun i => t (12 + i)
def truthL (r : Roll) (l : List Int) : Nat → Int := fun i => if i < r.ms.length then l[i]! else if 6 ≤ i ∧ i < 6 + r.ms.length then l[r.ms.length + (i - 6)]! else if 12 ≤ i ∧ i < 12 + r.cs.length then l[2 * r.ms.length + (i - 12)]! else 0
variable {t : Nat → Int} {l : List Int}
theorem listT_b {i : Nat} (h : i < r.ms.length) : (listT r t)[i]! = t i := by
  unfold listT
  rw [List.append_assoc, get!_app_l (by rw [List.length_map, List.length_range]; exact h), map_get! (by rw [List.length_range]; exact h), range_get! h]
theorem listT_d {i : Nat} (h : i < r.ms.length) : (listT r t)[r.ms.length + i]! = t (6 + i) := by
  unfold listT
  rw [List.append_assoc, get!_app_r (by rw [List.length_map, List.length_range]) (by rw [List.length_append, List.length_map, List.length_range]; omega), get!_app_l (by rw [List.length_map, List.length_range]; exact h), map_get! (by rw [List.length_range]; exact h), range_get! h]
theorem listT_y {i : Nat} (h : i < r.cs.length) : (listT r t)[2 * r.ms.length + i]! = t (12 + i) := by
  unfold listT
  rw [get!_app_r (by simp only [List.length_append, List.length_map, List.length_range]; omega) (by rw [List.length_map, List.length_range]; exact h), map_get! (by rw [List.length_range]; exact h), range_get! h]
theorem listT_len : (listT r t).length = 2 * r.ms.length + r.cs.length := by
  unfold listT; simp only [List.length_append, List.length_map, List.length_range]; omega
theorem truthL_b {i : Nat} (h : i < r.ms.length) : truthL r l i = l[i]! := if_pos h
theorem truthL_d {i : Nat} (hm : r.ms.length ≤ 6) (h : i < r.ms.length) : truthL r l (6 + i) = l[r.ms.length + i]! := by
  unfold truthL; rw [if_neg (by omega), if_pos (by omega), show 6 + i - 6 = i by omega]
theorem truthL_y {i : Nat} (hm : r.ms.length ≤ 6) (h : i < r.cs.length) : truthL r l (12 + i) = l[2 * r.ms.length + i]! := by
  unfold truthL; rw [if_neg (by omega), if_neg (by omega), if_pos (by omega), show 12 + i - 12 = i by omega]
theorem box_split {i : Nat} (h : i < 2 * r.ms.length + r.cs.length) : (i < r.ms.length) ∨ (∃ j, j < r.ms.length ∧ i = r.ms.length + j) ∨ ∃ j, j < r.cs.length ∧ i = 2 * r.ms.length + j := by
  by_cases h1 : i < r.ms.length
  · exact .inl h1
  · by_cases h2 : i < 2 * r.ms.length
    · exact .inr (.inl ⟨i - r.ms.length, by omega, by omega⟩)
    · exact .inr (.inr ⟨i - 2 * r.ms.length, by omega, by omega⟩)
theorem lived_list (hw : WF r) (h : Lived r t) : InBox (givenL r) (listT r t) ∧ LivedL r (listT r t) := by
  have hm6 := hw.ms_l
  refine ⟨⟨by rw [listT_len, given_len], fun i hi => ?_⟩, fun m hm => ?_, fun i hi => ⟨fun hk => ?_, fun hk => ?_⟩, fun i k hi hk hne h1 h2 hm => ?_⟩
  · rw [given_len] at hi
    rcases box_split hi with h1 | ⟨j, h1, rfl⟩ | ⟨j, h1, rfl⟩
    · rw [listT_b h1, given_b h1]; exact h.born i h1
    · rw [listT_d h1, given_d h1]; exact h.died j h1
    · rw [listT_y h1, given_y h1]; exact h.year j h1
  · unfold ManL; rw [listT_b hm, listT_d hm]; exact h.life m hm
  · obtain ⟨a1, a2, a3, _⟩ := hw.cs_ok _ (get!_mem hi)
    obtain ⟨b1, b2, _⟩ := a3 hk
    rw [listT_b (by omega), listT_b (by omega), listT_d (by omega)]
    have := h.kin i hi hk
    omega
  · obtain ⟨a1, a2, _, a4⟩ := hw.cs_ok _ (get!_mem hi)
    obtain ⟨b1, b2, _⟩ := a4 hk
    rw [listT_b (by omega), listT_d (by omega), listT_y hi]
    have := h.held i hi hk
    unfold ageOf at this
    split at this
    · rename_i ho
      have hoo := hw.os_ok _ (get!_mem (show r.cs[i]!.office.toNat < r.os.length by omega))
      unfold OffOk at hoo
      exact ⟨by omega, by omega, fun _ => by omega⟩
    · exact ⟨by omega, by omega, fun e => by omega⟩
  · obtain ⟨_, _, _, a4⟩ := hw.cs_ok _ (get!_mem hi)
    obtain ⟨_, _, _, c4⟩ := hw.cs_ok _ (get!_mem hk)
    obtain ⟨p1, p2, p3, p4, _⟩ := a4 h1
    obtain ⟨q1, q2, q3, q4, _⟩ := c4 h2
    rw [listT_y hi, listT_y hk]
    have hf : FitP r.os r.fs r.cs[i]! (t (12 + i)) r.cs[k]! (t (12 + k)) := by
      rcases Nat.lt_or_gt_of_ne hne with e | e
      · exact (h.fit k i e hi h2 h1 hm).symm' (hw.far_symm q3 q4 p3 p4)
      · exact h.fit i k e hk h1 h2 hm.symm
    obtain ⟨f1, f2, f3, f4⟩ := hf
    rw [farAt_get (fun w hw' => hw.fs_ok w hw') p3 p4 q3 q4] at f1 f2
    refine ⟨fun e => f2 e.2 e.1.symm, fun e => ?_, fun e => ?_⟩
    · have := f3 e.1 e.2.1
      have eo : offAt r.os r.cs[k]!.office = r.os[r.cs[k]!.office.toNat]! := getD_get! (by omega)
      rw [eo] at this
      omega
    · obtain ⟨e1, e2, e3, e4⟩ := e
      have eo : offAt r.os r.cs[i]!.office = r.os[r.cs[i]!.office.toNat]! := getD_get! (by omega)
      rcases f1 e2.symm e1 with h | h
      · rw [eo] at h
        omega
      · omega
theorem list_lived (hw : WF r) (hb : InBox (givenL r) l) (h : LivedL r l) : Lived r (truthL r l) := by
  obtain ⟨hm1, hm6⟩ := hw.ms_l
  obtain ⟨h1, h2, h3⟩ := h
  have hbx := hb.2
  rw [given_len] at hbx
  refine ⟨fun i hi => ?_, fun i hi => ?_, fun i hi => ?_, fun i hi => ?_, fun i hi hk => ?_, fun i hi hk => ?_, fun i k hik hk k1 k2 hm => ?_, fun i hi hu => ?_⟩
  · have := hbx i (by omega)
    rw [given_b hi] at this
    rw [truthL_b hi]; exact this
  · have := hbx (r.ms.length + i) (by omega)
    rw [given_d hi] at this
    rw [truthL_d hm6 hi]; exact this
  · rw [truthL_b hi, truthL_d hm6 hi]; exact h1 i hi
  · have := hbx (2 * r.ms.length + i) (by omega)
    rw [given_y hi] at this
    rw [truthL_y hm6 hi]; exact this
  · obtain ⟨a1, a2, a3, _⟩ := hw.cs_ok _ (get!_mem hi)
    obtain ⟨b1, b2, _⟩ := a3 hk
    rw [truthL_b (by omega), truthL_b (by omega), truthL_d hm6 (by omega)]
    have := (h2 i hi).1 hk
    omega
  · obtain ⟨a1, a2, _, a4⟩ := hw.cs_ok _ (get!_mem hi)
    obtain ⟨b1, b2, _⟩ := a4 hk
    rw [truthL_b (by omega), truthL_d hm6 (by omega), truthL_y hm6 hi]
    have := (h2 i hi).2 hk
    unfold ageOf
    split <;> omega
  · have hi : i < r.cs.length := by omega
    obtain ⟨_, _, _, a4⟩ := hw.cs_ok _ (get!_mem hi)
    obtain ⟨_, _, _, c4⟩ := hw.cs_ok _ (get!_mem hk)
    obtain ⟨p1, p2, p3, p4, _⟩ := a4 k1
    obtain ⟨q1, q2, q3, q4, _⟩ := c4 k2
    rw [truthL_y hm6 hi, truthL_y hm6 hk]
    obtain ⟨x1, x2, x3⟩ := h3 i k hi hk (by omega) k1 k2 hm.symm
    obtain ⟨y1, y2, y3⟩ := h3 k i hk hi (by omega) k2 k1 hm
    have hf := farAt_get (fun w hw' => hw.fs_ok w hw') p3 p4 q3 q4
    generalize l[2 * r.ms.length + i]! = y at *
    generalize l[2 * r.ms.length + k]! = z at *
    unfold FitP
    rw [hf]
    refine ⟨fun e e0 => ?_, fun e e2 => x1 ⟨e2.symm, e⟩, fun e1 e2 => ?_, fun e1 e2 => ?_⟩
    · have eo : offAt r.os r.cs[i]!.office = r.os[r.cs[i]!.office.toNat]! := getD_get! (by omega)
      rw [eo]
      by_cases hz : z = y
      · refine .inr ⟨?_, hz.symm⟩
        cases hfar : (r.fs[r.cs[i]!.town.toNat]!)[r.cs[k]!.town.toNat]! with
        | false => rfl
        | true => exact absurd ⟨hz, hfar⟩ x1
      · refine .inl ?_
        have : ¬ (max (z - y) (y - z) < r.os[r.cs[i]!.office.toNat]!.again) := fun e' => x3 ⟨e0, e.symm, hz, e'⟩
        omega
    · have eo : offAt r.os r.cs[k]!.office = r.os[r.cs[k]!.office.toNat]! := getD_get! (by omega)
      rw [eo]
      have : ¬ (z - y < r.os[r.cs[k]!.office.toNat]!.gap) := fun e' => x2 ⟨e1, e2, e'⟩
      omega
    · have eo : offAt r.os r.cs[i]!.office = r.os[r.cs[i]!.office.toNat]! := getD_get! (by omega)
      rw [eo]
      have : ¬ (y - z < r.os[r.cs[i]!.office.toNat]!.gap) := fun e' => y2 ⟨e1, e2, e'⟩
      omega
  · have hu : ¬ (i < r.ms.length ∨ (6 ≤ i ∧ i < 6 + r.ms.length) ∨ (12 ≤ i ∧ i < 12 + r.cs.length)) := hu
    unfold truthL
    rw [if_neg (by omega), if_neg (by omega), if_neg (by omega)]
theorem hull_fst {S : List Int → Prop} {due : List (Int × Int)} {n : Nat} (h : HullOf S n true due) {i : Nat} (hi : i < n) {lo hi' : Int} (h1 : ∀ l, S l → lo ≤ l[i]! ∧ l[i]! ≤ hi') (h2 : ∃ l, S l ∧ l[i]! = lo) (h3 : ∃ l, S l ∧ l[i]! = hi') : due[i]! = (lo, hi') := by
  obtain ⟨a, ⟨x, hx, ex⟩, y, hy, ey⟩ := h.hull rfl i hi
  obtain ⟨u, hu, eu⟩ := h2
  obtain ⟨v, hv, ev⟩ := h3
  have a1 := a u hu
  have a2 := a v hv
  have a3 := h1 x hx
  have a4 := h1 y hy
  exact Prod.ext (by simp only; omega) (by simp only; omega)
theorem hull_solve (hw : WF r) {some : Bool} {due : List (Int × Int)} (h : HullOf (fun l => InBox (givenL r) l ∧ LivedL r l) (givenL r).length some due) : (solveF false r).2 = some ∧ (some = true →
    due.take r.ms.length = (List.range r.ms.length).map (fun i => (solveF false r).1.getD i (0, 0)) ∧
    (due.take (2 * r.ms.length)).drop r.ms.length = ((List.range r.ms.length).map (fun x => 6 + x)).map (fun i => (solveF false r).1.getD i (0, 0)) ∧
    due.drop (2 * r.ms.length) = (List.range r.cs.length).map (fun i => if r.cs[i]!.kin = true then (0, 0) else (solveF false r).1.getD (12 + i) (0, 0))) := by
  obtain ⟨hm1, hm6⟩ := hw.ms_l
  have hc8 := hw.cs_l
  have e1 : (∃ t, Lived r t) ↔ ∃ l, InBox (givenL r) l ∧ LivedL r l := ⟨fun ⟨t, ht⟩ => ⟨_, lived_list hw ht⟩, fun ⟨l, h1, h2⟩ => ⟨_, list_lived hw h1 h2⟩⟩
  have e2 : (solveF false r).2 = some := by
    rw [Bool.eq_iff_iff, solve_iff' hw.toVal, e1]
    exact h.ex.symm
  refine ⟨e2, fun hs => ?_⟩
  subst hs
  have hlen := h.len
  have hg := given_len (r := r)
  rw [hg] at hlen
  have hin : ∀ l, InBox (givenL r) l ∧ LivedL r l → ∀ i, i < 20 → ((solveF false r).1.getD i (0, 0)).1 ≤ truthL r l i ∧ truthL r l i ≤ ((solveF false r).1.getD i (0, 0)).2 := fun l hl => solve_in hw.toVal ((truth_iff hw.toVal).2 (list_lived hw hl.1 hl.2))
  have hlo : ∀ i, i < 20 → ∃ t, Lived r t ∧ t i = ((solveF false r).1.getD i (0, 0)).1 := fun i hi => by
    obtain ⟨t, ht, e⟩ := solve_lo hw.toVal e2 hi
    exact ⟨t, (truth_iff hw.toVal).1 ht, e⟩
  have hhi : ∀ i, i < 20 → ∃ t, Lived r t ∧ t i = ((solveF false r).1.getD i (0, 0)).2 := fun i hi => by
    obtain ⟨t, ht, e⟩ := solve_hi hw.toVal e2 hi
    exact ⟨t, (truth_iff hw.toVal).1 ht, e⟩
  have pb : ∀ i, i < r.ms.length → due[i]! = (solveF false r).1.getD i (0, 0) := fun i hi => by
    refine hull_fst h (by omega) (fun l hl => ?_) ?_ ?_
    · have := hin l hl i (by omega)
      rw [truthL_b hi] at this; exact this
    · obtain ⟨t, ht, e⟩ := hlo i (by omega)
      exact ⟨_, lived_list hw ht, by rw [listT_b hi]; exact e⟩
    · obtain ⟨t, ht, e⟩ := hhi i (by omega)
      exact ⟨_, lived_list hw ht, by rw [listT_b hi]; exact e⟩
  have pd : ∀ i, i < r.ms.length → due[r.ms.length + i]! = (solveF false r).1.getD (6 + i) (0, 0) := fun i hi => by
    refine hull_fst h (by omega) (fun l hl => ?_) ?_ ?_
    · have := hin l hl (6 + i) (by omega)
      rw [truthL_d hm6 hi] at this; exact this
    · obtain ⟨t, ht, e⟩ := hlo (6 + i) (by omega)
      exact ⟨_, lived_list hw ht, by rw [listT_d hi]; exact e⟩
    · obtain ⟨t, ht, e⟩ := hhi (6 + i) (by omega)
      exact ⟨_, lived_list hw ht, by rw [listT_d hi]; exact e⟩
  have py : ∀ i, i < r.cs.length → due[2 * r.ms.length + i]! = if r.cs[i]!.kin = true then (0, 0) else (solveF false r).1.getD (12 + i) (0, 0) := fun i hi => by
    split
    · rename_i hk
      obtain ⟨_, _, a3, _⟩ := hw.cs_ok _ (get!_mem hi)
      obtain ⟨_, _, _, _, _, z1, z2⟩ := a3 hk
      have hz : ∀ l, InBox (givenL r) l ∧ LivedL r l → l[2 * r.ms.length + i]! = 0 := fun l hl => by
        have := hl.1.2 (2 * r.ms.length + i) (by omega)
        rw [given_y hi] at this
        simp only at this
        omega
      obtain ⟨l, hl⟩ := h.ex.1 rfl
      exact hull_fst h (by omega) (fun l hl => by rw [hz l hl]; exact ⟨Int.le_refl _, Int.le_refl _⟩) ⟨l, hl, hz l hl⟩ ⟨l, hl, hz l hl⟩
    · refine hull_fst h (by omega) (fun l hl => ?_) ?_ ?_
      · have := hin l hl (12 + i) (by omega)
        rw [truthL_y hm6 hi] at this; exact this
      · obtain ⟨t, ht, e⟩ := hlo (12 + i) (by omega)
        exact ⟨_, lived_list hw ht, by rw [listT_y hi]; exact e⟩
      · obtain ⟨t, ht, e⟩ := hhi (12 + i) (by omega)
        exact ⟨_, lived_list hw ht, by rw [listT_y hi]; exact e⟩
  refine ⟨?_, ?_, ?_⟩
  · apply List.ext_getElem
    · simp only [List.length_take, List.length_map, List.length_range]; omega
    · intro i h1 h2
      simp only [List.length_map, List.length_range] at h2
      have := pb i h2
      rw [get!_eq (by omega)] at this
      simp only [List.getElem_take, List.getElem_map, List.getElem_range]
      exact this
  · apply List.ext_getElem
    · simp only [List.length_take, List.length_drop, List.length_map, List.length_range]; omega
    · intro i h1 h2
      simp only [List.length_map, List.length_range] at h2
      have := pd i h2
      rw [get!_eq (by omega)] at this
      simp only [List.getElem_take, List.getElem_drop, List.getElem_map, List.getElem_range]
      exact this
  · apply List.ext_getElem
    · simp only [List.length_drop, List.length_map, List.length_range]; omega
    · intro i h1 h2
      simp only [List.length_map, List.length_range] at h2
      have := py i h2
      rw [get!_eq (by omega)] at this
      simp only [List.getElem_drop, List.getElem_map, List.getElem_range]
      exact this
end
end Go.Proofs
