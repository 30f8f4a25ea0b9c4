/- What functions of the given program do in the ideal machine (H1, H2), and the plain laws of what they answer; the conditions stand in each theorem. -/
import Derived.Test.YtencmmlmeifffaaGb
set_option linter.all false
set_option linter.unusedSectionVars false
set_option linter.unusedSimpArgs false
set_option linter.unusedVariables false
namespace Go.Proofs
open Go Go.Idl
set_option linter.unusedSimpArgs false
def InT (k : Kn) (t : Nat → Int) : Prop := ∀ i, i < 20 → (k.getD i (0, 0)).1 ≤ t i ∧ t i ≤ (k.getD i (0, 0)).2
def Sat (t : Nat → Int) (x : Rule) : Prop := t x.a + x.n ≤ t x.b
theorem InT.step {k : Kn} {t : Nat → Int} {x : Rule} (h : InT k t) (hk : k.length = 20) (hr : RB x) (hs : Sat t x) : ∃ k', narStep k x = some k' ∧ InT k' t := by
  have ha := h x.a hr.1
  have hb := h x.b hr.2.1
  unfold Sat at hs
  unfold narStep
  simp only
  rw [if_neg (by omega)]
  refine ⟨_, rfl, fun i hi => ?_⟩
  rw [getD_set (by rw [List.length_set, hk]; exact hr.2.1), getD_set (by rw [hk]; exact hr.1)]
  by_cases h1 : x.b = i
  · rw [if_pos h1]; subst h1; simp only; omega
  · rw [if_neg h1]
    by_cases h2 : x.a = i
    · rw [if_pos h2]; subst h2; simp only; omega
    · rw [if_neg h2]; exact h i hi
theorem InT.round {t : Nat → Int} : ∀ {rs : List Rule} {k : Kn}, InT k t → InB k → (∀ x ∈ rs, RB x) → (∀ x ∈ rs, Sat t x) → ∃ k', narRoundE k rs = (k', true) ∧ InT k' t
  | [], k, h, _, _, _ => ⟨k, rfl, h⟩
  | x :: rs, k, h, hk, hr, hs => by
    obtain ⟨k1, e, h1⟩ := h.step hk.1 (hr x List.mem_cons_self) (hs x List.mem_cons_self)
    obtain ⟨k2, e2, h2⟩ := InT.round (rs := rs) h1 (hk.step (hr x List.mem_cons_self) e) (fun y hy => hr y (List.mem_cons_of_mem _ hy)) (fun y hy => hs y (List.mem_cons_of_mem _ hy))
    exact ⟨k2, by unfold narRoundE; rw [e]; exact e2, h2⟩
theorem InT.nar {k : Kn} {t : Nat → Int} {rs : List Rule} (h : InT k t) (hk : InB k) (hr : ∀ x ∈ rs, RB x) (hs : ∀ x ∈ rs, Sat t x) : (nar k rs).2 = true ∧ InT (nar k rs).1 t := by
  show (narF (meas k + 1) k rs).2 = true ∧ InT (narF (meas k + 1) k rs).1 t
  generalize meas k + 1 = n
  induction n generalizing k with
  | zero => exact ⟨rfl, h⟩
  | succ n ih =>
    obtain ⟨k1, e, h1⟩ := h.round hk hr hs
    have hk1 : InB k1 := by have := InB_roundE hk hr; rw [e] at this; exact this
    unfold narF
    rw [e]
    simp only
    split
    · exact ⟨rfl, h⟩
    · exact ih h1 hk1
theorem step_sub {k k' : Kn} {t : Nat → Int} {x : Rule} (hk : k.length = 20) (hr : RB x) (e : narStep k x = some k') (h : InT k' t) : InT k t := by
  unfold narStep at e
  simp only at e
  split at e
  · cases e
  injection e with e
  subst e
  intro i hi
  have := h i hi
  rw [getD_set (by rw [List.length_set, hk]; exact hr.2.1), getD_set (by rw [hk]; exact hr.1)] at this
  have hb := h x.b hr.2.1
  rw [getD_set (by rw [List.length_set, hk]; exact hr.2.1), if_pos rfl] at hb
  by_cases h1 : x.b = i
  · subst h1
    rw [if_pos rfl] at this
    simp only at this hb
    by_cases h2 : x.a = x.b
    · rw [h2] at this; omega
    · omega
  · rw [if_neg h1] at this
    by_cases h2 : x.a = i
    · subst h2; rw [if_pos rfl] at this; simp only at this; omega
    · rw [if_neg h2] at this; exact this
theorem round_sub {t : Nat → Int} : ∀ {rs : List Rule} {k : Kn}, InB k → (∀ x ∈ rs, RB x) → InT (narRoundE k rs).1 t → InT k t
  | [], _, _, _, h => h
  | x :: rs, k, hk, hr, h => by
    unfold narRoundE at h
    cases e : narStep k x with
    | none => rw [e] at h; exact h
    | some k1 =>
      rw [e] at h
      exact step_sub hk.1 (hr x List.mem_cons_self) e (round_sub (rs := rs) (hk.step (hr x List.mem_cons_self) e) (fun y hy => hr y (List.mem_cons_of_mem _ hy)) h)
theorem nar_sub {k : Kn} {t : Nat → Int} {rs : List Rule} (hk : InB k) (hr : ∀ x ∈ rs, RB x) (h : InT (nar k rs).1 t) : InT k t := by
  change InT (narF (meas k + 1) k rs).1 t at h
  generalize meas k + 1 = n at h
  induction n generalizing k with
  | zero => exact h
  | succ n ih =>
    unfold narF at h
    have hs := @round_sub t rs k hk hr
    have hk1 := InB_roundE hk hr
    rcases hE : narRoundE k rs with ⟨k1, t1⟩
    rw [hE] at h hs hk1
    cases t1 with
    | false => exact hs h
    | true =>
      simp only at h
      split at h
      · exact h
      · exact hs (ih hk1 h)
theorem nar_fix {rs : List Rule} (hr : ∀ x ∈ rs, RB x) : ∀ (n : Nat) {k : Kn}, InB k → meas k < n → (nar k rs).2 = true → narRoundE (nar k rs).1 rs = ((nar k rs).1, true) := by
  intro n
  induction n with
  | zero => intro k _ h; omega
  | succ n ih =>
    intro k hk hm h
    rw [nar_eq hr hk] at h ⊢
    rcases hE : narRoundE k rs with ⟨k1, t1⟩
    rw [hE] at h
    cases t1 with
    | false => cases h
    | true =>
      simp only at h ⊢
      obtain ⟨hk1, hq⟩ := narRound_in hk hr (roundE_some hE)
      by_cases he : k1 = k
      · simp only [if_pos he]
        rw [hE, he]
      · rw [if_neg he] at h
        simp only [if_neg he]
        rcases hq with hq | hq
        · exact absurd hq he
        · exact ih hk1 (by omega) h
theorem round_fix : ∀ {rs : List Rule} {k k' : Kn}, InB k → (∀ x ∈ rs, RB x) → narRoundE k rs = (k', true) → meas k' ≤ meas k ∧ (meas k' = meas k → ∀ x ∈ rs, narStep k x = some k)
  | [], k, k', _, _, e => by
    injection e with e1 e2
    subst e1
    exact ⟨Nat.le_refl _, fun _ x hx => by cases hx⟩
  | x :: rs, k, k', hk, hr, e => by
    unfold narRoundE at e
    cases e1 : narStep k x with
    | none => rw [e1] at e; injection e with _ e; cases e
    | some k1 =>
      rw [e1] at e
      have hk1 := hk.step (hr x List.mem_cons_self) e1
      obtain ⟨m1, m2⟩ := round_fix (rs := rs) hk1 (fun y hy => hr y (List.mem_cons_of_mem _ hy)) e
      rcases narStep_meas hk (hr x List.mem_cons_self) e1 with rfl | hm
      · refine ⟨m1, fun he y hy => ?_⟩
        rcases List.mem_cons.1 hy with rfl | hy
        · exact e1
        · exact m2 he y hy
      · exact ⟨by omega, fun he => by omega⟩
def lowT (k : Kn) : Nat → Int := fun i => (k.getD i (0, 0)).1
def highT (k : Kn) : Nat → Int := fun i => (k.getD i (0, 0)).2
theorem step_fix {k : Kn} {x : Rule} (hk : k.length = 20) (hr : RB x) (e : narStep k x = some k) : Sat (lowT k) x ∧ Sat (highT k) x := by
  unfold narStep at e
  simp only at e
  split at e
  · cases e
  injection e with e
  have eb := congrArg (fun l : Kn => l.getD x.b (0, 0)) e
  have ea := congrArg (fun l : Kn => l.getD x.a (0, 0)) e
  try simp only at ea eb
  rw [getD_set (by rw [List.length_set, hk]; exact hr.2.1), getD_set (by rw [hk]; exact hr.1)] at ea eb
  rw [if_pos rfl] at eb
  have eb1 := congrArg Prod.fst eb
  simp only at eb1
  unfold Sat lowT highT
  by_cases h : x.b = x.a
  · rw [h] at eb1 ⊢
    omega
  · rw [if_neg h, if_pos rfl] at ea
    have ea2 := congrArg Prod.snd ea
    simp only at ea2
    omega
theorem nar_ends {k : Kn} {rs : List Rule} (hk : InB k) (hr : ∀ x ∈ rs, RB x) (h : (nar k rs).2 = true) : ∀ x ∈ rs, Sat (lowT (nar k rs).1) x ∧ Sat (highT (nar k rs).1) x := by
  intro x hx
  have hk2 := InB_nar hk hr
  exact step_fix hk2.1 (hr x hx) ((round_fix hk2 hr (nar_fix hr _ hk (Nat.lt_succ_self _) h)).2 rfl x hx)
theorem inT_low {k : Kn} (hk : InB k) : InT k (lowT k) := fun i hi => ⟨Int.le_refl _, (hk.get i hi).2.1⟩
theorem inT_high {k : Kn} (hk : InB k) : InT k (highT k) := fun i hi => ⟨(hk.get i hi).2.1, Int.le_refl _⟩
def TrF (k : Kn) (l : List Rule) (ws : List (List (List Rule))) (t : Nat → Int) : Prop := InT k t ∧ (∀ x ∈ l, Sat t x) ∧ ∀ w ∈ ws, ∃ alt ∈ w, ∀ x ∈ alt, Sat t x
def Good (T : (Nat → Int) → Prop) (st : Kn × Bool) : Prop := st.1.length = 20 ∧ (st.2 = true → ∀ i, i < 20 → (∃ t, T t ∧ t i = (st.1.getD i (0, 0)).1) ∧ ∃ t, T t ∧ t i = (st.1.getD i (0, 0)).2)
theorem hullTo_getD {f k : Kn} (hf : f.length = 20) : ∀ {n i : Nat}, n ≤ 20 → i < 20 → (hullTo f k n).getD i (0, 0) = if i < n then (min (f.getD i (0, 0)).1 (k.getD i (0, 0)).1, max (f.getD i (0, 0)).2 (k.getD i (0, 0)).2) else f.getD i (0, 0) := by
  intro n
  induction n with
  | zero => intro i _ _; rw [if_neg (Nat.not_lt_zero _)]; rfl
  | succ n ih =>
    intro i hn hi
    rw [hullTo, getD_set (by rw [hullTo_len, hf]; omega)]
    by_cases h : n = i
    · subst h; rw [if_pos rfl, if_pos (Nat.lt_succ_self _)]
    · rw [if_neg h, ih (by omega) hi]
      by_cases h2 : i < n
      · rw [if_pos h2, if_pos (by omega)]
      · rw [if_neg h2, if_neg (by omega)]
theorem hull_good {T : (Nat → Int) → Prop} {f k : Kn} {b : Bool} (hf : Good T (f, b)) (hk : InB k) (h1 : T (lowT k)) (h2 : T (highT k)) : Good T (hullTo (if b = true then f else k) k 20, true) := by
  have hl : (if b = true then f else k).length = 20 := by
    split
    · exact hf.1
    · exact hk.1
  refine ⟨by rw [hullTo_len]; exact hl, fun _ i hi => ?_⟩
  have e := hullTo_getD (k := k) hl (Nat.le_refl 20) hi
  rw [if_pos hi] at e
  simp only
  rw [e]
  simp only
  cases b with
  | true =>
    simp only [if_true]
    obtain ⟨⟨t1, a1, a2⟩, t2, b1, b2⟩ := hf.2 rfl i hi
    simp only at a2 b2
    constructor
    · by_cases hm : (f.getD i (0, 0)).1 ≤ (k.getD i (0, 0)).1
      · exact ⟨t1, a1, by omega⟩
      · exact ⟨_, h1, by show (k.getD i (0, 0)).1 = _; omega⟩
    · by_cases hm : (k.getD i (0, 0)).2 ≤ (f.getD i (0, 0)).2
      · exact ⟨t2, b1, by omega⟩
      · exact ⟨_, h2, by show (k.getD i (0, 0)).2 = _; omega⟩
  | false =>
    simp only [Bool.false_eq_true, if_false]
    exact ⟨⟨_, h1, by show (k.getD i (0, 0)).1 = _; omega⟩, ⟨_, h2, by show (k.getD i (0, 0)).2 = _; omega⟩⟩
theorem search_good {enough : Bool} {T : (Nat → Int) → Prop} : ∀ {ws : List (List (List Rule))} {k : Kn} {l : List Rule} {st : Kn × Bool}, InB k → (∀ x ∈ l, RB x) → (∀ w ∈ ws, ∀ alt ∈ w, ∀ x ∈ alt, RB x) → (∀ t, TrF k l ws t → T t) → Good T st → Good T (searchF enough ws k l st)
  | [], k, l, st, hk, hl, _, hT, hs => by
    unfold searchF
    split
    · exact hs
    · rename_i h
      have h2 : (nar k l).2 = true := by cases e : (nar k l).2 <;> simp_all
      have hn := InB_nar hk hl
      have he := nar_ends hk hl h2
      obtain ⟨f, b⟩ := st
      exact hull_good hs hn (hT _ ⟨nar_sub hk hl (inT_low hn), fun x hx => (he x hx).1, fun w hw => by cases hw⟩) (hT _ ⟨nar_sub hk hl (inT_high hn), fun x hx => (he x hx).2, fun w hw => by cases hw⟩)
  | w :: ws, k, l, st, hk, hl, hw, hT, hs => by
    unfold searchF
    split
    · exact hs
    · refine foldl_inv (P := Good T) hs fun st' alt ha hs' => search_good (ws := ws) (InB_nar hk hl) (fun x hx => (List.mem_append.1 hx).elim (hl x) (hw w List.mem_cons_self alt ha x)) (fun w' h' => hw w' (List.mem_cons_of_mem _ h')) (fun t ht => ?_) hs'
      obtain ⟨t1, t2, t3⟩ := ht
      refine hT t ⟨nar_sub hk hl t1, fun x hx => t2 x (List.mem_append_left _ hx), fun v hv => ?_⟩
      rcases List.mem_cons.1 hv with rfl | hv
      · exact ⟨alt, ha, fun x hx => t2 x (List.mem_append_right _ hx)⟩
      · exact t3 v hv
def Has (enough : Bool) (t : Nat → Int) (st : Kn × Bool) : Prop := st.1.length = 20 ∧ st.2 = true ∧ (enough = false → InT st.1 t)
theorem hull_has {enough : Bool} {t : Nat → Int} {f k : Kn} (hf : f.length = 20) (h : enough = false → InT f t ∨ InT k t) : Has enough t (hullTo f k 20, true) := by
  refine ⟨by rw [hullTo_len]; exact hf, rfl, fun he i hi => ?_⟩
  have e := hullTo_getD (k := k) hf (Nat.le_refl 20) hi
  rw [if_pos hi] at e
  simp only
  rw [e]
  simp only
  rcases h he with h | h <;> (have := h i hi; omega)
theorem search_keeps {enough : Bool} {t : Nat → Int} : ∀ {ws : List (List (List Rule))} {k : Kn} {l : List Rule} {st : Kn × Bool}, Has enough t st → Has enough t (searchF enough ws k l st)
  | [], k, l, st, hs => by
    unfold searchF
    split
    · exact hs
    · rw [if_pos hs.2.1]; exact hull_has hs.1 fun he => .inl (hs.2.2 he)
  | w :: ws, k, l, st, hs => by
    unfold searchF
    split
    · exact hs
    · exact foldl_inv (P := Has enough t) hs fun st' alt _ hs' => search_keeps (ws := ws) hs'
theorem foldl_get {α β : Type} {f : β → α → β} {P Q : β → Prop} {a : α} : ∀ {w : List α} {b : β}, P b → a ∈ w → (∀ b, ∀ a ∈ w, P b → P (f b a)) → (∀ b, P b → Q (f b a)) → (∀ b, ∀ a ∈ w, Q b → Q (f b a)) → Q (w.foldl f b)
  | [], _, _, h, _, _, _ => by cases h
  | c :: w, b, hp, h, h1, h2, h3 => by
    rcases List.mem_cons.1 h with rfl | h
    · exact foldl_inv (w := w) (h2 b hp) fun b' a' ha => h3 b' a' (List.mem_cons_of_mem _ ha)
    · exact foldl_get (w := w) (h1 b c List.mem_cons_self hp) h (fun b' a' ha => h1 b' a' (List.mem_cons_of_mem _ ha)) h2 fun b' a' ha => h3 b' a' (List.mem_cons_of_mem _ ha)
theorem search_has {enough : Bool} {t : Nat → Int} : ∀ {ws : List (List (List Rule))} {k : Kn} {l : List Rule} {st : Kn × Bool}, InB k → (∀ x ∈ l, RB x) → (∀ w ∈ ws, ∀ alt ∈ w, ∀ x ∈ alt, RB x) → TrF k l ws t → st.1.length = 20 → Has enough t (searchF enough ws k l st)
  | [], k, l, st, hk, hl, _, ht, hs => by
    have hn := ht.1.nar hk hl ht.2.1
    have hb := InB_nar hk hl
    unfold searchF
    split
    · rename_i h
      rcases h with h | ⟨h1, h2⟩
      · rw [hn.1] at h; cases h
      · refine ⟨hs, h1, fun he => ?_⟩
        rcases h2 with h2 | h2
        · rw [he] at h2; cases h2
        · intro i hi
          have := hn.2 i hi
          have := h2 i hi
          omega
    · refine hull_has ?_ fun he => .inr hn.2
      split
      · exact hs
      · exact hb.1
  | w :: ws, k, l, st, hk, hl, hw, ht, hs => by
    have hn := ht.1.nar hk hl ht.2.1
    have hb := InB_nar hk hl
    unfold searchF
    split
    · rename_i h
      rcases h with h | ⟨h1, h2⟩
      · rw [hn.1] at h; cases h
      · refine ⟨hs, h1, fun he => ?_⟩
        rcases h2 with h2 | h2
        · rw [he] at h2; cases h2
        · intro i hi
          have := hn.2 i hi
          have := h2 i hi
          omega
    · obtain ⟨alt, ha, hsat⟩ := ht.2.2 w List.mem_cons_self
      have hrb : ∀ alt ∈ w, ∀ x ∈ l ++ alt, RB x := fun alt ha x hx => (List.mem_append.1 hx).elim (hl x) (hw w List.mem_cons_self alt ha x)
      have hws : ∀ w' ∈ ws, ∀ alt ∈ w', ∀ x ∈ alt, RB x := fun w' h' => hw w' (List.mem_cons_of_mem _ h')
      refine foldl_get (P := fun st : Kn × Bool => st.1.length = 20) (Q := Has enough t) (a := alt) hs ha (fun st' alt' ha' hs' => searchF_len (ws := ws) hb (hrb alt' ha') hws hs') (fun st' hs' => ?_) fun st' alt' _ hs' => search_keeps hs'
      refine search_has (ws := ws) hb (hrb alt ha) hws ⟨hn.2, fun x hx => (List.mem_append.1 hx).elim (ht.2.1 x) (hsat x), fun w' h' => ht.2.2 w' (List.mem_cons_of_mem _ h')⟩ hs'
def Truth (r : Roll) (t : Nat → Int) : Prop := TrF (k0F r) (rulesF r) (choicesF r) t
theorem solve_good {r : Roll} (hv : Val r) {enough : Bool} : Good (Truth r) (solveF enough r) :=
  search_good (recK_InB hv (Nat.le_refl _)) (rules_ok hv) (fun w hw alt ha => ((choices_ok hv w hw).2 alt ha).2.2) (fun _ h => h) ⟨rfl, fun h => by cases h⟩
theorem solve_has {r : Roll} (hv : Val r) {enough : Bool} {t : Nat → Int} (ht : Truth r t) : Has enough t (solveF enough r) :=
  search_has (recK_InB hv (Nat.le_refl _)) (rules_ok hv) (fun w hw alt ha => ((choices_ok hv w hw).2 alt ha).2.2) ht rfl
theorem solve_iff {r : Roll} (hv : Val r) {enough : Bool} : (solveF enough r).2 = true ↔ ∃ t, Truth r t :=
  ⟨fun h => (((solve_good hv).2 h 0 (by decide)).1).imp fun _ h => h.1, fun ⟨_, ht⟩ => (solve_has hv ht).2.1⟩
theorem solve_in {r : Roll} (hv : Val r) {t : Nat → Int} (ht : Truth r t) : InT (solveF false r).1 t := (solve_has hv ht).2.2 rfl
theorem solve_lo {r : Roll} (hv : Val r) (h : (solveF false r).2 = true) {i : Nat} (hi : i < 20) : ∃ t, Truth r t ∧ t i = ((solveF false r).1.getD i (0, 0)).1 := ((solve_good hv).2 h i hi).1
theorem solve_hi {r : Roll} (hv : Val r) (h : (solveF false r).2 = true) {i : Nat} (hi : i < 20) : ∃ t, Truth r t ∧ t i = ((solveF false r).1.getD i (0, 0)).2 := ((solve_good hv).2 h i hi).2
end Go.Proofs
namespace Go.Proofs
open Go Go.Idl
set_option linter.unusedSimpArgs false
def FitP (os : List Office) (fs : List (List Bool)) (a : Rec) (y : Int) (c : Rec) (z : Int) : Prop :=
  (a.office = c.office → 0 ≤ a.office → (y + (offAt os a.office).again ≤ z ∨ z + (offAt os a.office).again ≤ y) ∨ (farAt fs a.town c.town = false ∧ y = z)) ∧
  (farAt fs a.town c.town = true → y ≠ z) ∧
  (0 ≤ a.office → a.office < c.office → y + (offAt os c.office).gap ≤ z) ∧
  (0 ≤ c.office → c.office < a.office → z + (offAt os a.office).gap ≤ y)
theorem sat1 {t : Nat → Int} {i k : Nat} {n : Int} : (∀ x ∈ [(⟨12 + i, 12 + k, n⟩ : Rule)], Sat t x) ↔ t (12 + i) + n ≤ t (12 + k) := by
  simp [Sat]
theorem pair_fit {os : List Office} {fs : List (List Bool)} {a c : Rec} {i k : Nat} {t : Nat → Int} (ho : ∀ o ∈ os, OffOk o) :
    (∀ w, pairF os fs a c i k = some w → ∃ alt ∈ w, ∀ x ∈ alt, Sat t x) ↔ FitP os fs a (t (12 + i)) c (t (12 + k)) := by
  generalize hy : t (12 + i) = y
  generalize hz : t (12 + k) = z
  have hik : ∀ n : Int, (∀ x ∈ [(⟨12 + i, 12 + k, n⟩ : Rule)], Sat t x) ↔ y + n ≤ z := fun n => by rw [sat1, hy, hz]
  have hki : ∀ n : Int, (∀ x ∈ [(⟨12 + k, 12 + i, n⟩ : Rule)], Sat t x) ↔ z + n ≤ y := fun n => by rw [sat1, hy, hz]
  have hap : ∀ n : Int, (∃ alt ∈ apart i k n, ∀ x ∈ alt, Sat t x) ↔ (y + n ≤ z ∨ z + n ≤ y) := fun n => by
    unfold apart
    constructor
    · rintro ⟨alt, h, h2⟩
      simp only [List.mem_cons, List.not_mem_nil, or_false] at h
      rcases h with rfl | rfl
      · exact .inl ((hik n).1 h2)
      · exact .inr ((hki n).1 h2)
    · rintro (h | h)
      · exact ⟨_, List.mem_cons_self, (hik n).2 h⟩
      · exact ⟨_, List.mem_cons_of_mem _ List.mem_cons_self, (hki n).2 h⟩
  have heq : (∀ x ∈ [(⟨12 + i, 12 + k, 0⟩ : Rule), ⟨12 + k, 12 + i, 0⟩], Sat t x) ↔ y = z := by
    simp [Sat, hy, hz]; omega
  unfold FitP pairF
  by_cases h1 : a.office = c.office ∧ 0 ≤ a.office
  · rw [if_pos h1]
    obtain ⟨_, _, _, _, g1, _⟩ := offAt_ok ho a.office
    cases hf : farAt fs a.town c.town with
    | true =>
      simp only [if_true, List.append_nil, Option.some.injEq, forall_eq', hap]
      constructor
      · intro h
        exact ⟨fun _ _ => .inl h, fun _ e => by omega, fun _ _ => by omega, fun _ _ => by omega⟩
      · rintro ⟨h, -⟩
        rcases h h1.1 h1.2 with h | ⟨h, -⟩
        · exact h
        · cases h
    | false =>
      simp only [Bool.false_eq_true, if_false, Option.some.injEq, forall_eq']
      constructor
      · rintro ⟨alt, ha, h⟩
        refine ⟨fun _ _ => ?_, fun e => absurd e (by simp), fun _ _ => by omega, fun _ _ => by omega⟩
        rcases List.mem_append.1 ha with ha | ha
        · exact .inl ((hap _).1 ⟨alt, ha, h⟩)
        · rw [List.mem_singleton] at ha
          subst ha
          exact .inr ⟨trivial, heq.1 h⟩
      · rintro ⟨h, -⟩
        rcases h h1.1 h1.2 with h | ⟨-, h⟩
        · obtain ⟨alt, ha, h⟩ := (hap _).2 h
          exact ⟨alt, List.mem_append_left _ ha, h⟩
        · exact ⟨_, List.mem_append_right _ (List.mem_singleton.2 rfl), heq.2 h⟩
  · rw [if_neg h1]
    by_cases h2 : a.office < 0 ∨ c.office < 0
    · rw [if_pos h2]
      cases hf : farAt fs a.town c.town with
      | true =>
        simp only [if_true, Option.some.injEq, forall_eq', hap]
        constructor
        · intro h
          exact ⟨fun e1 e2 => absurd ⟨e1, e2⟩ h1, fun _ e => by omega, fun _ _ => by omega, fun _ _ => by omega⟩
        · rintro ⟨-, h, -⟩
          have := h trivial
          omega
      | false =>
        simp only [Bool.false_eq_true, if_false, reduceCtorEq, false_imp_iff, implies_true, true_iff]
        exact ⟨fun e1 e2 => absurd ⟨e1, e2⟩ h1, trivial, fun _ _ => by omega, fun _ _ => by omega⟩
    · rw [if_neg h2]
      obtain ⟨_, _, g1, _, _, _⟩ := offAt_ok ho (max a.office c.office)
      simp only
      by_cases h3 : c.office < a.office
      · rw [if_pos h3]
        have hm : max a.office c.office = a.office := by omega
        rw [hm] at g1 ⊢
        simp only [Option.some.injEq, forall_eq', List.mem_singleton, exists_eq_left]
        have hs : ∀ n : Int, (∀ x, x = (⟨12 + k, 12 + i, n⟩ : Rule) → Sat t x) ↔ z + n ≤ y := fun n => by rw [← hki n]; simp
        rw [hs]
        cases hf : farAt fs a.town c.town with
        | true =>
          simp only [if_true]
          constructor
          · intro h
            exact ⟨fun e1 e2 => absurd ⟨e1, e2⟩ h1, fun _ e => by omega, fun _ _ => by omega, fun _ _ => by omega⟩
          · rintro ⟨-, h, -, h4⟩
            have := h trivial
            have := h4 (by omega) h3
            omega
        | false =>
          simp only [Bool.false_eq_true, if_false]
          constructor
          · intro h
            exact ⟨fun e1 e2 => absurd ⟨e1, e2⟩ h1, fun e => absurd e (by simp), fun _ _ => by omega, fun _ _ => by omega⟩
          · rintro ⟨-, -, -, h4⟩
            exact h4 (by omega) h3
      · rw [if_neg h3]
        have h3' : a.office < c.office := by omega
        have hm : max a.office c.office = c.office := by omega
        rw [hm] at g1 ⊢
        simp only [Option.some.injEq, forall_eq', List.mem_singleton, exists_eq_left]
        have hs : ∀ n : Int, (∀ x, x = (⟨12 + i, 12 + k, n⟩ : Rule) → Sat t x) ↔ y + n ≤ z := fun n => by rw [← hik n]; simp
        rw [hs]
        cases hf : farAt fs a.town c.town with
        | true =>
          simp only [if_true]
          constructor
          · intro h
            exact ⟨fun e1 e2 => absurd ⟨e1, e2⟩ h1, fun _ e => by omega, fun _ _ => by omega, fun _ _ => by omega⟩
          · rintro ⟨-, h, h4, -⟩
            have := h trivial
            have := h4 (by omega) h3'
            omega
        | false =>
          simp only [Bool.false_eq_true, if_false]
          constructor
          · intro h
            exact ⟨fun e1 e2 => absurd ⟨e1, e2⟩ h1, fun e => absurd e (by simp), fun _ _ => by omega, fun _ _ => by omega⟩
          · rintro ⟨-, -, h4, -⟩
            exact h4 (by omega) h3'
def Used (r : Roll) (i : Nat) : Prop := i < r.ms.length ∨ (6 ≤ i ∧ i < 6 + r.ms.length) ∨ (12 ≤ i ∧ i < 12 + r.cs.length)
structure Lived (r : Roll) (t : Nat → Int) : Prop where
  born : ∀ i, i < r.ms.length → r.ms[i]!.blo ≤ t i ∧ t i ≤ r.ms[i]!.bhi
  died : ∀ i, i < r.ms.length → r.ms[i]!.dlo ≤ t (6 + i) ∧ t (6 + i) ≤ r.ms[i]!.dhi
  life : ∀ i, i < r.ms.length → t i ≤ t (6 + i) ∧ t (6 + i) ≤ t i + r.life
  year : ∀ i, i < r.cs.length → r.cs[i]!.lo ≤ t (12 + i) ∧ t (12 + i) ≤ r.cs[i]!.hi
  kin : ∀ i, i < r.cs.length → r.cs[i]!.kin = true → t r.cs[i]!.man.toNat + r.plo ≤ t r.cs[i]!.child.toNat ∧ t r.cs[i]!.child.toNat ≤ t r.cs[i]!.man.toNat + r.phi ∧ t r.cs[i]!.child.toNat ≤ t (6 + r.cs[i]!.man.toNat) + 1
  held : ∀ i, i < r.cs.length → r.cs[i]!.kin = false → t r.cs[i]!.man.toNat + ageOf r.os r.cs[i]! ≤ t (12 + i) ∧ t (12 + i) ≤ t (6 + r.cs[i]!.man.toNat)
  fit : ∀ i k, i < k → k < r.cs.length → r.cs[i]!.kin = false → r.cs[k]!.kin = false → r.cs[i]!.man = r.cs[k]!.man → FitP r.os r.fs r.cs[i]! (t (12 + i)) r.cs[k]! (t (12 + k))
  zero : ∀ i, i < 20 → ¬ Used r i → t i = 0
theorem menK_get {r : Roll} {n i : Nat} (hn : n ≤ 6) : (menK r n).getD i (0, 0) = if i < n then (r.ms[i]!.blo, r.ms[i]!.bhi) else if 6 ≤ i ∧ i < 6 + n then (r.ms[i - 6]!.dlo, r.ms[i - 6]!.dhi) else (0, 0) := by
  induction n with
  | zero =>
    rw [if_neg (Nat.not_lt_zero _), if_neg (by omega)]
    simp only [menK, zk, List.getD_eq_getElem?_getD]
    by_cases h : i < 20
    · rw [List.getElem?_replicate]; simp [h]
    · rw [List.getElem?_replicate]; simp [h]
  | succ n ih =>
    rw [menK, getD_set (by rw [List.length_set, menK_len]; omega), getD_set (by rw [menK_len]; omega), ih (by omega)]
    by_cases h1 : 6 + n = i
    · subst h1
      rw [if_pos rfl, if_neg (by omega), if_pos (by omega), show 6 + n - 6 = n by omega]
    · rw [if_neg h1]
      by_cases h2 : n = i
      · subst h2; rw [if_pos rfl, if_pos (by omega)]
      · rw [if_neg h2]
        by_cases h3 : i < n
        · rw [if_pos h3, if_pos (show i < n + 1 by omega)]
        · rw [if_neg h3, if_neg (show ¬ i < n + 1 by omega)]
          by_cases h4 : 6 ≤ i ∧ i < 6 + n
          · rw [if_pos h4, if_pos (show 6 ≤ i ∧ i < 6 + (n + 1) by omega)]
          · rw [if_neg h4, if_neg (show ¬ (6 ≤ i ∧ i < 6 + (n + 1)) by omega)]
theorem recK_get {r : Roll} {n i : Nat} (hn : n ≤ 8) : (recK r n).getD i (0, 0) = if 12 ≤ i ∧ i < 12 + n then (r.cs[i - 12]!.lo, r.cs[i - 12]!.hi) else (menK r r.ms.length).getD i (0, 0) := by
  induction n with
  | zero => rw [if_neg (by omega)]; rfl
  | succ n ih =>
    rw [recK, getD_set (by rw [recK_len]; omega), ih (by omega)]
    by_cases h1 : 12 + n = i
    · subst h1; rw [if_pos rfl, if_pos (by omega), show 12 + n - 12 = n by omega]
    · rw [if_neg h1]
      by_cases h2 : 12 ≤ i ∧ i < 12 + n
      · rw [if_pos h2, if_pos (by omega)]
      · rw [if_neg h2, if_neg (by omega)]
theorem k0F_in {r : Roll} (hv : Val r) {t : Nat → Int} : InT (k0F r) t ↔ (∀ i, i < r.ms.length → r.ms[i]!.blo ≤ t i ∧ t i ≤ r.ms[i]!.bhi) ∧ (∀ i, i < r.ms.length → r.ms[i]!.dlo ≤ t (6 + i) ∧ t (6 + i) ≤ r.ms[i]!.dhi) ∧
    (∀ i, i < r.cs.length → r.cs[i]!.lo ≤ t (12 + i) ∧ t (12 + i) ≤ r.cs[i]!.hi) ∧ ∀ i, i < 20 → ¬ Used r i → t i = 0 := by
  have hm := hv.ms_l
  have hc := hv.cs_l
  have hg : ∀ i, (k0F r).getD i (0, 0) = _ := fun i => (recK_get (i := i) hc).trans (by rw [menK_get hm.2])
  unfold InT
  constructor
  · intro h
    refine ⟨fun i hi => ?_, fun i hi => ?_, fun i hi => ?_, fun i hi hu => ?_⟩
    · have := h i (by omega)
      rw [hg, if_neg (by omega), if_pos hi] at this
      exact this
    · have := h (6 + i) (by omega)
      rw [hg, if_neg (by omega), if_neg (by omega), if_pos (by omega), show 6 + i - 6 = i by omega] at this
      exact this
    · have := h (12 + i) (by omega)
      rw [hg, if_pos (by omega), show 12 + i - 12 = i by omega] at this
      exact this
    · unfold Used at hu
      have := h i hi
      rw [hg, if_neg (by omega), if_neg (by omega), if_neg (by omega)] at this
      simp only at this
      omega
  · rintro ⟨h1, h2, h3, h4⟩ i hi
    rw [hg]
    by_cases c1 : 12 ≤ i ∧ i < 12 + r.cs.length
    · rw [if_pos c1]
      have := h3 (i - 12) (by omega)
      rw [show 12 + (i - 12) = i by omega] at this
      exact this
    · rw [if_neg c1]
      by_cases c2 : i < r.ms.length
      · rw [if_pos c2]; exact h1 i c2
      · rw [if_neg c2]
        by_cases c3 : 6 ≤ i ∧ i < 6 + r.ms.length
        · rw [if_pos c3]
          have := h2 (i - 6) (by omega)
          rw [show 6 + (i - 6) = i by omega] at this
          exact this
        · rw [if_neg c3]
          have := h4 i hi (by unfold Used; omega)
          simp only
          omega
theorem truth_iff {r : Roll} (hv : Val r) {t : Nat → Int} : Truth r t ↔ Lived r t := by
  unfold Truth TrF
  rw [k0F_in hv]
  constructor
  · rintro ⟨⟨h1, h2, h3, h4⟩, h5, h6⟩
    refine ⟨h1, h2, fun i hi => ?_, h3, fun i hi hk => ?_, fun i hi hk => ?_, fun i k hik hk k1 k2 hm => ?_, h4⟩
    · have e1 := h5 ⟨i, 6 + i, 0⟩ (mem_rules.2 (.inl ⟨i, hi, by simp [manRules]⟩))
      have e2 := h5 ⟨6 + i, i, -r.life⟩ (mem_rules.2 (.inl ⟨i, hi, by simp [manRules]⟩))
      simp only [Sat] at e1 e2
      omega
    · have e : ∀ x ∈ recRules r i r.cs[i]!, Sat t x := fun x hx => h5 x (mem_rules.2 (.inr ⟨i, hi, hx⟩))
      simp only [recRules, if_pos hk, List.forall_mem_cons, Sat, List.not_mem_nil, false_imp_iff, implies_true, and_true] at e
      omega
    · have e : ∀ x ∈ recRules r i r.cs[i]!, Sat t x := fun x hx => h5 x (mem_rules.2 (.inr ⟨i, hi, hx⟩))
      simp only [recRules, hk, Bool.false_eq_true, if_false, List.forall_mem_cons, Sat, List.not_mem_nil, false_imp_iff, implies_true, and_true] at e
      omega
    · exact (pair_fit hv.os_ok).1 fun w hw => h6 w ((mem_choices hv).2 ⟨i, k, hik, hk, k1, k2, hm, hw⟩)
  · intro h
    refine ⟨⟨h.born, h.died, h.year, h.zero⟩, fun x hx => ?_, fun w hw => ?_⟩
    · rcases mem_rules.1 hx with ⟨i, hi, hx⟩ | ⟨i, hi, hx⟩
      · simp only [manRules, List.mem_cons, List.not_mem_nil, or_false] at hx
        have := h.life i hi
        rcases hx with rfl | rfl <;> (simp only [Sat]; omega)
      · unfold recRules at hx
        split at hx
        · rename_i hk
          have := h.kin i hi hk
          simp only [List.mem_cons, List.not_mem_nil, or_false] at hx
          rcases hx with rfl | rfl | rfl <;> (simp only [Sat]; omega)
        · rename_i hk
          have := h.held i hi (by simpa using hk)
          simp only [List.mem_cons, List.not_mem_nil, or_false] at hx
          rcases hx with rfl | rfl <;> (simp only [Sat]; omega)
    · obtain ⟨i, k, hik, hk, k1, k2, hm, hw⟩ := (mem_choices hv).1 hw
      exact (pair_fit hv.os_ok).2 (h.fit i k hik hk k1 k2 hm) w hw
theorem solve_iff' {r : Roll} (hv : Val r) {enough : Bool} : (solveF enough r).2 = true ↔ ∃ t, Lived r t := by
  rw [solve_iff hv]; simp only [truth_iff hv]
end Go.Proofs
