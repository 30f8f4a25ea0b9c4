/- What functions of the given program do in the ideal machine (T17, T18, T19, T20, T21, T22), and the plain laws of what they answer; the conditions stand in each theorem. -/
import Derived.Test.YtoamjmokonnglaaTa
set_option linter.all false
set_option linter.unusedSectionVars false
set_option linter.unusedSimpArgs false
set_option linter.unusedVariables false
namespace Go.Dt
def Bnd (M : Int) (T : List Int) : Prop := ∀ x y, x < 10 → y < 10 → -M ≤ tb T x y ∧ tb T x y ≤ M
theorem good_low {T : List Int} (g : Good T) {U : Int} (h : ∀ x y, x < 10 → y < 10 → tb T x y ≤ U) : Bnd U T := fun x y hx hy => by
  have h1 := g.diag x hx
  have h2 := g.clos y x x hy hx hx
  have h3 := h y x hy hx
  exact ⟨by omega, h x y hx hy⟩
theorem within_bnd {T : List Int} (h : T.length = 100) {M : Int} (hb : Bnd M T) {a b : Nat} (ha : a < 10) (hb' : b < 10) {lo hi : Int} (h1 : -M ≤ lo) (h2 : lo ≤ M) (h3 : -M ≤ hi) (h4 : hi ≤ M) : Bnd M (withinL T a b lo hi) := fun x y hx hy => by
  have e := hb x y hx hy
  have e1 := hb b a hb' ha
  have e2 := hb a b ha hb'
  rw [tb_within h ha hb' hx hy]
  split
  · omega
  · split
    · omega
    · exact e
theorem closed_bnd {T : List Int} (h : T.length = 100) {M : Int} (hb : Bnd M T) (hc : (clsL T).2 = true) : Good (clsL T).1 ∧ Bnd M (clsL T).1 := by
  obtain ⟨f1, f2, f3, _, f5⟩ := clsL_true h hc
  exact ⟨⟨f1, f2, f3⟩, good_low ⟨f1, f2, f3⟩ fun x y hx hy => Int.le_trans (f5 x y hx hy) (hb x y hx hy).2⟩
theorem good_reach {T : List Int} (g : Good T) (h0 : ∀ a, a < 10 → tb T a a = 0) {a b : Nat} (ha : a < 10) (hb : b < 10) : ∃ w, w 0 = 0 ∧ Sat 10 (tb T) w ∧ w b - w a = tb T a b := by
  refine ⟨fun v => tb T a v - tb T a 0, Int.sub_self _, fun x y hx hy => ?_, ?_⟩
  · have := g.clos x a y hx ha hy
    show tb T a y - tb T a 0 - (tb T a x - tb T a 0) ≤ tb T x y
    omega
  · show tb T a b - tb T a 0 - (tb T a a - tb T a 0) = tb T a b
    have := h0 a ha
    omega
theorem good_diag {T : List Int} (g : Good T) (hz : ∀ a, a < 10 → tb T a a ≤ 0) : ∀ a, a < 10 → tb T a a = 0 := clos_diag g.clos g.diag hz
theorem good_ext {T U : List Int} (g : Good T) (k : Good U) (hz : ∀ a, a < 10 → tb T a a = 0) (kz : ∀ a, a < 10 → tb U a a = 0) (h : ∀ w, w 0 = 0 → (Sat 10 (tb T) w ↔ Sat 10 (tb U) w)) {a b : Nat} (ha : a < 10) (hb : b < 10) : tb T a b = tb U a b := by
  obtain ⟨w, w0, w1, w2⟩ := good_reach g hz ha hb
  obtain ⟨v, v0, v1, v2⟩ := good_reach k kz ha hb
  have e1 := (h w w0).1 w1 a b ha hb
  have e2 := (h v v0).2 v1 a b ha hb
  omega
end Go.Dt
namespace Go.Dt
def Rel (n : Nat) (emb : Nat → Nat) (K : Tb) (P : List Int) : Prop :=
  ∀ v : Nat → Int, v 0 = 0 → (Sat n K v ↔ ∃ w : Nat → Int, w 0 = 0 ∧ Sat 10 (tb P) w ∧ ∀ x, x < n → w (emb x) = v x)
theorem rel_add {n : Nat} {emb : Nat → Nat} {K K' : Tb} {P P' : List Int} (h : Rel n emb K P) {C : (Nat → Int) → Prop} {a b : Nat} (ha : a < n) (hb : b < n) {lo hi : Int}
    (hC : ∀ v, C v ↔ lo ≤ v b - v a ∧ v b - v a ≤ hi) (hK : ∀ v, Sat n K' v ↔ Sat n K v ∧ C v) (hP : ∀ w, Sat 10 (tb P') w ↔ Sat 10 (tb P) w ∧ lo ≤ w (emb b) - w (emb a) ∧ w (emb b) - w (emb a) ≤ hi) : Rel n emb K' P' := by
  intro v v0
  rw [hK, h v v0, hC]
  constructor
  · rintro ⟨⟨w, w0, w1, w2⟩, c1, c2⟩
    refine ⟨w, w0, (hP w).2 ⟨w1, ?_⟩, w2⟩
    rw [w2 a ha, w2 b hb]
    exact ⟨c1, c2⟩
  · rintro ⟨w, w0, w1, w2⟩
    obtain ⟨w3, w4⟩ := (hP w).1 w1
    rw [w2 a ha, w2 b hb] at w4
    exact ⟨⟨w, w0, w3, w2⟩, w4⟩
theorem rel_entry {n : Nat} {emb : Nat → Nat} {K : Tb} {P : List Int} (h : Rel n emb K P) (hn : 0 < n) (he : ∀ x, x < n → emb x < 10) (h0 : emb 0 = 0) (hinj : ∀ x y, x < n → y < n → emb x = emb y → x = y)
    (kc : Clos n K) (kd : ∀ a, a < n → K a a = 0) (g : Good P) (gd : ∀ a, a < 10 → tb P a a = 0) {a b : Nat} (ha : a < n) (hb : b < n) : K a b = tb P (emb a) (emb b) := by
  obtain ⟨w, w0, w1, w2⟩ := good_reach g gd (he a ha) (he b hb)
  have e1 : Sat n K (fun x => w (emb x)) := (h (fun x => w (emb x)) (by show w (emb 0) = 0; rw [h0]; exact w0)).2 ⟨w, w0, w1, fun _ _ => rfl⟩
  have e2 := e1 a b ha hb
  have hs : Sat n K (fun x => K a x - K a 0) := fun x y hx hy => by
    have := kc x a y hx ha hy
    show K a y - K a 0 - (K a x - K a 0) ≤ K x y
    omega
  obtain ⟨u, u0, u1, u2⟩ := (h _ (Int.sub_self _)).1 hs
  have e3 := u1 (emb a) (emb b) (he a ha) (he b hb)
  rw [u2 a ha, u2 b hb] at e3
  have e4 : K a b - K a 0 - (K a a - K a 0) ≤ tb P (emb a) (emb b) := e3
  have := kd a ha
  have e2' : w (emb b) - w (emb a) ≤ K a b := e2
  omega
end Go.Dt
namespace Go.Dt
open Classical in
noncomputable def refWith (n : Nat) (K : Tb) (a b : Nat) (lo hi : Int) : Tb :=
  let K1 := if Diag n K then more K a b hi else K
  if Diag n K1 then more K1 b a (-lo) else K1
open Classical in
theorem refWith_eq {n a b : Nat} {K : Tb} {lo hi : Int} (h : Diag n K) : refWith n K a b lo hi = if Diag n (more K a b hi) then more (more K a b hi) b a (-lo) else more K a b hi := by
  have e : (if Diag n K then more K a b hi else K) = more K a b hi := if_pos h
  show (if Diag n (if Diag n K then more K a b hi else K) then more (if Diag n K then more K a b hi else K) b a (-lo) else (if Diag n K then more K a b hi else K)) = _
  rw [e]
structure GoodK (n : Nat) (K : Tb) : Prop where
  clos : Clos n K
  zero : ∀ a, a < n → K a a = 0
theorem GoodK.diag {n : Nat} {K : Tb} (g : GoodK n K) : Diag n K := fun a ha => by rw [g.zero a ha]; exact Int.le_refl 0
theorem more_good {n a b : Nat} {K : Tb} {c : Int} (g : GoodK n K) (ha : a < n) (hb : b < n) (hd : Diag n (more K a b c)) : GoodK n (more K a b c) := by
  refine ⟨more_clos g.clos ha hb hd (g.zero a ha) (g.zero b hb), fun x hx => ?_⟩
  have h1 := hd x hx
  have h2 := g.zero x hx
  unfold more at h1 ⊢
  omega
theorem refWith_may {n a b : Nat} {K : Tb} {lo hi : Int} (g : GoodK n K) (ha : a < n) (hb : b < n) (hd : Diag n (refWith n K a b lo hi)) :
    GoodK n (refWith n K a b lo hi) ∧ ∀ v, Sat n (refWith n K a b lo hi) v ↔ Sat n K v ∧ lo ≤ v b - v a ∧ v b - v a ≤ hi := by
  rw [refWith_eq g.diag] at hd ⊢
  by_cases h1 : Diag n (more K a b hi)
  · rw [if_pos h1] at hd ⊢
    have g1 := more_good g ha hb h1
    have g2 := more_good g1 hb ha hd
    refine ⟨g2, fun v => ?_⟩
    rw [more_sat hb ha (g1.zero b hb) (g1.zero a ha), more_sat ha hb (g.zero a ha) (g.zero b hb)]
    constructor
    · rintro ⟨⟨h2, h3⟩, h4⟩; exact ⟨h2, by omega, h3⟩
    · rintro ⟨h2, h3, h4⟩; exact ⟨⟨h2, h4⟩, by omega⟩
  · rw [if_neg h1] at hd
    exact absurd hd h1
theorem refWith_not {n a b : Nat} {K : Tb} {lo hi : Int} (g : GoodK n K) (ha : a < n) (hb : b < n) (hd : ¬ Diag n (refWith n K a b lo hi)) (v : Nat → Int) : ¬ (Sat n K v ∧ lo ≤ v b - v a ∧ v b - v a ≤ hi) := by
  rintro ⟨h2, h3, h4⟩
  rw [refWith_eq g.diag] at hd
  have s1 : Sat n (more K a b hi) v := (more_sat ha hb (g.zero a ha) (g.zero b hb)).2 ⟨h2, h4⟩
  have h1 := sat_diag s1
  rw [if_pos h1] at hd
  have g1 := more_good g ha hb h1
  have s2 : Sat n (more (more K a b hi) b a (-lo)) v := (more_sat hb ha (g1.zero b hb) (g1.zero a ha)).2 ⟨s1, by omega⟩
  exact hd (sat_diag s2)
theorem GoodK.some {n : Nat} {K : Tb} (g : GoodK n K) (hn : 0 < n) : ∃ v, v 0 = 0 ∧ Sat n K v := ⟨fun v => K 0 v, g.zero 0 hn, clos_up g.clos 0 hn⟩
end Go.Dt
namespace Go.Dt
open Classical in
noncomputable def waysK (n : Nat) : List Wk → Tb → List Tb
  | [], K => if Diag n K then [K] else []
  | s :: ns, K => if Diag n K then s.ways.flatMap fun p => waysK n ns (refWith n K s.a s.b p.1 p.2) else []
theorem waysK_not {n : Nat} {K : Tb} (h : ¬ Diag n K) : ∀ ns, waysK n ns K = []
  | [] => by unfold waysK; rw [if_neg h]
  | _ :: _ => by unfold waysK; rw [if_neg h]
inductive Two {α β : Type} (R : α → β → Prop) : List α → List β → Prop
  | nil : Two R [] []
  | cons {a : α} {b : β} {as : List α} {bs : List β} : R a b → Two R as bs → Two R (a :: as) (b :: bs)
theorem Two.append {α β : Type} {R : α → β → Prop} {as as' : List α} {bs bs' : List β} (h : Two R as bs) (h' : Two R as' bs') : Two R (as ++ as') (bs ++ bs') := by
  induction h with
  | nil => exact h'
  | cons a _ ih => exact .cons a ih
theorem Two.flat {α β γ : Type} {R : α → β → Prop} {f : γ → List α} {g : γ → List β} : ∀ l : List γ, (∀ x ∈ l, Two R (f x) (g x)) → Two R (l.flatMap f) (l.flatMap g)
  | [], _ => .nil
  | x :: l, h => by
    rw [List.flatMap_cons, List.flatMap_cons]
    exact (h x (List.mem_cons_self ..)).append (Two.flat l fun y hy => h y (List.mem_cons_of_mem _ hy))
theorem Two.length {α β : Type} {R : α → β → Prop} {as : List α} {bs : List β} (h : Two R as bs) : as.length = bs.length := by
  induction h with
  | nil => rfl
  | cons _ _ ih => simp [ih]
def Wk.emb (emb : Nat → Nat) (s : Wk) : Wk := ⟨emb s.a, emb s.b, s.ways⟩
structure Pair (n : Nat) (emb : Nat → Nat) (K : Tb) (P : List Int) : Prop where
  good : GoodK n K
  prog : Good P
  zero : ∀ a, a < 10 → tb P a a = 0
  rel : Rel n emb K P
theorem ways_two {n : Nat} {emb : Nat → Nat} (hn : 0 < n) (he : ∀ x, x < n → emb x < 10) (h0 : emb 0 = 0) : ∀ (ns : List Wk), (∀ s ∈ ns, s.a < n ∧ s.b < n ∧ emb s.a ≠ emb s.b) → ∀ {K : Tb} {P : List Int}, Pair n emb K P →
    Two (Pair n emb) (waysK n ns K) (waysL (ns.map (Wk.emb emb)) P)
  | [], _, K, P, h => by
    unfold waysK
    rw [if_pos h.good.diag]
    exact .cons h .nil
  | s :: ns, hs, K, P, h => by
    obtain ⟨ha, hb, hab⟩ := hs s (List.mem_cons_self ..)
    unfold waysK
    rw [if_pos h.good.diag, List.map_cons, waysL]
    refine Two.flat s.ways fun p _ => ?_
    have hW := sat_within h.prog.len (he _ ha) (he _ hb) hab p.1 p.2
    show Two _ (waysK n ns (refWith n K s.a s.b p.1 p.2)) (if (clsL (withinL P (emb s.a) (emb s.b) p.1 p.2)).2 then waysL (ns.map (Wk.emb emb)) (clsL (withinL P (emb s.a) (emb s.b) p.1 p.2)).1 else [])
    by_cases hd : Diag n (refWith n K s.a s.b p.1 p.2)
    · obtain ⟨g, hsat⟩ := refWith_may h.good ha hb hd
      obtain ⟨v, v0, hv⟩ := g.some hn
      obtain ⟨hv1, hv2⟩ := (hsat v).1 hv
      obtain ⟨w, w0, hw, hwv⟩ := (h.rel v v0).1 hv1
      have hc : (clsL (withinL P (emb s.a) (emb s.b) p.1 p.2)).2 = true := by
        cases e : (clsL (withinL P (emb s.a) (emb s.b) p.1 p.2)).2 with
        | true => rfl
        | false => exact absurd ((hW w).2 ⟨hw, by rw [hwv _ ha, hwv _ hb]; exact hv2⟩) (clsL_false (within_len h.prog.len) e w)
      rw [if_pos hc]
      obtain ⟨f1, f2, f3, f4, f5⟩ := clsL_true (within_len h.prog.len) hc
      have gP : Good (clsL (withinL P (emb s.a) (emb s.b) p.1 p.2)).1 := ⟨f1, f2, f3⟩
      refine ways_two hn he h0 ns (fun q hq => hs q (List.mem_cons_of_mem _ hq)) ⟨g, gP, good_diag gP fun a ha' => ?_, rel_add h.rel ha hb (C := fun v => p.1 ≤ v s.b - v s.a ∧ v s.b - v s.a ≤ p.2) (fun _ => Iff.rfl) hsat fun w => (f4 w).trans (hW w)⟩
      refine Int.le_trans (f5 a a ha' ha') ?_
      rw [tb_within h.prog.len (he _ ha) (he _ hb) ha' ha', if_neg (fun e => hab (by omega)), if_neg (fun e => hab (by omega)), h.zero a ha']
      exact Int.le_refl 0
    · rw [waysK_not hd]
      have hc : ¬ (clsL (withinL P (emb s.a) (emb s.b) p.1 p.2)).2 = true := fun hc => by
        obtain ⟨f1, f2, f3, f4, f5⟩ := clsL_true (within_len h.prog.len) hc
        have gP : Good (clsL (withinL P (emb s.a) (emb s.b) p.1 p.2)).1 := ⟨f1, f2, f3⟩
        have hz := good_diag gP fun a ha' => by
          refine Int.le_trans (f5 a a ha' ha') ?_
          rw [tb_within h.prog.len (he _ ha) (he _ hb) ha' ha', if_neg (fun e => hab (by omega)), if_neg (fun e => hab (by omega)), h.zero a ha']
          exact Int.le_refl 0
        obtain ⟨w, w0, hw, _⟩ := good_reach gP hz (a := 0) (b := 0) (by omega) (by omega)
        obtain ⟨k1, k2⟩ := (hW w).1 ((f4 w).1 hw)
        exact refWith_not h.good ha hb hd (fun x => w (emb x)) ⟨(h.rel _ (by show w (emb 0) = 0; rw [h0]; exact w0)).2 ⟨w, w0, k1, fun _ _ => rfl⟩, k2⟩
      rw [if_neg hc]
      exact .nil
end Go.Dt
namespace Go.Dt
structure GT (T : List Int) : Prop where
  good : Good T
  zero : ∀ a, a < 10 → tb T a a = 0
def Tr (l : List (List Int)) (w : Nat → Int) : Prop := w 0 = 0 ∧ ∃ U ∈ l, Sat 10 (tb U) w
theorem GT.up {T : List Int} (g : GT T) {a b : Nat} (ha : a < 10) (hb : b < 10) : ∃ w, w 0 = 0 ∧ Sat 10 (tb T) w ∧ w b - w a = tb T a b := good_reach g.good g.zero ha hb
theorem GT.mid {T : List Int} (g : GT T) {v : Nat} (hv : v < 10) {y : Int} (h1 : -tb T v 0 ≤ y) (h2 : y ≤ tb T 0 v) : ∃ w, w 0 = 0 ∧ Sat 10 (tb T) w ∧ w v = y := by
  refine ⟨fun x => min (tb T 0 x) (y + tb T v x), ?_, fun a b ha hb => ?_, ?_⟩
  · show min (tb T 0 0) (y + tb T v 0) = 0
    have := g.zero 0 (by omega)
    omega
  · have e1 := g.good.clos a 0 b ha (by omega) hb
    have e2 := g.good.clos a v b ha hv hb
    show min (tb T 0 b) (y + tb T v b) - min (tb T 0 a) (y + tb T v a) ≤ tb T a b
    omega
  · show min (tb T 0 v) (y + tb T v v) = y
    have := g.zero v hv
    omega
theorem Tr.none {l : List (List Int)} (g : ∀ U ∈ l, GT U) : l = [] ↔ ∀ w, ¬ Tr l w := by
  constructor
  · rintro rfl w ⟨_, U, hU, _⟩; cases hU
  · intro h
    cases l with
    | nil => rfl
    | cons U l =>
      obtain ⟨w, w0, w1, _⟩ := (g U (List.mem_cons_self ..)).up (a := 0) (b := 0) (by omega) (by omega)
      exact absurd ⟨w0, U, List.mem_cons_self .., w1⟩ (h w)
def loT (v : Nat) : List (List Int) → Int → Int
  | [], z => z
  | U :: l, z => loT v l (min z (-tb U v 0))
def hiT (v : Nat) : List (List Int) → Int → Int
  | [], z => z
  | U :: l, z => hiT v l (max z (tb U 0 v))
theorem loT_le {v : Nat} : ∀ (l : List (List Int)) (z : Int), loT v l z ≤ z ∧ (∀ U ∈ l, loT v l z ≤ -tb U v 0) ∧ (loT v l z = z ∨ ∃ U ∈ l, loT v l z = -tb U v 0)
  | [], z => ⟨Int.le_refl _, fun _ h => (by cases h), .inl rfl⟩
  | U :: l, z => by
    obtain ⟨h1, h2, h3⟩ := loT_le l (min z (-tb U v 0))
    obtain ⟨q, hq⟩ : ∃ q, q = min z (-tb U v 0) := ⟨_, rfl⟩
    have e : loT v (U :: l) z = loT v l (min z (-tb U v 0)) := rfl
    rw [e]
    rw [← hq] at h1 h2 h3 ⊢
    have hz : q ≤ z ∧ q ≤ -tb U v 0 := by subst hq; exact ⟨Int.min_le_left .., Int.min_le_right ..⟩
    refine ⟨Int.le_trans h1 hz.1, fun W hW => ?_, ?_⟩
    · rcases List.mem_cons.1 hW with rfl | hW
      · exact Int.le_trans h1 hz.2
      · exact h2 W hW
    · rcases h3 with h3 | ⟨W, hW, h3⟩
      · by_cases c : z ≤ -tb U v 0
        · exact .inl (by rw [h3]; omega)
        · exact .inr ⟨U, List.mem_cons_self .., by rw [h3]; omega⟩
      · exact .inr ⟨W, List.mem_cons_of_mem _ hW, h3⟩
theorem hiT_le {v : Nat} : ∀ (l : List (List Int)) (z : Int), z ≤ hiT v l z ∧ (∀ U ∈ l, tb U 0 v ≤ hiT v l z) ∧ (hiT v l z = z ∨ ∃ U ∈ l, hiT v l z = tb U 0 v)
  | [], z => ⟨Int.le_refl _, fun _ h => (by cases h), .inl rfl⟩
  | U :: l, z => by
    obtain ⟨h1, h2, h3⟩ := hiT_le l (max z (tb U 0 v))
    obtain ⟨q, hq⟩ : ∃ q, q = max z (tb U 0 v) := ⟨_, rfl⟩
    have e : hiT v (U :: l) z = hiT v l (max z (tb U 0 v)) := rfl
    rw [e]
    rw [← hq] at h1 h2 h3 ⊢
    have hz : z ≤ q ∧ tb U 0 v ≤ q := by subst hq; exact ⟨Int.le_max_left .., Int.le_max_right ..⟩
    refine ⟨Int.le_trans hz.1 h1, fun W hW => ?_, ?_⟩
    · rcases List.mem_cons.1 hW with rfl | hW
      · exact Int.le_trans hz.2 h1
      · exact h2 W hW
    · rcases h3 with h3 | ⟨W, hW, h3⟩
      · by_cases c : tb U 0 v ≤ z
        · exact .inl (by rw [h3]; omega)
        · exact .inr ⟨U, List.mem_cons_self .., by rw [h3]; omega⟩
      · exact .inr ⟨W, List.mem_cons_of_mem _ hW, h3⟩
def joinT (l : List (List Int)) (v : Nat) : Int × Int := match l with
  | [] => (0, 0)
  | U :: l => (loT v (U :: l) (-tb U v 0), hiT v (U :: l) (tb U 0 v))
theorem joinT_ends {l : List (List Int)} (h : l ≠ []) {v : Nat} : (∀ U ∈ l, (joinT l v).1 ≤ -tb U v 0 ∧ tb U 0 v ≤ (joinT l v).2) ∧ (∃ U ∈ l, (joinT l v).1 = -tb U v 0) ∧ ∃ U ∈ l, (joinT l v).2 = tb U 0 v := by
  cases l with
  | nil => exact absurd rfl h
  | cons U l =>
    obtain ⟨h1, h2, h3⟩ := loT_le (v := v) (U :: l) (-tb U v 0)
    obtain ⟨k1, k2, k3⟩ := hiT_le (v := v) (U :: l) (tb U 0 v)
    refine ⟨fun W hW => ⟨h2 W hW, k2 W hW⟩, ?_, ?_⟩
    · rcases h3 with h3 | h3
      · exact ⟨U, List.mem_cons_self .., h3⟩
      · exact h3
    · rcases k3 with k3 | k3
      · exact ⟨U, List.mem_cons_self .., k3⟩
      · exact k3
theorem joinT_hull {l : List (List Int)} (g : ∀ U ∈ l, GT U) (h : l ≠ []) {v : Nat} (hv : v < 10) :
    (∀ w, Tr l w → (joinT l v).1 ≤ w v ∧ w v ≤ (joinT l v).2) ∧ (∃ w, Tr l w ∧ w v = (joinT l v).1) ∧ ∃ w, Tr l w ∧ w v = (joinT l v).2 := by
  obtain ⟨h1, ⟨U, hU, h2⟩, W, hW, h3⟩ := joinT_ends h (v := v)
  refine ⟨fun w hw => ?_, ?_, ?_⟩
  · obtain ⟨w0, V, hV, hs⟩ := hw
    have := h1 V hV
    have e1 := hs v 0 hv (by omega)
    have e2 := hs 0 v (by omega) hv
    omega
  · obtain ⟨w, w0, w1, w2⟩ := (g U hU).up hv (b := 0) (by omega)
    exact ⟨w, ⟨w0, U, hU, w1⟩, by omega⟩
  · obtain ⟨w, w0, w1, w2⟩ := (g W hW).up (a := 0) (by omega) hv
    exact ⟨w, ⟨w0, W, hW, w1⟩, by omega⟩
def alwT (v : Nat) (y : Int) (U : List Int) : Bool := decide (-tb U v 0 = y) && decide (tb U 0 v = y)
def nevT (v : Nat) (y : Int) (U : List Int) : Bool := !(decide (-tb U v 0 ≤ y) && decide (y ≤ tb U 0 v))
theorem alwT_all {l : List (List Int)} (g : ∀ U ∈ l, GT U) {v : Nat} (hv : v < 10) {y : Int} : l.all (alwT v y) = true ↔ ∀ w, Tr l w → w v = y := by
  rw [List.all_eq_true]
  constructor
  · rintro h w ⟨w0, U, hU, hs⟩
    have := h U hU
    simp only [alwT, Bool.and_eq_true, decide_eq_true_eq] at this
    have e1 := hs v 0 hv (by omega)
    have e2 := hs 0 v (by omega) hv
    omega
  · intro h U hU
    obtain ⟨w, w0, w1, w2⟩ := (g U hU).up hv (b := 0) (by omega)
    obtain ⟨x, x0, x1, x2⟩ := (g U hU).up (a := 0) (by omega) hv
    have e1 := h w ⟨w0, U, hU, w1⟩
    have e2 := h x ⟨x0, U, hU, x1⟩
    simp only [alwT, Bool.and_eq_true, decide_eq_true_eq]
    omega
theorem nevT_all {l : List (List Int)} (g : ∀ U ∈ l, GT U) {v : Nat} (hv : v < 10) {y : Int} : l.all (nevT v y) = true ↔ ∀ w, Tr l w → w v ≠ y := by
  rw [List.all_eq_true]
  constructor
  · rintro h w ⟨w0, U, hU, hs⟩ e
    have := h U hU
    simp only [nevT, Bool.not_eq_true', Bool.and_eq_false_iff, decide_eq_false_iff_not] at this
    have e1 := hs v 0 hv (by omega)
    have e2 := hs 0 v (by omega) hv
    omega
  · intro h U hU
    simp only [nevT, Bool.not_eq_true', Bool.and_eq_false_iff, decide_eq_false_iff_not]
    apply Classical.byContradiction
    intro hc
    have hc : -tb U v 0 ≤ y ∧ y ≤ tb U 0 v := by omega
    obtain ⟨w, w0, w1, w2⟩ := (g U hU).mid hv hc.1 hc.2
    exact h w ⟨w0, U, hU, w1⟩ w2
def befT (a b : Nat) (U : List Int) : Bool := decide (-tb U b a > 0)
def notT (a b : Nat) (U : List Int) : Bool := decide (tb U a b ≤ 0)
theorem befT_all {l : List (List Int)} (g : ∀ U ∈ l, GT U) {a b : Nat} (ha : a < 10) (hb : b < 10) : l.all (befT a b) = true ↔ ∀ w, Tr l w → w a < w b := by
  rw [List.all_eq_true]
  constructor
  · rintro h w ⟨w0, U, hU, hs⟩
    have := h U hU
    simp only [befT, decide_eq_true_eq] at this
    have e1 := hs b a hb ha
    omega
  · intro h U hU
    obtain ⟨w, w0, w1, w2⟩ := (g U hU).up hb ha
    have e1 := h w ⟨w0, U, hU, w1⟩
    simp only [befT, decide_eq_true_eq]
    omega
theorem notT_all {l : List (List Int)} (g : ∀ U ∈ l, GT U) {a b : Nat} (ha : a < 10) (hb : b < 10) : l.all (notT a b) = true ↔ ∀ w, Tr l w → ¬ w a < w b := by
  rw [List.all_eq_true]
  constructor
  · rintro h w ⟨w0, U, hU, hs⟩
    have := h U hU
    simp only [notT, decide_eq_true_eq] at this
    have e1 := hs a b ha hb
    omega
  · intro h U hU
    obtain ⟨w, w0, w1, w2⟩ := (g U hU).up ha hb
    have e1 := h w ⟨w0, U, hU, w1⟩
    simp only [notT, decide_eq_true_eq]
    omega
def verdT (always never : Bool) : Int := if always then 1 else if never then 2 else 3
theorem waysL_GT {ns : List Wk} (hok : ∀ n ∈ ns, n.ok) {T : List Int} (g : GT T) : ∀ U ∈ waysL ns T, GT U := by
  induction ns generalizing T with
  | nil => intro U hU; rw [List.mem_singleton.1 hU]; exact g
  | cons n ns ih =>
    intro U hU
    obtain ⟨ha, hb, hab⟩ := hok n (List.mem_cons_self ..)
    obtain ⟨s, _, hs⟩ := List.mem_flatMap.1 hU
    split at hs
    · rename_i hc
      obtain ⟨f1, f2, f3, _, f5⟩ := clsL_true (within_len g.good.len) hc
      refine ih (fun q hq => hok q (List.mem_cons_of_mem _ hq)) ⟨⟨f1, f2, f3⟩, good_diag ⟨f1, f2, f3⟩ fun a ha' => ?_⟩ U hs
      refine Int.le_trans (f5 a a ha' ha') ?_
      rw [tb_within g.good.len ha hb ha' ha', if_neg (fun e => hab (by omega)), if_neg (fun e => hab (by omega)), g.zero a ha']
      exact Int.le_refl 0
    · cases hs
end Go.Dt
namespace Go.Dt
structure Nt where
  kind : Int
  stone : Int
  other : Int
  lo : Int
  hi : Int
  ys : List Int
  fl : Option Bool
structure Dt where
  stones : Int
  eras : List (Int × Int)
  notes : List Nt
instance : Inhabited Nt := ⟨⟨0, 0, 0, 0, 0, [], none⟩⟩
def Nt.wk (n : Nt) : Wk :=
  if n.kind = 1 then ⟨0, 1 + n.stone.toNat, n.ys.map fun y => (y, y)⟩
  else if n.kind = 3 then ⟨7 + n.other.toNat, 1 + n.stone.toNat, [(n.lo - 1, n.hi - 1)]⟩
  else if n.kind = 4 then ⟨1 + n.other.toNat, 1 + n.stone.toNat, [(n.lo, n.hi)]⟩
  else ⟨0, 1 + n.stone.toNat, [(n.lo, n.hi)]⟩
def blankF (i : Nat) : Int := if i / 10 = i % 10 then 0 else if i / 10 = 0 ∨ i % 10 = 0 then 3000 else 1073741824
def blankL : List Int := (List.range 100).map blankF
def erasL : Nat → List (Int × Int) → List Int → List Int
  | _, [], T => T
  | i, s :: l, T => erasL (i + 1) l (withinL T 0 (7 + i) s.1 s.2)
def tabsL (d : Dt) : List (List Int) :=
  if (clsL (erasL 0 d.eras blankL)).2 then waysL (d.notes.map Nt.wk) (clsL (erasL 0 d.eras blankL)).1 else []
def SpanOk (lo hi : Int) : Prop := -3000 ≤ lo ∧ lo ≤ 3000 ∧ -3000 ≤ hi ∧ hi ≤ 3000 ∧ lo ≤ hi
structure NtOk (d : Dt) (n : Nt) : Prop where
  kind : 1 ≤ n.kind ∧ n.kind ≤ 4
  stone : 0 ≤ n.stone ∧ n.stone < d.stones
  years : n.kind = 1 → n.other = 0 ∧ n.lo = 0 ∧ n.hi = 0 ∧ 1 ≤ n.ys.length ∧ n.ys.length ≤ 3 ∧ (∀ y ∈ n.ys, -3000 ≤ y ∧ y ≤ 3000) ∧ ∀ i, 0 < i → i < n.ys.length → n.ys[i - 1]! < n.ys[i]!
  span : n.kind ≠ 1 → n.ys = [] ∧ SpanOk n.lo n.hi
  plain : n.kind = 2 → n.other = 0
  era : n.kind = 3 → 0 ≤ n.other ∧ n.other < d.eras.length ∧ 1 ≤ n.lo
  after : n.kind = 4 → 0 ≤ n.other ∧ n.other < d.stones ∧ n.other ≠ n.stone
structure DtOk (d : Dt) : Prop where
  stones : 1 ≤ d.stones ∧ d.stones ≤ 6
  eras_l : d.eras.length ≤ 3
  eras : ∀ s ∈ d.eras, SpanOk s.1 s.2
  notes_l : d.notes.length ≤ 8
  notes : ∀ n ∈ d.notes, NtOk d n
theorem wk_ok {d : Dt} (h : DtOk d) {n : Nt} (hn : n ∈ d.notes) : n.wk.ok := by
  have k := h.notes n hn
  have h1 := h.stones
  have h2 := h.eras_l
  have h3 := k.stone
  have h4 := k.kind
  unfold Nt.wk Wk.ok
  split
  · simp only; omega
  · split
    · rename_i e
      have := k.era e
      simp only; omega
    · split
      · rename_i e
        have := k.after e
        simp only; omega
      · simp only; omega
theorem wk_ways {d : Dt} (h : DtOk d) {n : Nt} (hn : n ∈ d.notes) : n.wk.ways.length ≤ 3 ∧ ∀ s ∈ n.wk.ways, -3001 ≤ s.1 ∧ s.1 ≤ 3000 ∧ -3001 ≤ s.2 ∧ s.2 ≤ 3000 := by
  have k := h.notes n hn
  unfold Nt.wk
  by_cases e1 : n.kind = 1
  · rw [if_pos e1]
    obtain ⟨_, _, _, _, p1, p2, _⟩ := k.years e1
    refine ⟨by simpa using p1, fun s hs => ?_⟩
    obtain ⟨y, hy, rfl⟩ := List.mem_map.1 hs
    have := p2 y hy
    simp only; omega
  · have := (k.span e1).2
    unfold SpanOk at this
    rw [if_neg e1]
    split
    · exact ⟨by simp, fun s hs => by rw [List.mem_singleton.1 hs]; simp only; omega⟩
    · split
      · exact ⟨by simp, fun s hs => by rw [List.mem_singleton.1 hs]; simp only; omega⟩
      · exact ⟨by simp, fun s hs => by rw [List.mem_singleton.1 hs]; simp only; omega⟩
theorem blank_len : blankL.length = 100 := by unfold blankL; simp
theorem tb_blank {a b : Nat} (ha : a < 10) (hb : b < 10) : tb blankL a b = if a = b then 0 else if a = 0 ∨ b = 0 then 3000 else 1073741824 := by
  unfold tb blankL
  rw [List.getD_eq_getElem?_getD, List.getElem?_map, List.getElem?_range (by omega)]
  show blankF (10 * a + b) = _
  unfold blankF
  rw [show (10 * a + b) / 10 = a by omega, show (10 * a + b) % 10 = b by omega]
theorem sat_blank {w : Nat → Int} (w0 : w 0 = 0) : Sat 10 (tb blankL) w ↔ ∀ v, v < 10 → -3000 ≤ w v ∧ w v ≤ 3000 := by
  constructor
  · intro h v hv
    have e1 := h v 0 hv (by omega)
    have e2 := h 0 v (by omega) hv
    rw [tb_blank hv (by omega)] at e1
    rw [tb_blank (by omega) hv] at e2
    by_cases e : v = 0
    · subst e; omega
    · rw [if_neg e, if_pos (.inr rfl)] at e1
      rw [if_neg (fun h => e h.symm), if_pos (.inl rfl)] at e2
      omega
  · intro h a b ha hb
    have e1 := h a ha
    have e2 := h b hb
    rw [tb_blank ha hb]
    split
    · rename_i e; subst e; omega
    · split
      · rename_i e
        rcases e with e | e <;> subst e <;> omega
      · omega
theorem eras_len : ∀ (l : List (Int × Int)) (i : Nat) (T : List Int), T.length = 100 → (erasL i l T).length = 100
  | [], _, _, h => h
  | _ :: l, i, _, h => eras_len l (i + 1) _ (within_len h)
theorem eras_bnd : ∀ (l : List (Int × Int)) (i : Nat) (T : List Int), T.length = 100 → i + l.length ≤ 3 → (∀ s ∈ l, SpanOk s.1 s.2) → Bnd 1073741824 T → Bnd 1073741824 (erasL i l T)
  | [], _, _, _, _, _, h => h
  | s :: l, i, T, hT, hl, hs, h => by
    have := hs s (List.mem_cons_self ..)
    unfold SpanOk at this
    simp only [List.length_cons] at hl
    exact eras_bnd l (i + 1) _ (within_len hT) (by omega) (fun q hq => hs q (List.mem_cons_of_mem _ hq)) (within_bnd hT h (by omega) (by omega) (by omega) (by omega) (by omega) (by omega))
theorem sat_eras {w : Nat → Int} (w0 : w 0 = 0) : ∀ (l : List (Int × Int)) (i : Nat) (T : List Int), T.length = 100 → i + l.length ≤ 3 → (Sat 10 (tb (erasL i l T)) w ↔ Sat 10 (tb T) w ∧ ∀ j, j < l.length → (l[j]!).1 ≤ w (7 + i + j) ∧ w (7 + i + j) ≤ (l[j]!).2)
  | [], _, _, _, _ => by simp [erasL]
  | s :: l, i, T, hT, hl => by
    simp only [List.length_cons] at hl
    show Sat 10 (tb (erasL (i + 1) l (withinL T 0 (7 + i) s.1 s.2))) w ↔ _
    rw [sat_eras w0 l (i + 1) _ (within_len hT) (by omega), sat_within hT (by omega) (by omega) (by omega)]
    constructor
    · rintro ⟨⟨h1, h2⟩, h3⟩
      refine ⟨h1, fun j hj => ?_⟩
      cases j with
      | zero => show s.1 ≤ w (7 + i) ∧ w (7 + i) ≤ s.2; omega
      | succ j =>
        have := h3 j (by simpa using hj)
        rw [show 7 + i + (j + 1) = 7 + (i + 1) + j by omega]
        simpa using this
    · rintro ⟨h1, h2⟩
      refine ⟨⟨h1, ?_⟩, fun j hj => ?_⟩
      · have h2 : s.1 ≤ w (7 + i) ∧ w (7 + i) ≤ s.2 := h2 0 (by simp)
        omega
      · have := h2 (j + 1) (by simpa using hj)
        rw [show 7 + i + (j + 1) = 7 + (i + 1) + j by omega] at this
        simpa using this
theorem eras_diag : ∀ (l : List (Int × Int)) (i : Nat) (T : List Int), T.length = 100 → i + l.length ≤ 3 → (∀ a, a < 10 → tb T a a = 0) → ∀ a, a < 10 → tb (erasL i l T) a a = 0
  | [], _, _, _, _, h => h
  | s :: l, i, T, hT, hl, h => by
    simp only [List.length_cons] at hl
    refine eras_diag l (i + 1) _ (within_len hT) (by omega) fun a ha => ?_
    rw [tb_within hT (by omega) (by omega) ha ha, if_neg (by omega), if_neg (by omega), h a ha]
theorem blank_bnd : Bnd 1073741824 blankL := fun x y hx hy => by
  rw [tb_blank hx hy]
  split
  · omega
  · split <;> omega
theorem blank_diag : ∀ a, a < 10 → tb blankL a a = 0 := fun a ha => by rw [tb_blank ha ha, if_pos rfl]
def Nt.right (n : Nt) (w : Nat → Int) : Prop := n.wk.right w
structure TrD (d : Dt) (w : Nat → Int) : Prop where
  zero : w 0 = 0
  bnd : ∀ v, v < 10 → -3000 ≤ w v ∧ w v ≤ 3000
  eras : ∀ j, j < d.eras.length → (d.eras[j]!).1 ≤ w (7 + j) ∧ w (7 + j) ≤ (d.eras[j]!).2
  notes : ∀ n ∈ d.notes, n.right w
theorem base_GT {d : Dt} (h : DtOk d) (hc : (clsL (erasL 0 d.eras blankL)).2 = true) : GT (clsL (erasL 0 d.eras blankL)).1 ∧ Bnd 1073741824 (clsL (erasL 0 d.eras blankL)).1 := by
  have hl := h.eras_l
  have e1 := eras_len d.eras 0 _ blank_len
  obtain ⟨g, b⟩ := closed_bnd e1 (eras_bnd d.eras 0 _ blank_len (by omega) h.eras blank_bnd) hc
  obtain ⟨f1, f2, f3, _, f5⟩ := clsL_true e1 hc
  refine ⟨⟨g, good_diag g fun a ha => ?_⟩, b⟩
  have := f5 a a ha ha
  rw [eras_diag d.eras 0 _ blank_len (by omega) blank_diag a ha] at this
  exact this
theorem tabs_GT {d : Dt} (h : DtOk d) : ∀ U ∈ tabsL d, GT U := by
  intro U hU
  unfold tabsL at hU
  split at hU
  · rename_i hc
    refine waysL_GT (fun n hn => ?_) (base_GT h hc).1 U hU
    obtain ⟨m, hm, rfl⟩ := List.mem_map.1 hn
    exact wk_ok h hm
  · cases hU
theorem tabs_tr {d : Dt} (h : DtOk d) (w : Nat → Int) : Tr (tabsL d) w ↔ TrD d w := by
  have hl := h.eras_l
  have e1 := eras_len d.eras 0 _ blank_len
  have hb : w 0 = 0 → (Sat 10 (tb (erasL 0 d.eras blankL)) w ↔ (∀ v, v < 10 → -3000 ≤ w v ∧ w v ≤ 3000) ∧ ∀ j, j < d.eras.length → (d.eras[j]!).1 ≤ w (7 + j) ∧ w (7 + j) ≤ (d.eras[j]!).2) := fun w0 => by
    rw [sat_eras w0 d.eras 0 _ blank_len (by omega), sat_blank w0]
  have hok : ∀ n ∈ d.notes.map Nt.wk, n.ok := fun n hn => by
    obtain ⟨m, hm, rfl⟩ := List.mem_map.1 hn
    exact wk_ok h hm
  unfold tabsL
  cases hc : (clsL (erasL 0 d.eras blankL)).2 with
  | true =>
    rw [if_pos rfl]
    obtain ⟨f1, f2, f3, f4, f5⟩ := clsL_true e1 hc
    constructor
    · rintro ⟨w0, hU⟩
      obtain ⟨k1, k2⟩ := (waysL_sat _ hok f1 w).1 hU
      obtain ⟨k3, k4⟩ := (hb w0).1 ((f4 w).1 k1)
      exact ⟨w0, k3, k4, fun n hn => k2 _ (List.mem_map_of_mem hn)⟩
    · rintro ⟨w0, k3, k4, k5⟩
      refine ⟨w0, (waysL_sat _ hok f1 w).2 ⟨(f4 w).2 ((hb w0).2 ⟨k3, k4⟩), fun n hn => ?_⟩⟩
      obtain ⟨m, hm, rfl⟩ := List.mem_map.1 hn
      exact k5 m hm
  | false =>
    rw [if_neg (by simp)]
    constructor
    · rintro ⟨_, U, hU, _⟩; cases hU
    · rintro ⟨w0, k3, k4, _⟩
      exact absurd ((hb w0).2 ⟨k3, k4⟩) (clsL_false e1 hc w)
theorem tabs_none {d : Dt} (h : DtOk d) : tabsL d = [] ↔ ∀ w, ¬ TrD d w := by
  rw [Tr.none (tabs_GT h)]
  exact ⟨fun k w hw => k w ((tabs_tr h w).2 hw), fun k w hw => k w ((tabs_tr h w).1 hw)⟩
end Go.Dt
