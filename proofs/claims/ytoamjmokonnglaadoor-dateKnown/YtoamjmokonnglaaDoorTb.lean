/- What functions of the given program do in the ideal machine (T17, T18, T19, T20, T21, T22), and the plain laws of what they answer; the conditions stand in each theorem. -/
import Derived.Test.YtoamjmokonnglaaDoorTa
set_option linter.all false
set_option linter.unusedSectionVars false
set_option linter.unusedSimpArgs false
set_option linter.unusedVariables false
namespace Go.Dt
def Bnd (M : Int) (T : List Int) : Prop := ∀ x y, x < 10 → y < 10 → -M ≤ tb T x y ∧ tb T x y ≤ M
theorem good_low {T : List Int} (g : Good T) {U : Int} (h : ∀ x y, x < 10 → y < 10 → tb T x y ≤ U) : Bnd U T := fun x y hx hy => by
  have h1 := g.diag x hx
  have h2 := g.clos y x x hy hx hx
  have h3 := h y x hy hx
  exact ⟨by omega, h x y hx hy⟩
theorem within_bnd {T : List Int} (h : T.length = 100) {M : Int} (hb : Bnd M T) {a b : Nat} (ha : a < 10) (hb' : b < 10) {lo hi : Int} (h1 : -M ≤ lo) (h2 : lo ≤ M) (h3 : -M ≤ hi) (h4 : hi ≤ M) : Bnd M (withinL T a b lo hi) := fun x y hx hy => by
  have e := hb x y hx hy
  have e1 := hb b a hb' ha
  have e2 := hb a b ha hb'
  rw [tb_within h ha hb' hx hy]
  split
  · omega
  · split
    · omega
    · exact e
theorem closed_bnd {T : List Int} (h : T.length = 100) {M : Int} (hb : Bnd M T) (hc : (clsL T).2 = true) : Good (clsL T).1 ∧ Bnd M (clsL T).1 := by
  obtain ⟨f1, f2, f3, _, f5⟩ := clsL_true h hc
  exact ⟨⟨f1, f2, f3⟩, good_low ⟨f1, f2, f3⟩ fun x y hx hy => Int.le_trans (f5 x y hx hy) (hb x y hx hy).2⟩
theorem good_reach {T : List Int} (g : Good T) (h0 : ∀ a, a < 10 → tb T a a = 0) {a b : Nat} (ha : a < 10) (hb : b < 10) : ∃ w, w 0 = 0 ∧ Sat 10 (tb T) w ∧ w b - w a = tb T a b := by
  refine ⟨fun v => tb T a v - tb T a 0, Int.sub_self _, fun x y hx hy => ?_, ?_⟩
  · have := g.clos x a y hx ha hy
    show tb T a y - tb T a 0 - (tb T a x - tb T a 0) ≤ tb T x y
    omega
  · show tb T a b - tb T a 0 - (tb T a a - tb T a 0) = tb T a b
    have := h0 a ha
    omega
theorem good_diag {T : List Int} (g : Good T) (hz : ∀ a, a < 10 → tb T a a ≤ 0) : ∀ a, a < 10 → tb T a a = 0 := clos_diag g.clos g.diag hz
end Go.Dt
namespace Go.Dt
def Rel (n : Nat) (emb : Nat → Nat) (K : Tb) (P : List Int) : Prop :=
  ∀ v : Nat → Int, v 0 = 0 → (Sat n K v ↔ ∃ w : Nat → Int, w 0 = 0 ∧ Sat 10 (tb P) w ∧ ∀ x, x < n → w (emb x) = v x)
end Go.Dt
namespace Go.Dt
open Classical in
open Classical in
structure GoodK (n : Nat) (K : Tb) : Prop where
  clos : Clos n K
  zero : ∀ a, a < n → K a a = 0
theorem GoodK.diag {n : Nat} {K : Tb} (g : GoodK n K) : Diag n K := fun a ha => by rw [g.zero a ha]; exact Int.le_refl 0
theorem GoodK.some {n : Nat} {K : Tb} (g : GoodK n K) (hn : 0 < n) : ∃ v, v 0 = 0 ∧ Sat n K v := ⟨fun v => K 0 v, g.zero 0 hn, clos_up g.clos 0 hn⟩
end Go.Dt
namespace Go.Dt
open Classical in
inductive Two {α β : Type} (R : α → β → Prop) : List α → List β → Prop
  | nil : Two R [] []
  | cons {a : α} {b : β} {as : List α} {bs : List β} : R a b → Two R as bs → Two R (a :: as) (b :: bs)
theorem Two.append {α β : Type} {R : α → β → Prop} {as as' : List α} {bs bs' : List β} (h : Two R as bs) (h' : Two R as' bs') : Two R (as ++ as') (bs ++ bs') := by
  induction h with
  | nil => exact h'
  | cons a _ ih => exact .cons a ih
theorem Two.flat {α β γ : Type} {R : α → β → Prop} {f : γ → List α} {g : γ → List β} : ∀ l : List γ, (∀ x ∈ l, Two R (f x) (g x)) → Two R (l.flatMap f) (l.flatMap g)
  | [], _ => .nil
  | x :: l, h => by
    rw [List.flatMap_cons, List.flatMap_cons]
    exact (h x (List.mem_cons_self ..)).append (Two.flat l fun y hy => h y (List.mem_cons_of_mem _ hy))
theorem Two.length {α β : Type} {R : α → β → Prop} {as : List α} {bs : List β} (h : Two R as bs) : as.length = bs.length := by
  induction h with
  | nil => rfl
  | cons _ _ ih => simp [ih]
def Wk.emb (emb : Nat → Nat) (s : Wk) : Wk := ⟨emb s.a, emb s.b, s.ways⟩
structure Pair (n : Nat) (emb : Nat → Nat) (K : Tb) (P : List Int) : Prop where
  good : GoodK n K
  prog : Good P
  zero : ∀ a, a < 10 → tb P a a = 0
  rel : Rel n emb K P
end Go.Dt
namespace Go.Dt
structure GT (T : List Int) : Prop where
  good : Good T
  zero : ∀ a, a < 10 → tb T a a = 0
def Tr (l : List (List Int)) (w : Nat → Int) : Prop := w 0 = 0 ∧ ∃ U ∈ l, Sat 10 (tb U) w
theorem GT.up {T : List Int} (g : GT T) {a b : Nat} (ha : a < 10) (hb : b < 10) : ∃ w, w 0 = 0 ∧ Sat 10 (tb T) w ∧ w b - w a = tb T a b := good_reach g.good g.zero ha hb
theorem Tr.none {l : List (List Int)} (g : ∀ U ∈ l, GT U) : l = [] ↔ ∀ w, ¬ Tr l w := by
  constructor
  · rintro rfl w ⟨_, U, hU, _⟩; cases hU
  · intro h
    cases l with
    | nil => rfl
    | cons U l =>
      obtain ⟨w, w0, w1, _⟩ := (g U (List.mem_cons_self ..)).up (a := 0) (b := 0) (by omega) (by omega)
      exact absurd ⟨w0, U, List.mem_cons_self .., w1⟩ (h w)
def loT (v : Nat) : List (List Int) → Int → Int
  | [], z => z
  | U :: l, z => loT v l (min z (-tb U v 0))
def hiT (v : Nat) : List (List Int) → Int → Int
  | [], z => z
  | U :: l, z => hiT v l (max z (tb U 0 v))
def joinT (l : List (List Int)) (v : Nat) : Int × Int := match l with
  | [] => (0, 0)
  | U :: l => (loT v (U :: l) (-tb U v 0), hiT v (U :: l) (tb U 0 v))
def alwT (v : Nat) (y : Int) (U : List Int) : Bool := decide (-tb U v 0 = y) && decide (tb U 0 v = y)
def nevT (v : Nat) (y : Int) (U : List Int) : Bool := !(decide (-tb U v 0 ≤ y) && decide (y ≤ tb U 0 v))
def befT (a b : Nat) (U : List Int) : Bool := decide (-tb U b a > 0)
def notT (a b : Nat) (U : List Int) : Bool := decide (tb U a b ≤ 0)
def verdT (always never : Bool) : Int := if always then 1 else if never then 2 else 3
end Go.Dt
namespace Go.Dt
structure Nt where
  kind : Int
  stone : Int
  other : Int
  lo : Int
  hi : Int
  ys : List Int
  fl : Option Bool
structure Dt where
  stones : Int
  eras : List (Int × Int)
  notes : List Nt
instance : Inhabited Nt := ⟨⟨0, 0, 0, 0, 0, [], none⟩⟩
def Nt.wk (n : Nt) : Wk :=
  if n.kind = 1 then ⟨0, 1 + n.stone.toNat, n.ys.map fun y => (y, y)⟩
  else if n.kind = 3 then ⟨7 + n.other.toNat, 1 + n.stone.toNat, [(n.lo - 1, n.hi - 1)]⟩
  else if n.kind = 4 then ⟨1 + n.other.toNat, 1 + n.stone.toNat, [(n.lo, n.hi)]⟩
  else ⟨0, 1 + n.stone.toNat, [(n.lo, n.hi)]⟩
def blankF (i : Nat) : Int := if i / 10 = i % 10 then 0 else if i / 10 = 0 ∨ i % 10 = 0 then 3000 else 1073741824
def blankL : List Int := (List.range 100).map blankF
def erasL : Nat → List (Int × Int) → List Int → List Int
  | _, [], T => T
  | i, s :: l, T => erasL (i + 1) l (withinL T 0 (7 + i) s.1 s.2)
def tabsL (d : Dt) : List (List Int) :=
  if (clsL (erasL 0 d.eras blankL)).2 then waysL (d.notes.map Nt.wk) (clsL (erasL 0 d.eras blankL)).1 else []
def SpanOk (lo hi : Int) : Prop := -3000 ≤ lo ∧ lo ≤ 3000 ∧ -3000 ≤ hi ∧ hi ≤ 3000 ∧ lo ≤ hi
structure NtOk (d : Dt) (n : Nt) : Prop where
  kind : 1 ≤ n.kind ∧ n.kind ≤ 4
  stone : 0 ≤ n.stone ∧ n.stone < d.stones
  years : n.kind = 1 → n.other = 0 ∧ n.lo = 0 ∧ n.hi = 0 ∧ 1 ≤ n.ys.length ∧ n.ys.length ≤ 3 ∧ (∀ y ∈ n.ys, -3000 ≤ y ∧ y ≤ 3000) ∧ ∀ i, 0 < i → i < n.ys.length → n.ys[i - 1]! < n.ys[i]!
  span : n.kind ≠ 1 → n.ys = [] ∧ SpanOk n.lo n.hi
  plain : n.kind = 2 → n.other = 0
  era : n.kind = 3 → 0 ≤ n.other ∧ n.other < d.eras.length ∧ 1 ≤ n.lo
  after : n.kind = 4 → 0 ≤ n.other ∧ n.other < d.stones ∧ n.other ≠ n.stone
structure DtOk (d : Dt) : Prop where
  stones : 1 ≤ d.stones ∧ d.stones ≤ 6
  eras_l : d.eras.length ≤ 3
  eras : ∀ s ∈ d.eras, SpanOk s.1 s.2
  notes_l : d.notes.length ≤ 8
  notes : ∀ n ∈ d.notes, NtOk d n
theorem wk_ok {d : Dt} (h : DtOk d) {n : Nt} (hn : n ∈ d.notes) : n.wk.ok := by
  have k := h.notes n hn
  have h1 := h.stones
  have h2 := h.eras_l
  have h3 := k.stone
  have h4 := k.kind
  unfold Nt.wk Wk.ok
  split
  · simp only; omega
  · split
    · rename_i e
      have := k.era e
      simp only; omega
    · split
      · rename_i e
        have := k.after e
        simp only; omega
      · simp only; omega
theorem wk_ways {d : Dt} (h : DtOk d) {n : Nt} (hn : n ∈ d.notes) : n.wk.ways.length ≤ 3 ∧ ∀ s ∈ n.wk.ways, -3001 ≤ s.1 ∧ s.1 ≤ 3000 ∧ -3001 ≤ s.2 ∧ s.2 ≤ 3000 := by
  have k := h.notes n hn
  unfold Nt.wk
  by_cases e1 : n.kind = 1
  · rw [if_pos e1]
    obtain ⟨_, _, _, _, p1, p2, _⟩ := k.years e1
    refine ⟨by simpa using p1, fun s hs => ?_⟩
    obtain ⟨y, hy, rfl⟩ := List.mem_map.1 hs
    have := p2 y hy
    simp only; omega
  · have := (k.span e1).2
    unfold SpanOk at this
    rw [if_neg e1]
    split
    · exact ⟨by simp, fun s hs => by rw [List.mem_singleton.1 hs]; simp only; omega⟩
    · split
      · exact ⟨by simp, fun s hs => by rw [List.mem_singleton.1 hs]; simp only; omega⟩
      · exact ⟨by simp, fun s hs => by rw [List.mem_singleton.1 hs]; simp only; omega⟩
theorem blank_len : blankL.length = 100 := by unfold blankL; simp
theorem tb_blank {a b : Nat} (ha : a < 10) (hb : b < 10) : tb blankL a b = if a = b then 0 else if a = 0 ∨ b = 0 then 3000 else 1073741824 := by
  unfold tb blankL
  rw [List.getD_eq_getElem?_getD, List.getElem?_map, List.getElem?_range (by omega)]
  show blankF (10 * a + b) = _
  unfold blankF
  rw [show (10 * a + b) / 10 = a by omega, show (10 * a + b) % 10 = b by omega]
theorem eras_len : ∀ (l : List (Int × Int)) (i : Nat) (T : List Int), T.length = 100 → (erasL i l T).length = 100
  | [], _, _, h => h
  | _ :: l, i, _, h => eras_len l (i + 1) _ (within_len h)
theorem eras_bnd : ∀ (l : List (Int × Int)) (i : Nat) (T : List Int), T.length = 100 → i + l.length ≤ 3 → (∀ s ∈ l, SpanOk s.1 s.2) → Bnd 1073741824 T → Bnd 1073741824 (erasL i l T)
  | [], _, _, _, _, _, h => h
  | s :: l, i, T, hT, hl, hs, h => by
    have := hs s (List.mem_cons_self ..)
    unfold SpanOk at this
    simp only [List.length_cons] at hl
    exact eras_bnd l (i + 1) _ (within_len hT) (by omega) (fun q hq => hs q (List.mem_cons_of_mem _ hq)) (within_bnd hT h (by omega) (by omega) (by omega) (by omega) (by omega) (by omega))
theorem eras_diag : ∀ (l : List (Int × Int)) (i : Nat) (T : List Int), T.length = 100 → i + l.length ≤ 3 → (∀ a, a < 10 → tb T a a = 0) → ∀ a, a < 10 → tb (erasL i l T) a a = 0
  | [], _, _, _, _, h => h
  | s :: l, i, T, hT, hl, h => by
    simp only [List.length_cons] at hl
    refine eras_diag l (i + 1) _ (within_len hT) (by omega) fun a ha => ?_
    rw [tb_within hT (by omega) (by omega) ha ha, if_neg (by omega), if_neg (by omega), h a ha]
theorem blank_bnd : Bnd 1073741824 blankL := fun x y hx hy => by
  rw [tb_blank hx hy]
  split
  · omega
  · split <;> omega
theorem blank_diag : ∀ a, a < 10 → tb blankL a a = 0 := fun a ha => by rw [tb_blank ha ha, if_pos rfl]
def Nt.right (n : Nt) (w : Nat → Int) : Prop := n.wk.right w
structure TrD (d : Dt) (w : Nat → Int) : Prop where
  zero : w 0 = 0
  bnd : ∀ v, v < 10 → -3000 ≤ w v ∧ w v ≤ 3000
  eras : ∀ j, j < d.eras.length → (d.eras[j]!).1 ≤ w (7 + j) ∧ w (7 + j) ≤ (d.eras[j]!).2
  notes : ∀ n ∈ d.notes, n.right w
theorem base_GT {d : Dt} (h : DtOk d) (hc : (clsL (erasL 0 d.eras blankL)).2 = true) : GT (clsL (erasL 0 d.eras blankL)).1 ∧ Bnd 1073741824 (clsL (erasL 0 d.eras blankL)).1 := by
  have hl := h.eras_l
  have e1 := eras_len d.eras 0 _ blank_len
  obtain ⟨g, b⟩ := closed_bnd e1 (eras_bnd d.eras 0 _ blank_len (by omega) h.eras blank_bnd) hc
  obtain ⟨f1, f2, f3, _, f5⟩ := clsL_true e1 hc
  refine ⟨⟨g, good_diag g fun a ha => ?_⟩, b⟩
  have := f5 a a ha ha
  rw [eras_diag d.eras 0 _ blank_len (by omega) blank_diag a ha] at this
  exact this
end Go.Dt
