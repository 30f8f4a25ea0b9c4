/- What functions of the given program do in the ideal machine (T10, T11, T12, T13, T14, T15, T16), and the plain laws of what they answer; the conditions stand in each theorem. -/
set_option linter.all false
set_option linter.unusedSectionVars false
set_option linter.unusedSimpArgs false
set_option linter.unusedVariables false
namespace Go.Dt
abbrev Tb := Nat → Nat → Int
def Sat (n : Nat) (t : Tb) (w : Nat → Int) : Prop := ∀ a b, a < n → b < n → w b - w a ≤ t a b
def Diag (n : Nat) (t : Tb) : Prop := ∀ a, a < n → 0 ≤ t a a
def Clos (n : Nat) (t : Tb) : Prop := ∀ k a b, k < n → a < n → b < n → t a b ≤ t a k + t k b
def put2 (t : Tb) (a b : Nat) (v : Int) : Tb := fun x y => if x = a ∧ y = b then v else t x y
def ent (k : Nat) (t : Tb) (a b : Nat) : Tb := put2 t a b (min (t a b) (t a k + t k b))
def rowT (k a : Nat) : Nat → Tb → Tb
  | 0, t => t
  | b + 1, t => ent k (rowT k a b t) a b
def pivT (n k : Nat) : Nat → Tb → Tb
  | 0, t => t
  | a + 1, t => rowT k a n (pivT n k a t)
def passT (n : Nat) : Nat → Tb → Tb
  | 0, t => t
  | k + 1, t => pivT n k n (passT n k t)
theorem sat_ent {n k a b : Nat} {t : Tb} {w : Nat → Int} (hk : k < n) (ha : a < n) (hb : b < n) : Sat n (ent k t a b) w ↔ Sat n t w := by
  constructor
  · intro h x y hx hy
    have := h x y hx hy
    unfold ent put2 at this
    split at this
    · rename_i e
      obtain ⟨rfl, rfl⟩ := e
      omega
    · exact this
  · intro h x y hx hy
    unfold ent put2
    split
    · rename_i e
      obtain ⟨rfl, rfl⟩ := e
      have h1 := h x y hx hy
      have h2 := h x k hx hk
      have h3 := h k y hk hy
      omega
    · exact h x y hx hy
theorem ent_le {k a b x y : Nat} {t : Tb} : ent k t a b x y ≤ t x y := by
  unfold ent put2
  split
  · rename_i e
    obtain ⟨rfl, rfl⟩ := e
    omega
  · exact Int.le_refl _
theorem sat_row {n k a : Nat} {w : Nat → Int} (hk : k < n) (ha : a < n) : ∀ (b : Nat) {t : Tb}, b ≤ n → (Sat n (rowT k a b t) w ↔ Sat n t w)
  | 0, _, _ => Iff.rfl
  | b + 1, _, h => (sat_ent hk ha (by omega)).trans (sat_row hk ha b (by omega))
theorem sat_piv {n k : Nat} {w : Nat → Int} (hk : k < n) : ∀ (a : Nat) {t : Tb}, a ≤ n → (Sat n (pivT n k a t) w ↔ Sat n t w)
  | 0, _, _ => Iff.rfl
  | a + 1, _, h => (sat_row hk (by omega) n (Nat.le_refl n)).trans (sat_piv hk a (by omega))
theorem sat_pass {n : Nat} {w : Nat → Int} : ∀ (k : Nat) {t : Tb}, k ≤ n → (Sat n (passT n k t) w ↔ Sat n t w)
  | 0, _, _ => Iff.rfl
  | k + 1, _, h => (sat_piv (by omega) n (Nat.le_refl n)).trans (sat_pass k (by omega))
theorem row_le {k a x y : Nat} : ∀ (b : Nat) {t : Tb}, rowT k a b t x y ≤ t x y
  | 0, _ => Int.le_refl _
  | b + 1, _ => Int.le_trans ent_le (row_le b)
theorem piv_le {n k x y : Nat} : ∀ (a : Nat) {t : Tb}, pivT n k a t x y ≤ t x y
  | 0, _ => Int.le_refl _
  | a + 1, _ => Int.le_trans (row_le n) (piv_le a)
theorem pass_le {n x y : Nat} : ∀ (k : Nat) {t : Tb}, passT n k t x y ≤ t x y
  | 0, _ => Int.le_refl _
  | k + 1, _ => Int.le_trans (piv_le n) (pass_le k)
def piv (t : Tb) (k : Nat) : Tb := fun a b => min (t a b) (t a k + t k b)
theorem row_eq {k a : Nat} {t : Tb} (hk : 0 ≤ t k k) : ∀ (b x y : Nat), rowT k a b t x y = if x = a ∧ y < b then piv t k x y else t x y
  | 0, x, y => by simp [rowT]
  | b + 1, x, y => by
    show put2 (rowT k a b t) a b _ x y = _
    unfold put2
    have hrow : rowT k a b t a k = t a k := by
      rw [row_eq hk b a k]
      split
      · unfold piv; omega
      · rfl
    have hcol : ∀ z, rowT k a b t k z = t k z := fun z => by
      rw [row_eq hk b k z]
      split
      · rename_i e
        obtain ⟨rfl, _⟩ := e
        unfold piv; omega
      · rfl
    by_cases e : x = a ∧ y = b
    · obtain ⟨rfl, rfl⟩ := e
      rw [if_pos ⟨rfl, rfl⟩, if_pos ⟨rfl, Nat.lt_succ_self _⟩, hrow, hcol, row_eq hk y x y, if_neg (by omega)]
      rfl
    · rw [if_neg e, row_eq hk b x y]
      by_cases e2 : x = a ∧ y < b
      · rw [if_pos e2, if_pos ⟨e2.1, by omega⟩]
      · rw [if_neg e2, if_neg (fun h => by
          rcases Nat.lt_or_ge y b with h1 | h1
          · exact e2 ⟨h.1, h1⟩
          · exact e ⟨h.1, by omega⟩)]
theorem piv_kk {t : Tb} {k : Nat} (hk : 0 ≤ t k k) (a : Nat) : piv t k a k = t a k ∧ piv t k k a = t k a := by unfold piv; omega
theorem piv_eq {n k : Nat} {t : Tb} (hk : 0 ≤ t k k) (hkn : k < n) : ∀ (a x y : Nat), y < n → pivT n k a t x y = if x < a then piv t k x y else t x y
  | 0, x, y, _ => by simp [pivT]
  | a + 1, x, y, hy => by
    show rowT k a n (pivT n k a t) x y = _
    have e : ∀ z, z < n → pivT n k a t k z = t k z := fun z hz => by
      rw [piv_eq hk hkn a k z hz]
      split
      · exact (piv_kk hk z).2
      · rfl
    have hkk : 0 ≤ pivT n k a t k k := by rw [e k hkn]; exact hk
    rw [row_eq hkk n x y]
    by_cases ex : x = a
    · subst ex
      rw [if_pos ⟨rfl, hy⟩, if_pos (Nat.lt_succ_self _)]
      unfold piv
      rw [e y hy, piv_eq hk hkn x x y hy, piv_eq hk hkn x x k hkn, if_neg (Nat.lt_irrefl x), if_neg (Nat.lt_irrefl x)]
    · rw [if_neg (fun h => ex h.1), piv_eq hk hkn a x y hy]
      by_cases h1 : x < a
      · rw [if_pos h1, if_pos (by omega)]
      · rw [if_neg h1, if_neg (by omega)]
theorem piv_keeps {n k j : Nat} {t : Tb} (hkk : 0 ≤ t k k) (hk : k < n) (hj : j < n) (h : ∀ a b, a < n → b < n → t a b ≤ t a j + t j b) : ∀ a b, a < n → b < n → piv t k a b ≤ piv t k a j + piv t k j b := by
  intro a b ha hb
  have h1 := h a b ha hb
  have h2 := h k b hk hb
  have h3 := h a k ha hk
  have h4 := h k k hk hk
  unfold piv
  omega
theorem piv_at {k : Nat} {t : Tb} (hkk : 0 ≤ t k k) (a b : Nat) : piv t k a b ≤ piv t k a k + piv t k k b := by unfold piv; omega
theorem pass_closed {n : Nat} {t : Tb} : ∀ k, k ≤ n → Diag n (passT n k t) → ∀ j a b, j < k → a < n → b < n → passT n k t a b ≤ passT n k t a j + passT n k t j b
  | 0, _, _, j, a, b, hj, _, _ => by omega
  | k + 1, hk, hd, j, a, b, hj, ha, hb => by
    have hd' : Diag n (passT n k t) := fun x hx => Int.le_trans (hd x hx) (piv_le n)
    have hkk := hd' k (by omega)
    have hjn : j < n := by omega
    show pivT n k n (passT n k t) a b ≤ pivT n k n (passT n k t) a j + pivT n k n (passT n k t) j b
    rw [piv_eq hkk (by omega) n a b hb, piv_eq hkk (by omega) n a j hjn, piv_eq hkk (by omega) n j b hb, if_pos ha, if_pos ha, if_pos hjn]
    by_cases e : j = k
    · subst e; exact piv_at hkk a b
    · exact piv_keeps hkk (by omega) hjn (fun a b ha hb => pass_closed k (by omega) hd' j a b (by omega) ha hb) a b ha hb
theorem pass_clos {n : Nat} {t : Tb} (h : Diag n (passT n n t)) : Clos n (passT n n t) := fun k a b hk ha hb => pass_closed n (Nat.le_refl n) h k a b hk ha hb
theorem ent_same {n k a b : Nat} {t : Tb} (h : Clos n t) (hk : k < n) (ha : a < n) (hb : b < n) : ent k t a b = t := by
  funext x y
  unfold ent put2
  split
  · rename_i e
    obtain ⟨rfl, rfl⟩ := e
    have := h k x y hk ha hb
    omega
  · rfl
theorem row_same {n k a : Nat} {t : Tb} (h : Clos n t) (hk : k < n) (ha : a < n) : ∀ b, b ≤ n → rowT k a b t = t
  | 0, _ => rfl
  | b + 1, hb => by
    show ent k (rowT k a b t) a b = t
    rw [row_same h hk ha b (by omega)]
    exact ent_same h hk ha (by omega)
theorem pivT_same {n k : Nat} {t : Tb} (h : Clos n t) (hk : k < n) : ∀ a, a ≤ n → pivT n k a t = t
  | 0, _ => rfl
  | a + 1, ha => by
    show rowT k a n (pivT n k a t) = t
    rw [pivT_same h hk a (by omega)]
    exact row_same h hk (by omega) n (Nat.le_refl n)
theorem pass_same {n : Nat} {t : Tb} (h : Clos n t) : ∀ k, k ≤ n → passT n k t = t
  | 0, _ => rfl
  | k + 1, hk => by
    show pivT n k n (passT n k t) = t
    rw [pass_same h k (by omega)]
    exact pivT_same h (by omega) n (Nat.le_refl n)
theorem clos_up {n : Nat} {t : Tb} (h : Clos n t) (a : Nat) (ha : a < n) : Sat n t (fun v => t a v) := fun x y hx hy => by
  have := h x a y hx ha hy
  show t a y - t a x ≤ t x y
  omega
theorem clos_diag {n : Nat} {t : Tb} (h : Clos n t) (hd : Diag n t) (hz : ∀ a, a < n → t a a ≤ 0) : ∀ a, a < n → t a a = 0 := fun a ha => by have := hd a ha; have := hz a ha; omega
def more (t : Tb) (a b : Nat) (c : Int) : Tb := fun i j => min (t i j) (t i a + c + t b j)
end Go.Dt
namespace Go.Dt
theorem row_low {n k a : Nat} {t : Tb} {M R : Int} (hM : 0 ≤ M) (hR : 0 ≤ R) (hka : k ≠ a) (hk : k < n) (h1 : ∀ y, y < n → -M ≤ t a y) (h2 : ∀ y, y < n → -R ≤ t k y) : ∀ b, b ≤ n →
    (∀ y, y < n → -(M + 2 * R) ≤ rowT k a b t a y) ∧ -(M + R) ≤ rowT k a b t a k ∧ (b ≤ k → -M ≤ rowT k a b t a k) ∧ (∀ x y, x ≠ a → rowT k a b t x y = t x y)
  | 0, _ => ⟨fun y hy => by have := h1 y hy; show -(M + 2 * R) ≤ t a y; omega, by have := h1 k hk; show -(M + R) ≤ t a k; omega, fun _ => h1 k hk, fun _ _ _ => rfl⟩
  | b + 1, hb => by
    obtain ⟨i1, i2, i3, i4⟩ := row_low hM hR hka hk h1 h2 b (by omega)
    have hkb : rowT k a b t k b = t k b := i4 k b hka
    have hkk : rowT k a b t k k = t k k := i4 k k hka
    have e2 := h2 b (by omega)
    have e3 := h2 k hk
    refine ⟨fun y hy => ?_, ?_, fun hbk => ?_, fun x y hx => ?_⟩
    · show -(M + 2 * R) ≤ put2 (rowT k a b t) a b _ a y
      unfold put2
      have := i1 y hy
      split
      · rename_i e
        obtain ⟨_, rfl⟩ := e
        rw [hkb]
        omega
      · exact this
    · show -(M + R) ≤ put2 (rowT k a b t) a b _ a k
      unfold put2
      split
      · rename_i e
        obtain ⟨_, rfl⟩ := e
        have := i3 (Nat.le_refl k)
        rw [hkk]
        omega
      · exact i2
    · show -M ≤ put2 (rowT k a b t) a b _ a k
      unfold put2
      rw [if_neg (fun e => by have := e.2; omega)]
      exact i3 (by omega)
    · show put2 (rowT k a b t) a b _ x y = t x y
      unfold put2
      rw [if_neg (fun e => hx e.1)]
      exact i4 x y hx
theorem rowk_low {n k : Nat} {t : Tb} {M : Int} (hM : 0 ≤ M) (hk : k < n) (h1 : ∀ y, y < n → -M ≤ t k y) : ∀ b, b ≤ n →
    (∀ y, y < n → -(3 * M) ≤ rowT k k b t k y) ∧ (∀ y, b ≤ y → rowT k k b t k y = t k y) ∧ -(2 * M) ≤ rowT k k b t k k ∧ (∀ x y, x ≠ k → rowT k k b t x y = t x y)
  | 0, _ => ⟨fun y hy => by have := h1 y hy; show -(3 * M) ≤ t k y; omega, fun _ _ => rfl, by have := h1 k hk; show -(2 * M) ≤ t k k; omega, fun _ _ _ => rfl⟩
  | b + 1, hb => by
    obtain ⟨i1, i2, i3, i4⟩ := rowk_low hM hk h1 b (by omega)
    have hkb : rowT k k b t k b = t k b := i2 b (Nat.le_refl b)
    have e2 := h1 b (by omega)
    have e3 := h1 k hk
    refine ⟨fun y hy => ?_, fun y hy => ?_, ?_, fun x y hx => ?_⟩
    · show -(3 * M) ≤ put2 (rowT k k b t) k b _ k y
      unfold put2
      have := i1 y hy
      split
      · rename_i e
        obtain ⟨_, rfl⟩ := e
        rw [hkb]
        omega
      · exact this
    · show put2 (rowT k k b t) k b _ k y = t k y
      unfold put2
      rw [if_neg (fun e => by have := e.2; omega)]
      exact i2 y (by omega)
    · show -(2 * M) ≤ put2 (rowT k k b t) k b _ k k
      unfold put2
      split
      · rename_i e
        obtain ⟨_, rfl⟩ := e
        rw [hkb]
        omega
      · exact i3
    · show put2 (rowT k k b t) k b _ x y = t x y
      unfold put2
      rw [if_neg (fun e => hx e.1)]
      exact i4 x y hx
theorem piv_low {n k : Nat} {t : Tb} {M : Int} (hM : 0 ≤ M) (hk : k < n) (h : ∀ x y, x < n → y < n → -M ≤ t x y) : ∀ a, a ≤ n →
    (∀ x y, x < n → y < n → -(7 * M) ≤ pivT n k a t x y) ∧ (∀ y, y < n → -(3 * M) ≤ pivT n k a t k y) ∧ (a ≤ k → ∀ y, pivT n k a t k y = t k y) ∧ (∀ x y, a ≤ x → pivT n k a t x y = t x y)
  | 0, _ => ⟨fun x y hx hy => by have := h x y hx hy; show -(7 * M) ≤ t x y; omega, fun y hy => by have := h k y hk hy; show -(3 * M) ≤ t k y; omega, fun _ _ => rfl, fun _ _ _ => rfl⟩
  | a + 1, ha => by
    obtain ⟨i1, i2, i3, i4⟩ := piv_low hM hk h a (by omega)
    have hrow : ∀ y, y < n → -M ≤ pivT n k a t a y := fun y hy => by rw [i4 a y (Nat.le_refl a)]; exact h a y (by omega) hy
    by_cases e : k = a
    · subst e
      obtain ⟨j1, j2, j3, j4⟩ := rowk_low hM hk hrow n (Nat.le_refl n)
      refine ⟨fun x y hx hy => ?_, fun y hy => j1 y hy, fun h => by omega, fun x y hx => ?_⟩
      · by_cases ex : x = k
        · subst ex; have := j1 y hy; show -(7 * M) ≤ rowT x x n _ x y; omega
        · show -(7 * M) ≤ rowT k k n _ x y; rw [j4 x y ex]; exact i1 x y hx hy
      · show rowT k k n _ x y = t x y
        rw [j4 x y (by omega)]; exact i4 x y (by omega)
    · have key : ∀ R, 0 ≤ R → M + 2 * R ≤ 7 * M → (∀ y, y < n → -R ≤ pivT n k a t k y) →
          (∀ x y, x < n → y < n → -(7 * M) ≤ rowT k a n (pivT n k a t) x y) ∧ (∀ x y, x ≠ a → rowT k a n (pivT n k a t) x y = pivT n k a t x y) := fun R hR hMR hrk => by
        obtain ⟨j1, _, _, j4⟩ := row_low hM hR e hk hrow hrk n (Nat.le_refl n)
        refine ⟨fun x y hx hy => ?_, j4⟩
        by_cases ex : x = a
        · subst ex; have := j1 y hy; omega
        · rw [j4 x y ex]; exact i1 x y hx hy
      obtain ⟨q1, q2⟩ := key (3 * M) (by omega) (by omega) i2
      refine ⟨q1, fun y hy => ?_, fun hak y => ?_, fun x y hx => ?_⟩
      · show -(3 * M) ≤ rowT k a n _ k y; rw [q2 k y e]; exact i2 y hy
      · show rowT k a n _ k y = t k y; rw [q2 k y e]; exact i3 (by omega) y
      · show rowT k a n _ x y = t x y; rw [q2 x y (by omega)]; exact i4 x y (by omega)
end Go.Dt
namespace Go.Dt
def tb (T : List Int) : Tb := fun a b => T.getD (10 * a + b) 0
def entL (k : Nat) (T : List Int) (a b : Nat) : List Int := T.set (10 * a + b) (min (tb T a b) (tb T a k + tb T k b))
def rowL (k a : Nat) : Nat → List Int → List Int
  | 0, T => T
  | b + 1, T => entL k (rowL k a b T) a b
def pivL (k : Nat) : Nat → List Int → List Int
  | 0, T => T
  | a + 1, T => rowL k a 10 (pivL k a T)
def passL : Nat → List Int → List Int
  | 0, T => T
  | k + 1, T => pivL k 10 (passL k T)
def Agree (T : List Int) (t : Tb) : Prop := T.length = 100 ∧ ∀ x y, x < 10 → y < 10 → tb T x y = t x y
theorem agree_tb {T : List Int} (h : T.length = 100) : Agree T (tb T) := ⟨h, fun _ _ _ _ => rfl⟩
theorem tb_set {T : List Int} (h : T.length = 100) {a b x y : Nat} (ha : a < 10) (hb : b < 10) (_hx : x < 10) (hy : y < 10) (v : Int) : tb (T.set (10 * a + b) v) x y = if x = a ∧ y = b then v else tb T x y := by
  unfold tb
  rw [List.getD_eq_getElem?_getD, List.getD_eq_getElem?_getD, List.getElem?_set]
  by_cases e : x = a ∧ y = b
  · obtain ⟨rfl, rfl⟩ := e
    rw [if_pos rfl, if_pos (by omega), if_pos ⟨rfl, rfl⟩]; rfl
  · rw [if_neg e, if_neg (fun h => e (by omega))]
theorem agree_ent {T : List Int} {t : Tb} (h : Agree T t) {k a b : Nat} (hk : k < 10) (ha : a < 10) (hb : b < 10) : Agree (entL k T a b) (ent k t a b) := by
  refine ⟨by unfold entL; rw [List.length_set]; exact h.1, fun x y hx hy => ?_⟩
  unfold entL ent put2
  rw [tb_set h.1 ha hb hx hy, h.2 a b ha hb, h.2 a k ha hk, h.2 k b hk hb, h.2 x y hx hy]
theorem agree_row {T : List Int} {t : Tb} (h : Agree T t) {k a : Nat} (hk : k < 10) (ha : a < 10) : ∀ b, b ≤ 10 → Agree (rowL k a b T) (rowT k a b t)
  | 0, _ => h
  | b + 1, hb => agree_ent (agree_row h hk ha b (by omega)) hk ha (by omega)
theorem agree_piv {T : List Int} {t : Tb} (h : Agree T t) {k : Nat} (hk : k < 10) : ∀ a, a ≤ 10 → Agree (pivL k a T) (pivT 10 k a t)
  | 0, _ => h
  | a + 1, ha => agree_row (agree_piv h hk a (by omega)) hk (by omega) 10 (Nat.le_refl _)
theorem agree_pass {T : List Int} {t : Tb} (h : Agree T t) : ∀ k, k ≤ 10 → Agree (passL k T) (passT 10 k t)
  | 0, _ => h
  | k + 1, hk => agree_piv (agree_pass h k (by omega)) (by omega) 10 (Nat.le_refl _)
theorem agree_ext {T U : List Int} {t : Tb} (h1 : Agree T t) (h2 : Agree U t) : T = U := by
  apply List.ext_getElem?
  intro i
  by_cases hi : i < 100
  · have e1 := h1.2 (i / 10) (i % 10) (by omega) (by omega)
    have e2 := h2.2 (i / 10) (i % 10) (by omega) (by omega)
    have e : 10 * (i / 10) + i % 10 = i := by omega
    unfold tb at e1 e2
    rw [e, List.getD_eq_getElem?_getD] at e1 e2
    rw [List.getElem?_eq_getElem (by rw [h1.1]; exact hi)] at e1 ⊢
    rw [List.getElem?_eq_getElem (by rw [h2.1]; exact hi)] at e2 ⊢
    simp only [Option.getD_some] at e1 e2
    rw [e1, e2]
  · rw [List.getElem?_eq_none (by rw [h1.1]; omega), List.getElem?_eq_none (by rw [h2.1]; omega)]
def negD (T : List Int) : Bool := (List.range 10).any fun a => decide (tb T a a < 0)
theorem negD_false {T : List Int} : negD T = false ↔ Diag 10 (tb T) := by
  unfold negD Diag
  rw [List.any_eq_false]
  constructor
  · intro h a ha
    have := h a (List.mem_range.2 ha)
    simp at this
    exact this
  · intro h a ha
    have := h a (List.mem_range.1 ha)
    simp
    exact this
def clsL (T : List Int) : List Int × Bool :=
  if negD T then (T, false) else
    let U := passL 10 T
    if U = T then (T, true) else if negD U then (U, false) else (U, true)
theorem pass_twice {T : List Int} (h : T.length = 100) (hd : negD (passL 10 T) = false) : passL 10 (passL 10 T) = passL 10 T := by
  have h1 := agree_pass (agree_tb h) 10 (Nat.le_refl _)
  have h2 : Agree (passL 10 T) (tb (passL 10 T)) := agree_tb h1.1
  have hD := negD_false.1 hd
  have hDp : Diag 10 (passT 10 10 (tb T)) := fun a ha => by rw [← h1.2 a a ha ha]; exact hD a ha
  have hC := pass_clos hDp
  have hC' : Clos 10 (tb (passL 10 T)) := fun k a b hk ha hb => by rw [h1.2 a b ha hb, h1.2 a k ha hk, h1.2 k b hk hb]; exact hC k a b hk ha hb
  have h3 := agree_pass h2 10 (Nat.le_refl _)
  rw [pass_same hC' 10 (Nat.le_refl _)] at h3
  exact agree_ext h3 h2
theorem clsL_eq {T U : List Int} (hU : passL 10 T = U) : clsL T = if negD T then (T, false) else if U = T then (T, true) else if negD U then (U, false) else (U, true) := by subst hU; rfl
theorem passL_facts {T U : List Int} (h : T.length = 100) (hU : passL 10 T = U) : U.length = 100 ∧ (∀ w, Sat 10 (tb U) w ↔ Sat 10 (tb T) w) ∧ (Diag 10 (tb U) → Clos 10 (tb U)) ∧ ∀ x y, x < 10 → y < 10 → tb U x y ≤ tb T x y := by
  have h1 := agree_pass (agree_tb h) 10 (Nat.le_refl _)
  rw [hU] at h1
  clear hU
  refine ⟨h1.1, fun w => ?_, fun hd => ?_, fun x y hx hy => ?_⟩
  · rw [← sat_pass (n := 10) (w := w) 10 (t := tb T) (Nat.le_refl _)]
    unfold Sat
    exact ⟨fun q a b ha hb => by rw [← h1.2 a b ha hb]; exact q a b ha hb, fun q a b ha hb => by rw [h1.2 a b ha hb]; exact q a b ha hb⟩
  · have hDp : Diag 10 (passT 10 10 (tb T)) := fun a ha => by rw [← h1.2 a a ha ha]; exact hd a ha
    intro k a b hk ha hb
    rw [h1.2 a b ha hb, h1.2 a k ha hk, h1.2 k b hk hb]
    exact pass_clos hDp k a b hk ha hb
  · rw [h1.2 x y hx hy]; exact pass_le 10
theorem clsL_true {T : List Int} (h : T.length = 100) (hc : (clsL T).2 = true) : (clsL T).1.length = 100 ∧ Clos 10 (tb (clsL T).1) ∧ Diag 10 (tb (clsL T).1) ∧ (∀ w, Sat 10 (tb (clsL T).1) w ↔ Sat 10 (tb T) w) ∧ ∀ x y, x < 10 → y < 10 → tb (clsL T).1 x y ≤ tb T x y := by
  obtain ⟨U, hU⟩ : ∃ U, passL 10 T = U := ⟨_, rfl⟩
  obtain ⟨f1, f2, f3, f4⟩ := passL_facts h hU
  rw [clsL_eq hU] at hc ⊢
  clear hU
  by_cases n1 : negD T = true
  · rw [if_pos n1] at hc; cases hc
  · rw [if_neg n1] at hc ⊢
    have d1 := negD_false.1 (by simpa using n1)
    by_cases e : U = T
    · rw [if_pos e]
      subst e
      exact ⟨h, f3 d1, d1, fun _ => Iff.rfl, fun _ _ _ _ => Int.le_refl _⟩
    · rw [if_neg e] at hc ⊢
      by_cases n2 : negD U = true
      · rw [if_pos n2] at hc; cases hc
      · rw [if_neg n2]
        have d2 := negD_false.1 (by simpa using n2)
        exact ⟨f1, f3 d2, d2, f2, f4⟩
end Go.Dt
namespace Go.Dt
def goF (k : Nat) : Nat → Int → List Int → List Int → List Int
  | b, c, x :: xs, y :: ys => min x (c + y) :: goF k (b + 1) (if b = k then min x (c + y) else c) xs ys
  | _, _, _, _ => []
def seg (f : Nat → Int) (b m : Nat) : List Int := (List.range' b m).map f
theorem seg_succ {f : Nat → Int} {b m : Nat} : seg f b (m + 1) = f b :: seg f (b + 1) m := by unfold seg; rw [List.range'_succ, List.map_cons]
theorem rowT_stable {k a y : Nat} {t : Tb} : ∀ d b, y < b → rowT k a (b + d) t a y = rowT k a b t a y
  | 0, _, _ => rfl
  | d + 1, b, h => by
    show put2 (rowT k a (b + d) t) a (b + d) _ a y = _
    unfold put2
    rw [if_neg (fun e => by have := e.2; omega)]
    exact rowT_stable d b h
theorem rowT_later {k a y : Nat} {t : Tb} : ∀ b, b ≤ y → rowT k a b t a y = t a y
  | 0, _ => rfl
  | b + 1, h => by
    show put2 (rowT k a b t) a b _ a y = _
    unfold put2
    rw [if_neg (fun e => by have := e.2; omega)]
    exact rowT_later b (by omega)
theorem rowT_other {k a x y : Nat} {t : Tb} (hx : x ≠ a) : ∀ b, rowT k a b t x y = t x y
  | 0 => rfl
  | b + 1 => by
    show put2 (rowT k a b t) a b _ x y = _
    unfold put2
    rw [if_neg (fun e => hx e.1)]
    exact rowT_other hx b
theorem goF_eq {k a : Nat} {t : Tb} : ∀ (m b : Nat), goF k b (rowT k a b t a k) (seg (t a) b m) (seg (t k) b m) = seg (rowT k a (b + m) t a) b m
  | 0, _ => rfl
  | m + 1, b => by
    have hab : rowT k a b t a b = t a b := rowT_later b (Nat.le_refl b)
    have hkb : rowT k a b t k b = t k b := by
      by_cases e : k = a
      · subst e; exact rowT_later b (Nat.le_refl b)
      · exact rowT_other e b
    have hv : rowT k a (b + 1) t a b = min (t a b) (rowT k a b t a k + t k b) := by
      show put2 (rowT k a b t) a b _ a b = _
      unfold put2
      rw [if_pos ⟨rfl, rfl⟩, hab, hkb]
    have hc : (if b = k then min (t a b) (rowT k a b t a k + t k b) else rowT k a b t a k) = rowT k a (b + 1) t a k := by
      by_cases e : b = k
      · subst e; rw [if_pos rfl, ← hv]
      · rw [if_neg e]
        show _ = put2 (rowT k a b t) a b _ a k
        unfold put2
        rw [if_neg (fun h => e h.2.symm)]
    rw [seg_succ, seg_succ, seg_succ, goF, hc, goF_eq m (b + 1)]
    have e1 : rowT k a (b + (m + 1)) t a b = min (t a b) (rowT k a b t a k + t k b) := by
      rw [show b + (m + 1) = b + 1 + m by omega, rowT_stable m (b + 1) (Nat.lt_succ_self b), hv]
    rw [e1, show b + 1 + m = b + (m + 1) by omega]
theorem pivT_later {n k x y : Nat} {t : Tb} : ∀ a, a ≤ x → pivT n k a t x y = t x y
  | 0, _ => rfl
  | a + 1, h => by
    show rowT k a n (pivT n k a t) x y = _
    rw [rowT_other (by omega) n]
    exact pivT_later a (by omega)
theorem pivT_stable {n k x y : Nat} {t : Tb} : ∀ d a, x < a → pivT n k (a + d) t x y = pivT n k a t x y
  | 0, _, _ => rfl
  | d + 1, a, h => by
    show rowT k (a + d) n (pivT n k (a + d) t) x y = _
    rw [rowT_other (by omega) n]
    exact pivT_stable d a h
def rowsF (k : Nat) (rk rk' : List Int) : Nat → List (List Int) → List (List Int)
  | _, [] => []
  | i, xs :: r => goF k 0 (xs.getD k 0) xs (if i ≤ k then rk else rk') :: rowsF k rk rk' (i + 1) r
def pivF (k : Nat) (rows : List (List Int)) : List (List Int) :=
  let rk := rows.getD k []
  rowsF k rk (goF k 0 (rk.getD k 0) rk rk) 0 rows
def passF : Nat → List (List Int) → List (List Int)
  | 0, rows => rows
  | k + 1, rows => pivF k (passF k rows)
def matFrom (n : Nat) (t : Tb) (b m : Nat) : List (List Int) := (List.range' b m).map fun a => seg (t a) 0 n
theorem seg_getD {f : Nat → Int} {b m i : Nat} (h : i < m) : (seg f b m).getD i 0 = f (b + i) := by
  unfold seg
  rw [List.getD_eq_getElem?_getD, List.getElem?_map, List.getElem?_range' (by omega)]
  simp
theorem mat_getD {n : Nat} {t : Tb} {b m i : Nat} (h : i < m) : (matFrom n t b m).getD i [] = seg (t (b + i)) 0 n := by
  unfold matFrom
  rw [List.getD_eq_getElem?_getD, List.getElem?_map, List.getElem?_range' (by omega)]
  simp
theorem final_row {n k x : Nat} {t : Tb} (hx : x < n) : (fun y => pivT n k n t x y) = rowT k x n (pivT n k x t) x := by
  funext y
  have := pivT_stable (n := n) (k := k) (x := x) (y := y) (t := t) (n - (x + 1)) (x + 1) (Nat.lt_succ_self x)
  rw [show x + 1 + (n - (x + 1)) = n by omega] at this
  exact this
theorem one_row {n k x : Nat} {t : Tb} (hx : x < n) (hk : k < n) (r : List Int) (hr : r = seg (pivT n k x t k) 0 n) : goF k 0 ((seg (t x) 0 n).getD k 0) (seg (t x) 0 n) r = seg (pivT n k n t x) 0 n := by
  have h := goF_eq (k := k) (a := x) (t := pivT n k x t) n 0
  have e0 : rowT k x 0 (pivT n k x t) x k = t x k := pivT_later x (Nat.le_refl x)
  have e1 : pivT n k x t x = t x := by funext y; exact pivT_later x (Nat.le_refl x)
  rw [e0, e1, ← hr, Nat.zero_add, ← final_row hx] at h
  rw [seg_getD hk, Nat.zero_add]
  exact h
theorem rowsF_eq {n k : Nat} {t : Tb} (hk : k < n) (rk rk' : List Int) (h1 : rk = seg (t k) 0 n) (h2 : rk' = seg (pivT n k n t k) 0 n) : ∀ (m i : Nat), i + m = n → rowsF k rk rk' i (matFrom n t i m) = matFrom n (pivT n k n t) i m
  | 0, _, _ => rfl
  | m + 1, i, h => by
    have e : ∀ u : Tb, matFrom n u i (m + 1) = seg (u i) 0 n :: matFrom n u (i + 1) m := fun u => by unfold matFrom; rw [List.range'_succ, List.map_cons]
    rw [e, e, rowsF, rowsF_eq hk rk rk' h1 h2 m (i + 1) (by omega), one_row (by omega) hk]
    split
    · rename_i hik
      rw [h1]
      congr 1
      funext y
      exact (pivT_later i hik).symm
    · rename_i hik
      rw [h2]
      congr 1
      funext y
      have := pivT_stable (n := n) (k := k) (x := k) (y := y) (t := t) (n - i) i (by omega)
      rw [show i + (n - i) = n by omega] at this
      exact this
theorem pivF_eq {n k : Nat} {t : Tb} (hk : k < n) : pivF k (matFrom n t 0 n) = matFrom n (pivT n k n t) 0 n := by
  unfold pivF
  have e : (matFrom n t 0 n).getD k [] = seg (t k) 0 n := by rw [mat_getD hk, Nat.zero_add]
  rw [e]
  refine rowsF_eq hk _ _ rfl (one_row hk hk _ ?_) n 0 (Nat.zero_add n)
  congr 1
  funext y
  exact (pivT_later k (Nat.le_refl k)).symm
theorem passF_eq {n : Nat} {t : Tb} : ∀ k, k ≤ n → passF k (matFrom n t 0 n) = matFrom n (passT n k t) 0 n
  | 0, _ => rfl
  | k + 1, h => by
    show pivF k (passF k (matFrom n t 0 n)) = _
    rw [passF_eq k (by omega), pivF_eq (by omega)]
    rfl
end Go.Dt
namespace Go.Dt
def chop : Nat → List Int → List (List Int)
  | 0, _ => []
  | n + 1, T => T.take 10 :: chop n (T.drop 10)
def passQ (T : List Int) : List Int := (passF 10 (chop 10 T)).flatten
theorem take_seg {T : List Int} (h : T.length = 100) {i : Nat} (hi : i < 10) : (T.drop (10 * i)).take 10 = seg (tb T i) 0 10 := by
  apply List.ext_getElem?
  intro j
  unfold seg
  rw [List.getElem?_take, List.getElem?_map]
  by_cases hj : j < 10
  · rw [if_pos hj, List.getElem?_drop, List.getElem?_range' hj]
    simp only [Option.map_some, Nat.one_mul, Nat.zero_add]
    unfold tb
    rw [List.getD_eq_getElem?_getD, List.getElem?_eq_getElem (by omega), Option.getD_some]
  · rw [if_neg hj, List.getElem?_eq_none (by simp; omega)]; rfl
theorem chop_eq {T : List Int} (h : T.length = 100) : ∀ (m i : Nat), i + m = 10 → chop m (T.drop (10 * i)) = matFrom 10 (tb T) i m
  | 0, _, _ => rfl
  | m + 1, i, hi => by
    have e : matFrom 10 (tb T) i (m + 1) = seg (tb T i) 0 10 :: matFrom 10 (tb T) (i + 1) m := by unfold matFrom; rw [List.range'_succ, List.map_cons]
    rw [e, chop, take_seg h (by omega), List.drop_drop, show 10 * i + 10 = 10 * (i + 1) by omega, chop_eq h m (i + 1) (by omega)]
theorem flat_getD : ∀ (rows : List (List Int)) (a b : Nat), (∀ r ∈ rows, r.length = 10) → b < 10 → rows.flatten.getD (10 * a + b) 0 = (rows.getD a []).getD b 0
  | [], a, b, _, _ => by simp
  | r :: rows, 0, b, h, hb => by
    have hr := h r (List.mem_cons_self ..)
    rw [List.flatten_cons, List.getD_eq_getElem?_getD, List.getElem?_append_left (by omega), ← List.getD_eq_getElem?_getD]
    simp
  | r :: rows, a + 1, b, h, hb => by
    have hr := h r (List.mem_cons_self ..)
    rw [List.flatten_cons, List.getD_eq_getElem?_getD, List.getElem?_append_right (by omega), hr, show 10 * (a + 1) + b - 10 = 10 * a + b by omega, ← List.getD_eq_getElem?_getD, flat_getD rows a b (fun q hq => h q (List.mem_cons_of_mem _ hq)) hb]
    simp
theorem mat_len {n : Nat} {t : Tb} {b m : Nat} : ∀ r ∈ matFrom n t b m, r.length = n := by
  intro r hr
  unfold matFrom at hr
  obtain ⟨a, _, rfl⟩ := List.mem_map.1 hr
  simp [seg]
theorem flat_len : ∀ (rows : List (List Int)), (∀ r ∈ rows, r.length = 10) → rows.flatten.length = 10 * rows.length
  | [], _ => rfl
  | r :: rows, h => by
    rw [List.flatten_cons, List.length_append, h r (List.mem_cons_self ..), flat_len rows (fun q hq => h q (List.mem_cons_of_mem _ hq)), List.length_cons]
    omega
theorem agree_mat {t : Tb} : Agree (matFrom 10 t 0 10).flatten t := by
  refine ⟨?_, fun x y hx hy => ?_⟩
  · rw [flat_len _ mat_len]
    simp [matFrom]
  · unfold tb
    rw [flat_getD _ x y mat_len hy, mat_getD hx, seg_getD hy, Nat.zero_add, Nat.zero_add]
theorem passQ_eq {T : List Int} (h : T.length = 100) : passQ T = passL 10 T := by
  have e := chop_eq h 10 0 rfl
  rw [Nat.mul_zero, List.drop_zero] at e
  unfold passQ
  rw [e, passF_eq 10 (Nat.le_refl _)]
  exact agree_ext agree_mat (agree_pass (agree_tb h) 10 (Nat.le_refl _))
def clsQ (T : List Int) : List Int × Bool :=
  if negD T then (T, false) else
    let U := passQ T
    if U = T then (T, true) else if negD U then (U, false) else (U, true)
theorem clsQ_eq {T : List Int} (h : T.length = 100) : clsQ T = clsL T := by
  unfold clsQ clsL
  rw [passQ_eq h]
end Go.Dt
namespace Go.Dt
theorem mid_low {n k a b : Nat} {t : Tb} {M : Int} (hM : 0 ≤ M) (hk : k < n) (ha : a < n) (hb : b ≤ n) (h : ∀ x y, x < n → y < n → -M ≤ t x y) : ∀ x y, x < n → y < n → -(7 * M) ≤ rowT k a b (pivT n k a t) x y := by
  obtain ⟨i1, i2, i3, i4⟩ := piv_low hM hk h a (Nat.le_of_lt ha)
  have hrow : ∀ y, y < n → -M ≤ pivT n k a t a y := fun y hy => by rw [i4 a y (Nat.le_refl a)]; exact h a y ha hy
  intro x y hx hy
  by_cases ex : x = a
  · subst ex
    by_cases e : k = x
    · subst e
      have := (rowk_low hM hk hrow b hb).1 y hy
      omega
    · have := (row_low hM (show (0 : Int) ≤ 3 * M by omega) e hk hrow i2 b hb).1 y hy
      omega
  · rw [rowT_other ex]; exact i1 x y hx hy
theorem pass_low {n : Nat} {t : Tb} {M : Int} (hM : 0 ≤ M) (h : ∀ x y, x < n → y < n → -M ≤ t x y) : ∀ k, k ≤ n → ∃ L, 0 ≤ L ∧ L = ((7 ^ k : Nat) : Int) * M ∧ ∀ x y, x < n → y < n → -L ≤ passT n k t x y
  | 0, _ => ⟨M, hM, by simp, h⟩
  | k + 1, hk => by
    obtain ⟨L, h0, h1, h2⟩ := pass_low hM h k (by omega)
    refine ⟨7 * L, by omega, by rw [h1, ← Int.mul_assoc, show (7 : Int) = ((7 : Nat) : Int) from rfl, ← Int.natCast_mul, Nat.pow_succ, Nat.mul_comm 7], fun x y hx hy => ?_⟩
    exact (piv_low h0 (by omega) h2 n (Nat.le_refl n)).1 x y hx hy
theorem mid_bnd {t : Tb} {M U : Int} (hM : 0 ≤ M) (h : ∀ x y, x < 10 → y < 10 → -M ≤ t x y ∧ t x y ≤ U) {k a b : Nat} (hk : k < 10) (ha : a < 10) (hb : b ≤ 10) {x y : Nat} (hx : x < 10) (hy : y < 10) :
    -(282475249 * M) ≤ rowT k a b (pivT 10 k a (passT 10 k t)) x y ∧ rowT k a b (pivT 10 k a (passT 10 k t)) x y ≤ U := by
  obtain ⟨L, h0, h1, h2⟩ := pass_low hM (fun x y hx hy => (h x y hx hy).1) k (Nat.le_of_lt hk)
  have hm := mid_low h0 hk ha hb h2 x y hx hy
  have hle := Int.le_trans (row_le b) (Int.le_trans (piv_le (n := 10) (k := k) a) (pass_le (n := 10) k (t := t))) (a := rowT k a b (pivT 10 k a (passT 10 k t)) x y)
  refine ⟨?_, Int.le_trans hle (h x y hx hy).2⟩
  have hL : 7 * L ≤ 282475249 * M := by
    have hp : 7 ^ k ≤ 7 ^ 9 := Nat.pow_le_pow_right (by decide) (by omega)
    have hp' : ((7 ^ k : Nat) : Int) ≤ 40353607 := by
      have : (7 : Nat) ^ 9 = 40353607 := by decide
      omega
    have := Int.mul_le_mul_of_nonneg_right hp' hM
    rw [← h1] at this
    omega
  omega
end Go.Dt
namespace Go.Dt
def withinL (T : List Int) (a b : Nat) (lo hi : Int) : List Int := (T.set (10 * a + b) (min (tb T a b) hi)).set (10 * b + a) (min (tb T b a) (-lo))
theorem within_len {T : List Int} {a b : Nat} {lo hi : Int} (h : T.length = 100) : (withinL T a b lo hi).length = 100 := by unfold withinL; rw [List.length_set, List.length_set]; exact h
theorem tb_within {T : List Int} (h : T.length = 100) {a b x y : Nat} (ha : a < 10) (hb : b < 10) (hx : x < 10) (hy : y < 10) (lo hi : Int) :
    tb (withinL T a b lo hi) x y = if x = b ∧ y = a then min (tb T b a) (-lo) else if x = a ∧ y = b then min (tb T a b) hi else tb T x y := by
  unfold withinL
  rw [tb_set (by rw [List.length_set]; exact h) hb ha hx hy, tb_set h ha hb hx hy]
structure Wk where
  a : Nat
  b : Nat
  ways : List (Int × Int)
def Wk.ok (n : Wk) : Prop := n.a < 10 ∧ n.b < 10 ∧ n.a ≠ n.b
def Wk.right (n : Wk) (w : Nat → Int) : Prop := ∃ s ∈ n.ways, s.1 ≤ w n.b - w n.a ∧ w n.b - w n.a ≤ s.2
def waysL : List Wk → List Int → List (List Int)
  | [], T => [T]
  | n :: ns, T => n.ways.flatMap fun s => if (clsL (withinL T n.a n.b s.1 s.2)).2 then waysL ns (clsL (withinL T n.a n.b s.1 s.2)).1 else []
structure Good (T : List Int) : Prop where
  len : T.length = 100
  clos : Clos 10 (tb T)
  diag : Diag 10 (tb T)
end Go.Dt
