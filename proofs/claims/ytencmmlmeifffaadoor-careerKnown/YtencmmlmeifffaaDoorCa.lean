/- What functions of the given program do in the ideal machine (C1, C2, C2b, C3, C4), and the plain laws of what they answer; the conditions stand in each theorem. -/
import Derived.Test.YtencmmlmeifffaaDoorDa
set_option linter.all false
set_option linter.unusedSectionVars false
set_option linter.unusedSimpArgs false
set_option linter.unusedVariables false
namespace Go.Proofs
open Go Go.Idl
set_option linter.unusedSimpArgs false
variable {b : Bool}
@[reducible] def I (n : Int) : Vl := .int .i64 n
theorem in_to (n lo hi : Int) : Ans Tryd.prog (AA b) 16 [I n, I lo, I hi] (fun v => v = .bool (decide (lo ≤ n) && decide (n ≤ hi))) := by
  refine Ans_of Tryd.func16 rfl rfl ?_
  by_cases h : lo ≤ n
  all_goals simp only [go_sem, ↓reduceIte, Nat.reduceEqDiff, Nat.reduceAdd, reduceCtorEq, h]
theorem latest_to (x y : Int) : Ans Tryd.prog (AA b) 39 [I x, I y] (fun v => v = I (max x y)) := by
  refine Ans_of Tryd.func39 rfl rfl ?_
  by_cases h : x < y
  all_goals
    simp only [go_sem, ↓reduceIte, Nat.reduceEqDiff, Nat.reduceAdd, reduceCtorEq, h]
    congr 1; omega
theorem earliest_to (x y : Int) : Ans Tryd.prog (AA b) 38 [I x, I y] (fun v => v = I (min x y)) := by
  refine Ans_of Tryd.func38 rfl rfl ?_
  by_cases h : y < x
  all_goals
    simp only [go_sem, ↓reduceIte, Nat.reduceEqDiff, Nat.reduceAdd, reduceCtorEq, h]
    congr 1; omega
theorem birth_to (a : Int) : Ans Tryd.prog (AA b) 25 [I a] (fun v => v = I a) := by
  refine Ans_of Tryd.func25 rfl rfl ?_
  simp only [go_sem, ↓reduceIte, Nat.reduceEqDiff, Nat.reduceAdd, reduceCtorEq]
theorem death_to (a : Int) : Ans Tryd.prog (AA b) 26 [I a] (fun v => v = I (IntKind.i64.wrap (6 + a))) := by
  refine Ans_of Tryd.func26 rfl rfl ?_
  simp only [go_sem, ↓reduceIte, Nat.reduceEqDiff, Nat.reduceAdd, reduceCtorEq]
theorem year_to (a : Int) : Ans Tryd.prog (AA b) 31 [I a] (fun v => v = I (IntKind.i64.wrap (12 + a))) := by
  refine Ans_of Tryd.func31 rfl rfl ?_
  simp only [go_sem, ↓reduceIte, Nat.reduceEqDiff, Nat.reduceAdd, reduceCtorEq]
section
variable {m : Mem} {K : Vl → Mem → Prop}
theorem wc59 (n lo hi : Int) : WC Tryd.prog (AA b) (.fn (.func 16) [] []) [.v (I n), .v (I lo), .v (I hi)] m K = K (.bool (decide (lo ≤ n) && decide (n ≤ hi))) m := WC_flat rfl rfl (in_to n lo hi) rfl
theorem wc86 (x y : Int) : WC Tryd.prog (AA b) (.fn (.func 39) [] []) [.v (I x), .v (I y)] m K = K (I (max x y)) m := WC_flat rfl rfl (latest_to x y) rfl
theorem wc85 (x y : Int) : WC Tryd.prog (AA b) (.fn (.func 38) [] []) [.v (I x), .v (I y)] m K = K (I (min x y)) m := WC_flat rfl rfl (earliest_to x y) rfl
theorem wc55 (a : Int) : WC Tryd.prog (AA b) (.fn (.func 25) [] []) [.v (I a)] m K = K (I a) m := WC_flat rfl rfl (birth_to a) rfl
theorem wc56 (a : Int) : WC Tryd.prog (AA b) (.fn (.func 26) [] []) [.v (I a)] m K = K (I (IntKind.i64.wrap (6 + a))) m := WC_flat rfl rfl (death_to a) rfl
theorem wc58 (a : Int) : WC Tryd.prog (AA b) (.fn (.func 31) [] []) [.v (I a)] m K = K (I (IntKind.i64.wrap (12 + a))) m := WC_flat rfl rfl (year_to a) rfl
end
attribute [go_sem] wc59 wc86 wc85 wc55 wc56 wc58
@[reducible] def Sp (lo hi : Int) : Vl := .agg [I lo, I hi]
end Go.Proofs
namespace Go.Proofs
open Go Go.Idl
set_option linter.unusedSimpArgs false
variable {b : Bool}
structure Rule where
  a : Nat
  b : Nat
  n : Int
def encR (r : Rule) : Vl := .agg [I r.a, I r.b, I r.n]
def narStep (k : List (Int × Int)) (r : Rule) : Option (List (Int × Int)) :=
  let x := k.getD r.a (0, 0)
  let y := k.getD r.b (0, 0)
  let l := max y.1 (x.1 + r.n)
  let h := min x.2 (y.2 - r.n)
  if x.1 > h ∨ l > y.2 then none else some ((k.set r.a (x.1, h)).set r.b (l, y.2))
def narRound : List (Int × Int) → List Rule → Option (List (Int × Int))
  | k, [] => some k
  | k, r :: rs => match narStep k r with
    | some k' => narRound k' rs
    | none => none
def InB (k : List (Int × Int)) : Prop := k.length = 20 ∧ ∀ p ∈ k, -100000 ≤ p.1 ∧ p.1 ≤ p.2 ∧ p.2 ≤ 100000
def RB (r : Rule) : Prop := r.a < 20 ∧ r.b < 20 ∧ -100000 ≤ r.n ∧ r.n ≤ 100000
end Go.Proofs
namespace Go.Proofs
open Go Go.Idl
set_option linter.unusedSimpArgs false
theorem InB.get {k : List (Int × Int)} (h : InB k) (i : Nat) (hi : i < 20) : -100000 ≤ (k.getD i (0, 0)).1 ∧ (k.getD i (0, 0)).1 ≤ (k.getD i (0, 0)).2 ∧ (k.getD i (0, 0)).2 ≤ 100000 := by
  have hl : i < k.length := by rw [h.1]; exact hi
  have := h.2 (k.getD i (0, 0)) (by rw [List.getD_eq_getElem?_getD, List.getElem?_eq_getElem hl]; exact List.getElem_mem hl)
  exact this
theorem InB.step {k k' : List (Int × Int)} {r : Rule} (h : InB k) (hr : RB r) (e : narStep k r = some k') : InB k' := by
  have ha := h.get r.a hr.1
  have hb := h.get r.b hr.2.1
  unfold narStep at e
  simp only at e
  split at e
  · cases e
  rename_i hc
  cases e
  refine ⟨by simp [h.1], fun p hp => ?_⟩
  rcases List.mem_or_eq_of_mem_set hp with hp | rfl
  · rcases List.mem_or_eq_of_mem_set hp with hp | rfl
    · exact h.2 p hp
    · simp only; omega
  · simp only; omega
def wid (p : Int × Int) : Nat := (p.2 - p.1).toNat
def meas (k : List (Int × Int)) : Nat := (k.map wid).sum
theorem meas_set (p : Int × Int) : ∀ (k : List (Int × Int)) (i : Nat), i < k.length → meas (k.set i p) + wid (k.getD i (0, 0)) = meas k + wid p
  | [], _, h => by simp at h
  | q :: k, 0, _ => by simp [meas]; omega
  | q :: k, i + 1, h => by
    have := meas_set p k i (by simpa using h)
    simp only [meas, List.set_cons_succ, List.map_cons, List.sum_cons, List.getD_cons_succ] at this ⊢
    omega
theorem getD_set {k : List (Int × Int)} {i j : Nat} {p : Int × Int} (h : i < k.length) : (k.set i p).getD j (0, 0) = if i = j then p else k.getD j (0, 0) := by
  simp only [List.getD_eq_getElem?_getD, List.getElem?_set]
  by_cases hij : i = j
  · subst hij; simp [h]
  · simp [hij]
theorem set_self {k : List (Int × Int)} {i : Nat} {p : Int × Int} (h : i < k.length) (e : k.getD i (0, 0) = p) : k.set i p = k := by
  apply List.ext_getElem?
  intro j
  rw [List.getElem?_set]
  split
  · rename_i hij
    subst hij
    rw [List.getD_eq_getElem?_getD, List.getElem?_eq_getElem h] at e
    simp at e
    rw [List.getElem?_eq_getElem h, e]
  · rfl
theorem narStep_meas {k k' : List (Int × Int)} {r : Rule} (h : InB k) (hr : RB r) (e : narStep k r = some k') : k' = k ∨ meas k' < meas k := by
  have ha := h.get r.a hr.1
  have hb := h.get r.b hr.2.1
  have hla : r.a < k.length := by rw [h.1]; exact hr.1
  have hlb : r.b < k.length := by rw [h.1]; exact hr.2.1
  unfold narStep at e
  simp only at e
  split at e
  · cases e
  rename_i hc
  cases e
  have m1 := meas_set ((k.getD r.a (0, 0)).1, min (k.getD r.a (0, 0)).2 ((k.getD r.b (0, 0)).2 - r.n)) k r.a hla
  have m2 := meas_set (max (k.getD r.b (0, 0)).1 ((k.getD r.a (0, 0)).1 + r.n), (k.getD r.b (0, 0)).2) (k.set r.a ((k.getD r.a (0, 0)).1, min (k.getD r.a (0, 0)).2 ((k.getD r.b (0, 0)).2 - r.n))) r.b (by simpa using hlb)
  rw [getD_set hla] at m2
  by_cases hab : r.a = r.b
  · rw [if_pos hab] at m2
    rw [hab] at hc m1 m2 ⊢
    rw [List.set_set] at m2 ⊢
    by_cases hq : max (k.getD r.b (0, 0)).1 ((k.getD r.b (0, 0)).1 + r.n) = (k.getD r.b (0, 0)).1
    · exact .inl (set_self hlb (by rw [hq]))
    · right
      simp only [wid] at m1 m2
      omega
  · rw [if_neg hab] at m2
    by_cases h1 : min (k.getD r.a (0, 0)).2 ((k.getD r.b (0, 0)).2 - r.n) = (k.getD r.a (0, 0)).2
    · have e1 : k.set r.a ((k.getD r.a (0, 0)).1, min (k.getD r.a (0, 0)).2 ((k.getD r.b (0, 0)).2 - r.n)) = k := set_self hla (by rw [h1])
      rw [e1] at m2 ⊢
      by_cases h2 : max (k.getD r.b (0, 0)).1 ((k.getD r.a (0, 0)).1 + r.n) = (k.getD r.b (0, 0)).1
      · exact .inl (set_self hlb (by rw [h2]))
      · right
        simp only [wid] at m2
        omega
    · right
      simp only [wid] at m1 m2
      omega
theorem narRound_in {rs : List Rule} : ∀ {k k' : List (Int × Int)}, InB k → (∀ r ∈ rs, RB r) → narRound k rs = some k' → InB k' ∧ (k' = k ∨ meas k' < meas k) := by
  induction rs with
  | nil => intro k k' h _ e; cases e; exact ⟨h, .inl rfl⟩
  | cons r rs ih =>
    intro k k' h hr e
    unfold narRound at e
    split at e
    · rename_i k1 h1
      obtain ⟨a1, a2⟩ := ih (h.step (hr r (by simp)) h1) (fun q hq => hr q (by simp [hq])) e
      refine ⟨a1, ?_⟩
      rcases narStep_meas h (hr r (by simp)) h1 with rfl | h2
      · exact a2
      · rcases a2 with rfl | a2
        · exact .inr h2
        · exact .inr (by omega)
    · cases e
def narRoundE : List (Int × Int) → List Rule → List (Int × Int) × Bool
  | k, [] => (k, true)
  | k, r :: rs => match narStep k r with
    | some k' => narRoundE k' rs
    | none => (k, false)
theorem roundE_some {k1 : List (Int × Int)} : ∀ {rs : List Rule} {k : List (Int × Int)}, narRoundE k rs = (k1, true) → narRound k rs = some k1
  | [], k, h => by simp only [narRoundE, Prod.mk.injEq, and_true] at h; rw [h]; rfl
  | r :: rs, k, h => by
    unfold narRoundE at h
    unfold narRound
    cases e : narStep k r with
    | none => rw [e] at h; simp at h
    | some k' => rw [e] at h; exact roundE_some h
def narF : Nat → List (Int × Int) → List Rule → List (Int × Int) × Bool
  | 0, k, _ => (k, true)
  | n + 1, k, rs => match narRoundE k rs with
    | (k1, false) => (k1, false)
    | (k1, true) => if k1 = k then (k, true) else narF n k1 rs
def nar (k : List (Int × Int)) (rs : List Rule) : List (Int × Int) × Bool := narF (meas k + 1) k rs
theorem narF_stable {rs : List Rule} (hr : ∀ r ∈ rs, RB r) : ∀ (n : Nat) {k : List (Int × Int)}, InB k → meas k < n → narF n k rs = nar k rs := by
  have key : ∀ (M n n' : Nat) {k : List (Int × Int)}, meas k ≤ M → InB k → meas k < n → meas k < n' → narF n k rs = narF n' k rs := by
    intro M
    induction M with
    | zero =>
      intro n n' k hM hk h1 h2
      obtain ⟨n, rfl⟩ : ∃ m, n = m + 1 := ⟨n - 1, by omega⟩
      obtain ⟨n', rfl⟩ : ∃ m, n' = m + 1 := ⟨n' - 1, by omega⟩
      unfold narF
      rcases hE : narRoundE k rs with ⟨k1, t⟩
      cases t with
      | false => rfl
      | true =>
        simp only
        rcases (narRound_in hk hr (roundE_some hE)).2 with rfl | h
        · simp
        · omega
    | succ M ih =>
      intro n n' k hM hk h1 h2
      obtain ⟨n, rfl⟩ : ∃ m, n = m + 1 := ⟨n - 1, by omega⟩
      obtain ⟨n', rfl⟩ : ∃ m, n' = m + 1 := ⟨n' - 1, by omega⟩
      unfold narF
      rcases hE : narRoundE k rs with ⟨k1, t⟩
      cases t with
      | false => rfl
      | true =>
        simp only
        obtain ⟨hk1, h⟩ := narRound_in hk hr (roundE_some hE)
        rcases h with rfl | h
        · simp
        · by_cases hq : k1 = k
          · simp [hq]
          · rw [if_neg hq, if_neg hq]
            exact ih n n' (by omega) hk1 (by omega) (by omega)
  intro n k hk h
  exact key (meas k) n (meas k + 1) (Nat.le_refl _) hk h (Nat.lt_succ_self _)
theorem nar_eq {rs : List Rule} (hr : ∀ r ∈ rs, RB r) {k : List (Int × Int)} (hk : InB k) : nar k rs = match narRoundE k rs with
    | (k1, false) => (k1, false)
    | (k1, true) => if k1 = k then (k, true) else nar k1 rs := by
  show narF (meas k + 1) k rs = _
  unfold narF
  rcases hE : narRoundE k rs with ⟨k1, t⟩
  cases t with
  | false => rfl
  | true =>
    simp only
    obtain ⟨hk1, h⟩ := narRound_in hk hr (roundE_some hE)
    by_cases hq : k1 = k
    · simp [hq]
    · rw [if_neg hq, if_neg hq]
      rcases h with h | h
      · exact absurd h hq
      · exact narF_stable hr _ hk1 h
theorem reifyLs_kc {hp : Nat → Ob} (k : List (Int × Int)) : reifyLs hp (kc k) = some (kc k, []) := by
  induction k with
  | nil => rfl
  | cons p k ih => simp only [kc, reifyLs_cons, reify_int, Option.bind_some, ih, Option.map_some, List.nil_append]
attribute [go_sem] reifyLs_kc
end Go.Proofs
namespace Go.Proofs
open Go Go.Idl
set_option linter.unusedSimpArgs false
variable {b : Bool}
theorem narrowed_to {k : List (Int × Int)} {rs : List Rule} {o : Option Bool} (hk : InB k) (hr : ∀ r ∈ rs, RB r) (hlen : rs.length ≤ 1000000) :
    Ans Tryd.prog (AA b) 36 [.agg (kc k), SL 3 (rs.map encR) o] (fun v => v = .tup [.agg (kc (nar k rs).1), .bool (nar k rs).2]) := by
  refine Ans_of Tryd.func36 rfl rfl ?_
  have hl := hk.1
  simp only [go_sem, ↓reduceIte, Nat.reduceEqDiff, Nat.reduceAdd, Nat.reduceMul, Nat.reduceLeDiff, Nat.reduceBEq, bne, reduceCtorEq, kc_length, hl, List.length_replicate]
  refine wp_loop_I (fun k' s => InB k' ∧ nar k' rs = nar k rs ∧ ∃ ex, s = { sl := (1, SL 3 (rs.map encR) o) :: (2, .loc (.agg (kc k'))) :: (4, .loc (.agg (kc (List.replicate 20 (0, 0))))) :: ex, hp := noHeap, nx := 0 }) meas ?_ k ⟨hk, rfl, [], rfl⟩
  rintro k' s ⟨hk', hn, ex, rfl⟩
  have hl' := hk'.1
  simp only [go_sem, ↓reduceIte, Nat.reduceEqDiff, Nat.reduceAdd, Nat.reduceMul, Nat.reduceLeDiff, Nat.reduceBEq, bne, reduceCtorEq, kc_length, hl', List.length_replicate, sub_kc_all, put_kc_all]
  refine wp_loop_to rs.length (fun i s => ∃ k1, InB k1 ∧ narRoundE k1 (rs.drop i) = narRoundE k' rs ∧ s = { sl := [(1, SL 3 (rs.map encR) o), (2, .loc (.agg (kc k1))), (4, .loc (.agg (kc (List.replicate 20 (0, 0))))), (6, .loc (.agg (kc k'))), (12, SL 3 (rs.map encR) o), (13, I rs.length), (14, I i)], hp := noHeap, nx := 0 })
    ?_ 0 (Nat.zero_le _) ⟨k', hk', rfl, by simp⟩
  rintro i s hi ⟨k1, hk1, hn1, rfl⟩
  have hl1 := hk1.1
  by_cases hc : i < rs.length
  · obtain ⟨r, hr1⟩ : ∃ r, rs[i]? = some r := ⟨rs[i], List.getElem?_eq_getElem hc⟩
    have hrb := hr r (List.mem_of_getElem? hr1)
    have hd : rs.drop i = r :: rs.drop (i + 1) := by
      obtain ⟨h1, h2⟩ := List.getElem?_eq_some_iff.1 hr1
      rw [List.drop_eq_getElem_cons h1, h2]
    have hci : ((i : Int) < (rs.length : Int)) := by omega
    have hix : ∀ (m : Mem) (eb : Nat) (ez : Vl), indexAddrV (.slice 3 eb ez) (.v (SL 3 (rs.map encR) o)) (.int .i64 (i : Int)) m = some (.v (.fp (encR r) 0), m) := fun m eb ez => by
      rw [indexAddr_SL (by simp; omega) (by decide)]
      simp [List.getD_eq_getElem?_getD, hr1]
    have hia : ∀ (m : Mem) (a : Arg), indexAddrV (.array 20 2 (some true)) a (.int .i64 (r.a : Int)) m = (Arg.shift (r.a * 2) a).map fun a => (a, m) := fun m a => indexAddr_arr (by have := hrb.1; omega) (by decide)
    have hib : ∀ (m : Mem) (a : Arg), indexAddrV (.array 20 2 (some true)) a (.int .i64 (r.b : Int)) m = (Arg.shift (r.b * 2) a).map fun a => (a, m) := fun m a => indexAddr_arr (by have := hrb.2.1; omega) (by decide)
    have ha := hk1.get r.a hrb.1
    have hb := hk1.get r.b hrb.2.1
    have hnn := hrb.2.2
    have hw1 : IntKind.wrap .i64 ((k1.getD r.a (0, 0)).1 + r.n) = (k1.getD r.a (0, 0)).1 + r.n := wrap_i64 (by omega) (by omega)
    have hw2 : IntKind.wrap .i64 ((k1.getD r.b (0, 0)).2 - r.n) = (k1.getD r.b (0, 0)).2 - r.n := wrap_i64 (by omega) (by omega)
    have hsa := sub_kc (ks := k1) (i := r.a) (by rw [hl1]; exact hrb.1)
    have hsb := sub_kc (ks := k1) (i := r.b) (by rw [hl1]; exact hrb.2.1)
    simp only [go_sem, ↓reduceIte, Nat.reduceEqDiff, Nat.reduceAdd, Nat.reduceMul, Nat.reduceLeDiff, Nat.reduceBEq, bne, reduceCtorEq, kc_length, hl1, hci, hix, encR]
    refine wp_draw (ps := [(5, 10), (6, 10), (7, 10)]) (by kernel_rfl) (by kernel_rfl) rfl ?_
    simp only [go_sem, ↓reduceIte, Nat.reduceEqDiff, Nat.reduceAdd, Nat.reduceMul, Nat.reduceLeDiff, Nat.reduceBEq, bne, reduceCtorEq, kc_length, hl1, hci, hix, hia, hib, hsa, hsb, Nat.reduceLT, hw1, hw2]
    refine wp_draw (ps := [(9, 7), (11, 7), (13, 7)]) (by kernel_rfl) (by kernel_rfl) rfl ?_
    simp only [go_sem, ↓reduceIte, Nat.reduceEqDiff, Nat.reduceAdd, Nat.reduceMul, Nat.reduceLeDiff, Nat.reduceLT, Nat.reduceBEq, bne, reduceCtorEq, kc_length, hl1, hci, hix, hia, hib, hsa, hsb, hw1, hw2]
    have hsk := sub_kc_all hl1
    have hpk := put_kc_all (ks := List.replicate 20 (0, 0)) (ks' := k1) rfl hl1
    have hno : ∀ p : Prop, (narStep k1 r = none → p) → (∀ k2, narStep k1 r = some k2 → p) → p := fun p h1 h2 => by
      cases h : narStep k1 r with
      | none => exact h1 h
      | some k2 => exact h2 k2 h
    have hdead : narStep k1 r = none → nar k rs = (k1, false) := fun h => by
      rw [← hn, nar_eq hr hk', ← hn1, hd]
      unfold narRoundE
      rw [h]
    by_cases c1 : min (k1.getD r.a (0, 0)).2 ((k1.getD r.b (0, 0)).2 - r.n) < (k1.getD r.a (0, 0)).1
    · simp only [go_sem, ↓reduceIte, Nat.reduceEqDiff, Nat.reduceAdd, Nat.reduceMul, Nat.reduceLeDiff, Nat.reduceLT, Nat.reduceBEq, bne, reduceCtorEq, kc_length, hl1, hci, hix, hia, hib, hsa, hsb, hw1, hw2, c1, hsk, hpk]
      have := hdead (by unfold narStep; simp only; rw [if_pos (.inl c1)])
      rw [this]
    · by_cases c2 : (k1.getD r.b (0, 0)).2 < max (k1.getD r.b (0, 0)).1 ((k1.getD r.a (0, 0)).1 + r.n)
      · simp only [go_sem, ↓reduceIte, Nat.reduceEqDiff, Nat.reduceAdd, Nat.reduceMul, Nat.reduceLeDiff, Nat.reduceLT, Nat.reduceBEq, bne, reduceCtorEq, kc_length, hl1, hci, hix, hia, hib, hsa, hsb, hw1, hw2, c1, c2, hsk, hpk]
        have := hdead (by unfold narStep; simp only; rw [if_pos (.inr c2)])
        rw [this]
      · simp only [go_sem, ↓reduceIte, Nat.reduceEqDiff, Nat.reduceAdd, Nat.reduceMul, Nat.reduceLeDiff, Nat.reduceLT, Nat.reduceBEq, bne, reduceCtorEq, kc_length, hl1, hci, hix, hia, hib, hsa, hsb, hw1, hw2, c1, c2]
        refine wp_draw (ps := [(3, 7), (5, 7)]) (by kernel_rfl) (by kernel_rfl) rfl ?_
        have hp1 := put_kc (ks := k1) (i := r.a) (a := (k1.getD r.a (0, 0)).1) (b := min (k1.getD r.a (0, 0)).2 ((k1.getD r.b (0, 0)).2 - r.n)) (by rw [hl1]; exact hrb.1)
        have hp2 := put_kc (ks := k1.set r.a ((k1.getD r.a (0, 0)).1, min (k1.getD r.a (0, 0)).2 ((k1.getD r.b (0, 0)).2 - r.n))) (i := r.b) (a := max (k1.getD r.b (0, 0)).1 ((k1.getD r.a (0, 0)).1 + r.n)) (b := (k1.getD r.b (0, 0)).2) (by simp only [List.length_set, hl1]; exact hrb.2.1)
        have hwi : IntKind.wrap .i64 ((i : Int) + 1) = ((i + 1 : Nat) : Int) := by rw [wrap_i64 (by omega) (by omega)]; omega
        simp only [go_sem, ↓reduceIte, Nat.reduceEqDiff, Nat.reduceAdd, Nat.reduceMul, Nat.reduceLeDiff, Nat.reduceLT, Nat.reduceBEq, bne, reduceCtorEq, kc_length, hl1, hci, hix, hia, hib, hsa, hsb, hw1, hw2, hp1, hp2, hwi]
        have hst : narStep k1 r = some ((k1.set r.a ((k1.getD r.a (0, 0)).1, min (k1.getD r.a (0, 0)).2 ((k1.getD r.b (0, 0)).2 - r.n))).set r.b (max (k1.getD r.b (0, 0)).1 ((k1.getD r.a (0, 0)).1 + r.n), (k1.getD r.b (0, 0)).2)) := by
          unfold narStep; simp only; rw [if_neg (by intro h; rcases h with h | h <;> omega)]
        refine ⟨hc, _, hk1.step hrb hst, ?_, rfl⟩
        rw [← hn1, hd]
        conv => rhs; unfold narRoundE
        rw [hst]
  · have hci : ¬ ((i : Int) < (rs.length : Int)) := by omega
    have hie : rs.drop i = [] := List.drop_eq_nil_of_le (by omega)
    rw [hie] at hn1
    have hn1 : narRoundE k' rs = (k1, true) := hn1.symm
    have hs1 := sub_kc_all hl1
    have hs2 := sub_kc_all hl'
    have hpk := put_kc_all (ks := List.replicate 20 (0, 0)) (ks' := k1) rfl hl1
    have hnk := nar_eq hr hk'
    rw [hn1] at hnk
    simp only at hnk
    by_cases hq : k1 = k'
    · subst hq
      simp only [go_sem, ↓reduceIte, Nat.reduceEqDiff, Nat.reduceAdd, Nat.reduceMul, Nat.reduceLeDiff, Nat.reduceLT, Nat.reduceBEq, bne, reduceCtorEq, kc_length, hl1, hci, hs1, hpk, bin_eq_kc]
      rw [if_pos rfl] at hnk
      rw [← hn, hnk]
    · simp only [go_sem, ↓reduceIte, Nat.reduceEqDiff, Nat.reduceAdd, Nat.reduceMul, Nat.reduceLeDiff, Nat.reduceLT, Nat.reduceBEq, bne, reduceCtorEq, kc_length, hl1, hl', hci, hs1, hs2, hpk, bin_eq_kc, hq]
      rw [if_neg hq] at hnk
      refine ⟨k1, ⟨hk1, by rw [← hn, hnk], _, rfl⟩, ?_⟩
      rcases (narRound_in hk' hr (roundE_some hn1)).2 with h | h
      · exact absurd h hq
      · exact h
end Go.Proofs
namespace Go.Proofs
open Go Go.Idl
def unkc : List Vl → Option (List (Int × Int))
  | [] => some []
  | .int .i64 a :: .int .i64 b :: r => (unkc r).map ((a, b) :: ·)
  | _ => none
def unR : Vl → Option Rule
  | .agg [.int .i64 a, .int .i64 b, .int .i64 n] => if 0 ≤ a ∧ a < 20 ∧ 0 ≤ b ∧ b < 20 ∧ -100000 ≤ n ∧ n ≤ 100000 then some ⟨a.toNat, b.toNat, n⟩ else none
  | _ => none
def slEls (e : Nat) : Vl → Option (List Vl)
  | .nils => some []
  | .lst e' xs _ => if e' = e then some xs else none
  | _ => none
def narV : List Vl → Option Vl
  | [.agg cs, v] => (unkc cs).bind fun k => (slEls 3 v).bind fun ls => (mapO unR ls).bind fun rs =>
      if k.length = 20 ∧ (k.all fun p => decide (-100000 ≤ p.1 ∧ p.1 ≤ p.2 ∧ p.2 ≤ 100000)) = true ∧ rs.length ≤ 1000 then
        let q := nar k rs
        some (.tup [.agg (kc q.1), .bool q.2]) else none
  | _ => none
def extN (g : Nat) : Option (List Vl → Option Vl) := if g = 36 then some narV else none
noncomputable abbrev AN : Ann := mkAnn locT keepT ghoT finT heapT extN
end Go.Proofs
