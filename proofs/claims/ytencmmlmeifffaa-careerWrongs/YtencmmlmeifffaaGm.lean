/- What functions of the given program do in the ideal machine (G43, G44), and the plain laws of what they answer; the conditions stand in each theorem. -/
import Derived.Test.YtencmmlmeifffaaGi
set_option linter.all false
set_option linter.unusedSectionVars false
set_option linter.unusedSimpArgs false
set_option linter.unusedVariables false
namespace Go.Proofs
open Go Go.Idl
set_option linter.unusedSimpArgs false
variable {b : Bool}
def pad (k : Kn) : Kn := k ++ List.replicate (20 - k.length) (0, 0)
section
variable {k : Kn} {rs : List Rule} {m : Nat}
theorem pad_len (h : k.length ≤ 20) : (pad k).length = 20 := by unfold pad; rw [List.length_append, List.length_replicate]; omega
theorem pad_getD (i : Nat) : (pad k).getD i (0, 0) = k.getD i (0, 0) := by
  unfold pad
  rw [List.getD_eq_getElem?_getD, List.getD_eq_getElem?_getD]
  by_cases h : i < k.length
  · rw [List.getElem?_append_left h]
  · rw [List.getElem?_append_right (by omega), List.getElem?_eq_none (l := k) (by omega), List.getElem?_replicate]
    split <;> rfl
theorem pad_set {i : Nat} {p : Int × Int} (h : i < k.length) : (pad k).set i p = pad (k.set i p) := by
  unfold pad
  rw [List.set_append_left _ _ h, List.length_set]
theorem pad_inj {k' : Kn} (h : k.length = k'.length) : pad k = pad k' ↔ k = k' := by
  refine ⟨fun e => ?_, fun e => by rw [e]⟩
  unfold pad at e
  exact (List.append_inj e h).1
theorem pad_step {x : Rule} (ha : x.a < k.length) (hb : x.b < k.length) : narStep (pad k) x = (narStep k x).map pad := by
  unfold narStep
  simp only [pad_getD]
  split
  · rfl
  · rw [Option.map_some, pad_set ha, pad_set (by rw [List.length_set]; exact hb)]
theorem step_len {x : Rule} {k' : Kn} (h : narStep k x = some k') : k'.length = k.length := by
  unfold narStep at h
  simp only at h
  split at h
  · cases h
  · injection h with h
    rw [← h, List.length_set, List.length_set]
theorem pad_round : ∀ {rs : List Rule} {k : Kn}, (∀ x ∈ rs, x.a < k.length ∧ x.b < k.length) → narRoundE (pad k) rs = (pad (narRoundE k rs).1, (narRoundE k rs).2) ∧ (narRoundE k rs).1.length = k.length
  | [], k, _ => ⟨rfl, rfl⟩
  | x :: rs, k, h => by
    obtain ⟨ha, hb⟩ := h x List.mem_cons_self
    unfold narRoundE
    rw [pad_step ha hb]
    cases e : narStep k x with
    | none => exact ⟨rfl, rfl⟩
    | some k' =>
      have hl := step_len e
      have := pad_round (rs := rs) (k := k') fun y hy => by rw [hl]; exact h y (List.mem_cons_of_mem _ hy)
      exact ⟨this.1, this.2.trans hl⟩
theorem pad_narF : ∀ (n : Nat) {k : Kn}, (∀ x ∈ rs, x.a < k.length ∧ x.b < k.length) → narF n (pad k) rs = (pad (narF n k rs).1, (narF n k rs).2) ∧ (narF n k rs).1.length = k.length
  | 0, k, _ => ⟨rfl, rfl⟩
  | n + 1, k, h => by
    obtain ⟨h1, h2⟩ := pad_round h
    unfold narF
    rw [h1]
    generalize narRoundE k rs = p at h1 h2 ⊢
    obtain ⟨k1, t⟩ := p
    cases t with
    | false => exact ⟨rfl, h2⟩
    | true =>
      simp only at h2 ⊢
      by_cases e : k1 = k
      · rw [if_pos e, if_pos (by rw [e])]; exact ⟨rfl, rfl⟩
      · rw [if_neg e, if_neg fun e' => e ((pad_inj h2).1 e')]
        have := pad_narF n (k := k1) fun x hx => by rw [h2]; exact h x hx
        exact ⟨this.1, this.2.trans h2⟩
theorem pad_meas : meas (pad k) = meas k := by
  unfold meas pad
  rw [List.map_append, List.sum_append, List.map_replicate]
  have : ∀ n : Nat, (List.replicate n (wid (0, 0))).sum = 0 := fun n => by
    induction n with
    | zero => rfl
    | succ n ih => rw [List.replicate_succ, List.sum_cons, ih]; rfl
  rw [this]; rfl
theorem pad_nar (h : ∀ x ∈ rs, x.a < k.length ∧ x.b < k.length) : nar (pad k) rs = (pad (nar k rs).1, (nar k rs).2) ∧ (nar k rs).1.length = k.length := by
  unfold nar
  rw [pad_meas]
  exact pad_narF _ h
end
def joinK (f k : Kn) : Kn := List.zipWith (fun p q => (min p.1 q.1, max p.2 q.2)) f k
def refAll : List (List (List Rule)) → Kn → List Rule → Kn × Bool
  | [], k, rs => nar k rs
  | w :: ws, k, rs => if (nar k rs).2 = false then ([], false) else
    w.foldl (fun st alt => let x := refAll ws (nar k rs).1 (rs ++ alt); if x.2 = false then st else if st.2 = false then x else (joinK st.1 x.1, true)) ([], false)
structure KB (k : Kn) (m : Nat) : Prop where
  len : k.length = m
  le : m ≤ 20
  ok : ∀ p ∈ k, -100000 ≤ p.1 ∧ p.1 ≤ p.2 ∧ p.2 ≤ 100000
def RBm (m : Nat) (x : Rule) : Prop := x.a < m ∧ x.b < m ∧ -100000 ≤ x.n ∧ x.n ≤ 100000
section
variable {k : Kn} {rs : List Rule} {m : Nat}
theorem KB.pad (h : KB k m) : InB (pad k) := by
  refine ⟨pad_len (by rw [h.len]; exact h.le), fun p hp => ?_⟩
  unfold Go.Proofs.pad at hp
  rcases List.mem_append.1 hp with hp | hp
  · exact h.ok p hp
  · rw [(List.mem_replicate.1 hp).2]; decide
theorem RBm.rb {x : Rule} (h : RBm m x) (hm : m ≤ 20) : RB x := ⟨Nat.lt_of_lt_of_le h.1 hm, Nat.lt_of_lt_of_le h.2.1 hm, h.2.2⟩
theorem KB.nar (h : KB k m) (hr : ∀ x ∈ rs, RBm m x) : KB (nar k rs).1 m ∧ nar (Go.Proofs.pad k) rs = (Go.Proofs.pad (Go.Proofs.nar k rs).1, (Go.Proofs.nar k rs).2) := by
  obtain ⟨h1, h2⟩ := pad_nar (k := k) (rs := rs) fun x hx => ⟨by rw [h.len]; exact (hr x hx).1, by rw [h.len]; exact (hr x hx).2.1⟩
  have hI := InB_nar h.pad fun x hx => (hr x hx).rb h.le
  rw [h1] at hI
  refine ⟨⟨h2.trans h.len, h.le, fun p hp => hI.2 p ?_⟩, h1⟩
  unfold Go.Proofs.pad
  exact List.mem_append_left _ hp
theorem joinK_len {f k : Kn} (h : f.length = k.length) : (joinK f k).length = k.length := by unfold joinK; rw [List.length_zipWith, h, Nat.min_self]
theorem joinK_get {f k : Kn} {i : Nat} (h : f.length = k.length) (hi : i < k.length) : (joinK f k).getD i (0, 0) = (min (f.getD i (0, 0)).1 (k.getD i (0, 0)).1, max (f.getD i (0, 0)).2 (k.getD i (0, 0)).2) := by
  rw [getD_get! (by rw [joinK_len h]; exact hi), getD_get! (by omega), getD_get! hi, get!_eq (by rw [joinK_len h]; exact hi), get!_eq (by omega), get!_eq hi]
  unfold joinK
  rw [List.getElem_zipWith]
structure HullT (T : (Nat → Int) → Prop) (m : Nat) (st : Kn × Bool) : Prop where
  ex : st.2 = true ↔ ∃ t, T t
  len : st.2 = true → st.1.length = m
  ok : st.2 = true → ∀ p ∈ st.1, -100000 ≤ p.1 ∧ p.1 ≤ p.2 ∧ p.2 ≤ 100000
  ends : st.2 = true → ∀ i, i < m → (∃ t, T t ∧ t i = (st.1.getD i (0, 0)).1) ∧ ∃ t, T t ∧ t i = (st.1.getD i (0, 0)).2
  hull : st.2 = true → ∀ t, T t → ∀ i, i < m → (st.1.getD i (0, 0)).1 ≤ t i ∧ t i ≤ (st.1.getD i (0, 0)).2
theorem HullT.congr {T T' : (Nat → Int) → Prop} {st : Kn × Bool} (h : HullT T m st) (e : ∀ t, T' t ↔ T t) : HullT T' m st := by
  have : T' = T := funext fun t => propext (e t)
  rw [this]; exact h
theorem HullT.join {T U : (Nat → Int) → Prop} {f k : Kn} (hf : HullT T m (f, true)) (hk : HullT U m (k, true)) : HullT (fun t => T t ∨ U t) m (joinK f k, true) := by
  have lf := hf.len rfl
  have lk := hk.len rfl
  have l : f.length = k.length := lf.trans lk.symm
  have hg : ∀ i, i < m → (joinK f k).getD i (0, 0) = (min (f.getD i (0, 0)).1 (k.getD i (0, 0)).1, max (f.getD i (0, 0)).2 (k.getD i (0, 0)).2) := fun i hi => joinK_get l (by rw [lk]; exact hi)
  refine ⟨⟨fun _ => ?_, fun _ => rfl⟩, fun _ => (joinK_len l).trans lk, fun _ p hp => ?_, fun _ i hi => ?_, fun _ t ht i hi => ?_⟩
  · obtain ⟨t, ht⟩ := hf.ex.1 rfl
    exact ⟨t, .inl ht⟩
  · obtain ⟨i, hi, rfl⟩ := List.getElem_of_mem hp
    rw [joinK_len l] at hi
    have e := hg i (by rw [← lk]; exact hi)
    rw [getD_get! (by rw [joinK_len l]; exact hi), get!_eq (by rw [joinK_len l]; exact hi)] at e
    rw [e]
    have a1 : -100000 ≤ (f[i]!).1 ∧ (f[i]!).1 ≤ (f[i]!).2 ∧ (f[i]!).2 ≤ 100000 := hf.ok rfl _ (get!_mem (show i < f.length by omega))
    have a2 : -100000 ≤ (k[i]!).1 ∧ (k[i]!).1 ≤ (k[i]!).2 ∧ (k[i]!).2 ≤ 100000 := hk.ok rfl _ (get!_mem hi)
    rw [getD_get! (show i < f.length by omega), getD_get! hi]
    simp only
    omega
  · obtain ⟨⟨t1, h1, e1⟩, t2, h2, e2⟩ := hf.ends rfl i hi
    obtain ⟨⟨u1, g1, d1⟩, u2, g2, d2⟩ := hk.ends rfl i hi
    rw [hg i hi]
    simp only at e1 e2 d1 d2 ⊢
    constructor
    · by_cases c : (f.getD i (0, 0)).1 ≤ (k.getD i (0, 0)).1
      · exact ⟨t1, .inl h1, by omega⟩
      · exact ⟨u1, .inr g1, by omega⟩
    · by_cases c : (f.getD i (0, 0)).2 ≤ (k.getD i (0, 0)).2
      · exact ⟨u2, .inr g2, by omega⟩
      · exact ⟨t2, .inl h2, by omega⟩
  · rw [hg i hi]
    simp only
    rcases ht with ht | ht
    · have := hf.hull rfl t ht i hi; simp only at this; omega
    · have := hk.hull rfl t ht i hi; simp only at this; omega
theorem trF_nar (h : KB k m) (hr : ∀ x ∈ rs, RBm m x) {ws : List (List (List Rule))} {t : Nat → Int} : TrF (pad k) rs ws t ↔ (Go.Proofs.nar k rs).2 = true ∧ TrF (pad (Go.Proofs.nar k rs).1) rs ws t := by
  have hrb : ∀ x ∈ rs, RB x := fun x hx => (hr x hx).rb h.le
  have e := (h.nar hr).2
  constructor
  · rintro ⟨h1, h2, h3⟩
    have := h1.nar h.pad hrb h2
    rw [e] at this
    exact ⟨this.1, this.2, h2, h3⟩
  · rintro ⟨_, h1, h2, h3⟩
    refine ⟨nar_sub h.pad hrb ?_, h2, h3⟩
    rw [e]; exact h1
theorem refAll_hull : ∀ {ws : List (List (List Rule))} {k : Kn} {rs : List Rule}, KB k m → (∀ x ∈ rs, RBm m x) → (∀ w ∈ ws, ∀ alt ∈ w, ∀ x ∈ alt, RBm m x) → HullT (TrF (pad k) rs ws) m (refAll ws k rs)
  | [], k, rs, hk, hr, _ => by
    have hrb : ∀ x ∈ rs, RB x := fun x hx => (hr x hx).rb hk.le
    obtain ⟨hn, e⟩ := hk.nar hr
    have hin : ∀ t, TrF (pad k) rs [] t → (nar k rs).2 = true ∧ InT (pad (nar k rs).1) t := fun t ht => by
      have := (trF_nar hk hr).1 ht
      exact ⟨this.1, this.2.1⟩
    have hends : (nar k rs).2 = true → TrF (pad k) rs [] (lowT (pad (nar k rs).1)) ∧ TrF (pad k) rs [] (highT (pad (nar k rs).1)) := fun h => by
      have hs := nar_ends hk.pad hrb (by rw [e]; exact h)
      rw [e] at hs
      exact ⟨(trF_nar hk hr).2 ⟨h, inT_low hn.pad, fun x hx => (hs x hx).1, fun w hw => by cases hw⟩, (trF_nar hk hr).2 ⟨h, inT_high hn.pad, fun x hx => (hs x hx).2, fun w hw => by cases hw⟩⟩
    unfold refAll
    refine ⟨⟨fun h => ⟨_, (hends h).1⟩, fun ⟨t, ht⟩ => (hin t ht).1⟩, fun _ => hn.len, fun _ => hn.ok, fun h i hi => ⟨⟨_, (hends h).1, ?_⟩, _, (hends h).2, ?_⟩, fun h t ht i hi => ?_⟩
    · unfold lowT; rw [pad_getD]
    · unfold highT; rw [pad_getD]
    · have := (hin t ht).2 i (by have := hk.le; omega)
      rw [pad_getD] at this; exact this
  | w :: ws, k, rs, hk, hr, hw => by
    obtain ⟨hn, e⟩ := hk.nar hr
    unfold refAll
    by_cases h : (nar k rs).2 = false
    · rw [if_pos h]
      have hno : ∀ t, ¬ TrF (pad k) rs (w :: ws) t := fun t ht => by
        have := ((trF_nar hk hr).1 ht).1
        rw [h] at this; cases this
      exact ⟨⟨fun e => (by cases e), fun ⟨t, ht⟩ => absurd ht (hno t)⟩, fun e => (by cases e), fun e => (by cases e), fun e => (by cases e), fun e => (by cases e)⟩
    · rw [if_neg h]
      have ht : (nar k rs).2 = true := by cases e : (nar k rs).2 with | true => rfl | false => exact absurd e h
      have key : ∀ (w' : List (List Rule)) (T : (Nat → Int) → Prop) (st : Kn × Bool), (∀ alt ∈ w', ∀ x ∈ alt, RBm m x) → HullT T m st →
          HullT (fun t => T t ∨ ∃ alt ∈ w', TrF (pad (nar k rs).1) (rs ++ alt) ws t) m (w'.foldl (fun st alt => let x := refAll ws (nar k rs).1 (rs ++ alt); if x.2 = false then st else if st.2 = false then x else (joinK st.1 x.1, true)) st) := by
        intro w'
        induction w' with
        | nil =>
          intro T st _ hst
          exact hst.congr fun t => ⟨fun h => h.elim id fun ⟨a, ha, _⟩ => (by cases ha), .inl⟩
        | cons a w' ih =>
          intro T st hb hst
          have hrec := refAll_hull (ws := ws) (k := (nar k rs).1) (rs := rs ++ a) hn (fun x hx => (List.mem_append.1 hx).elim (hr x) (hb a List.mem_cons_self x)) fun w2 h2 => hw w2 (List.mem_cons_of_mem _ h2)
          rw [List.foldl_cons]
          have hstep : HullT (fun t => T t ∨ TrF (pad (nar k rs).1) (rs ++ a) ws t) m (let x := refAll ws (nar k rs).1 (rs ++ a); if x.2 = false then st else if st.2 = false then x else (joinK st.1 x.1, true)) := by
            simp only
            generalize refAll ws (nar k rs).1 (rs ++ a) = x at hrec ⊢
            by_cases hx : x.2 = false
            · rw [if_pos hx]
              have hno : ∀ t, ¬ TrF (pad (nar k rs).1) (rs ++ a) ws t := fun t ht => by
                have := hrec.ex.2 ⟨t, ht⟩
                rw [hx] at this; cases this
              exact hst.congr fun t => ⟨fun h => h.elim id fun h => absurd h (hno t), .inl⟩
            · rw [if_neg hx]
              by_cases hs : st.2 = false
              · rw [if_pos hs]
                have hno : ∀ t, ¬ T t := fun t ht => by
                  have := hst.ex.2 ⟨t, ht⟩
                  rw [hs] at this; cases this
                exact hrec.congr fun t => ⟨fun h => h.elim (fun h => absurd h (hno t)) id, .inr⟩
              · rw [if_neg hs]
                obtain ⟨f, fb⟩ := st
                obtain ⟨g, gb⟩ := x
                have : fb = true := by cases fb with | true => rfl | false => exact absurd rfl hs
                subst this
                have : gb = true := by cases gb with | true => rfl | false => exact absurd rfl hx
                subst this
                exact hst.join hrec
          refine (ih _ _ (fun alt ha => hb alt (List.mem_cons_of_mem _ ha)) hstep).congr fun t => ?_
          constructor
          · rintro (h | ⟨alt, ha, h⟩)
            · exact .inl (.inl h)
            · rcases List.mem_cons.1 ha with rfl | ha
              · exact .inl (.inr h)
              · exact .inr ⟨alt, ha, h⟩
          · rintro ((h | h) | ⟨alt, ha, h⟩)
            · exact .inl h
            · exact .inr ⟨a, List.mem_cons_self, h⟩
            · exact .inr ⟨alt, List.mem_cons_of_mem _ ha, h⟩
      have h0 : HullT (fun _ => False) m (([], false) : Kn × Bool) := ⟨⟨fun e => (by cases e), fun ⟨_, h⟩ => h.elim⟩, fun e => (by cases e), fun e => (by cases e), fun e => (by cases e), fun e => (by cases e)⟩
      refine (key w _ _ (hw w List.mem_cons_self) h0).congr fun t => ?_
      rw [trF_nar hk hr]
      constructor
      · rintro ⟨_, h1, h2, h3⟩
        obtain ⟨alt, ha, h4⟩ := h3 w List.mem_cons_self
        exact .inr ⟨alt, ha, h1, fun x hx => (List.mem_append.1 hx).elim (h2 x) (h4 x), fun w' hw' => h3 w' (List.mem_cons_of_mem _ hw')⟩
      · rintro (h | ⟨alt, ha, h1, h2, h3⟩)
        · exact h.elim
        · refine ⟨ht, h1, fun x hx => h2 x (List.mem_append_left _ hx), fun w' hw' => ?_⟩
          rcases List.mem_cons.1 hw' with rfl | hw'
          · exact ⟨alt, ha, fun x hx => h2 x (List.mem_append_right _ hx)⟩
          · exact h3 w' hw'
end
end Go.Proofs
namespace Go.Proofs
open Go Go.Idl
set_option linter.unusedSimpArgs false
variable {b : Bool}
def fixMan (r : Roll) (i : Nat) : List Rule := [⟨i, r.ms.length + i, 0⟩, ⟨r.ms.length + i, i, -r.life⟩]
def fixGap (r : Roll) (i k : Nat) : List Rule :=
  if r.cs[k]!.kin = false ∧ r.cs[k]!.man = r.cs[i]!.man ∧ 0 ≤ r.cs[i]!.office ∧ r.cs[i]!.office < r.cs[k]!.office then [⟨2 * r.ms.length + i, 2 * r.ms.length + k, r.os[r.cs[k]!.office.toNat]!.gap⟩] else []
def ageL (r : Roll) (i : Nat) : Int := if 0 ≤ r.cs[i]!.office then r.os[r.cs[i]!.office.toNat]!.age else 0
def fixRec (r : Roll) (i : Nat) : List Rule :=
  if r.cs[i]!.kin = true then [⟨r.cs[i]!.man.toNat, r.cs[i]!.child.toNat, r.plo⟩, ⟨r.cs[i]!.child.toNat, r.cs[i]!.man.toNat, -r.phi⟩, ⟨r.cs[i]!.child.toNat, r.ms.length + r.cs[i]!.man.toNat, -1⟩]
  else [⟨r.cs[i]!.man.toNat, 2 * r.ms.length + i, ageL r i⟩, ⟨2 * r.ms.length + i, r.ms.length + r.cs[i]!.man.toNat, 0⟩] ++ ((List.range r.cs.length).map (fixGap r i)).flatten
def fixedTo (r : Roll) (n q : Nat) : List Rule := ((List.range n).map (fixMan r)).flatten ++ ((List.range q).map (fixRec r)).flatten
def fixedL (r : Roll) : List Rule := fixedTo r r.ms.length r.cs.length
def chPair (r : Roll) (i k : Nat) : List (List (List Rule)) :=
  if r.cs[i]!.kin = true ∨ r.cs[k]!.kin = true ∨ r.cs[i]!.man ≠ r.cs[k]!.man then []
  else if 0 ≤ r.cs[i]!.office ∧ r.cs[i]!.office = r.cs[k]!.office then
    [[[⟨2 * r.ms.length + i, 2 * r.ms.length + k, r.os[r.cs[i]!.office.toNat]!.again⟩], [⟨2 * r.ms.length + k, 2 * r.ms.length + i, r.os[r.cs[i]!.office.toNat]!.again⟩]] ++ (if (r.fs[r.cs[i]!.town.toNat]!)[r.cs[k]!.town.toNat]! = true then [] else [[⟨2 * r.ms.length + i, 2 * r.ms.length + k, 0⟩, ⟨2 * r.ms.length + k, 2 * r.ms.length + i, 0⟩]])]
  else if (r.fs[r.cs[i]!.town.toNat]!)[r.cs[k]!.town.toNat]! = true then [[[⟨2 * r.ms.length + i, 2 * r.ms.length + k, 1⟩], [⟨2 * r.ms.length + k, 2 * r.ms.length + i, 1⟩]]]
  else []
def chRow (r : Roll) (i n : Nat) : List (List (List Rule)) := ((List.range (n - (i + 1))).map fun k => chPair r i (i + 1 + k)).flatten
def refChTo (r : Roll) (n : Nat) : List (List (List Rule)) := ((List.range n).map fun i => chRow r i r.cs.length).flatten
def refCh (r : Roll) : List (List (List Rule)) := refChTo r r.cs.length
section
variable {r : Roll} {t : Nat → Int}
theorem mem_fixed {x : Rule} : x ∈ fixedL r ↔ (∃ i, i < r.ms.length ∧ x ∈ fixMan r i) ∨ ∃ i, i < r.cs.length ∧ x ∈ fixRec r i := by
  unfold fixedL fixedTo
  simp only [List.mem_append, List.mem_flatten, List.mem_map, List.mem_range]
  constructor
  · rintro (⟨_, ⟨i, hi, rfl⟩, h⟩ | ⟨_, ⟨i, hi, rfl⟩, h⟩)
    · exact .inl ⟨i, hi, h⟩
    · exact .inr ⟨i, hi, h⟩
  · rintro (⟨i, hi, h⟩ | ⟨i, hi, h⟩)
    · exact .inl ⟨_, ⟨i, hi, rfl⟩, h⟩
    · exact .inr ⟨_, ⟨i, hi, rfl⟩, h⟩
theorem mem_choices' {w : List (List Rule)} : w ∈ refCh r ↔ ∃ i k, i < k ∧ k < r.cs.length ∧ w ∈ chPair r i k := by
  unfold refCh refChTo chRow
  simp only [List.mem_flatten, List.mem_map, List.mem_range]
  constructor
  · rintro ⟨_, ⟨i, hi, rfl⟩, h⟩
    simp only [List.mem_flatten, List.mem_map, List.mem_range] at h
    obtain ⟨_, ⟨k, hk, rfl⟩, h⟩ := h
    exact ⟨i, i + 1 + k, by omega, by omega, h⟩
  · rintro ⟨i, k, hik, hk, h⟩
    refine ⟨_, ⟨i, by omega, rfl⟩, ?_⟩
    simp only [List.mem_flatten, List.mem_map, List.mem_range]
    exact ⟨_, ⟨k - (i + 1), by omega, rfl⟩, by rw [show i + 1 + (k - (i + 1)) = k by omega]; exact h⟩
theorem fixMan_sat {i : Nat} : (∀ x ∈ fixMan r i, Sat t x) ↔ t i ≤ t (r.ms.length + i) ∧ t (r.ms.length + i) ≤ t i + r.life := by
  unfold fixMan Sat
  simp only [List.forall_mem_cons, List.not_mem_nil, false_implies, implies_true, and_true]
  omega
theorem fixGap_sat {i k : Nat} : (∀ x ∈ fixGap r i k, Sat t x) ↔ (r.cs[k]!.kin = false → r.cs[k]!.man = r.cs[i]!.man → 0 ≤ r.cs[i]!.office → r.cs[i]!.office < r.cs[k]!.office → t (2 * r.ms.length + i) + r.os[r.cs[k]!.office.toNat]!.gap ≤ t (2 * r.ms.length + k)) := by
  unfold fixGap
  split
  · rename_i h
    obtain ⟨h1, h2, h3, h4⟩ := h
    simp only [List.forall_mem_cons, List.not_mem_nil, false_implies, implies_true, and_true]
    exact ⟨fun h _ _ _ _ => h, fun h => h h1 h2 h3 h4⟩
  · rename_i h
    exact ⟨fun _ h1 h2 h3 h4 => absurd ⟨h1, h2, h3, h4⟩ h, fun _ x hx => by cases hx⟩
def lst (r : Roll) (t : Nat → Int) : List Int := (List.range (2 * r.ms.length + r.cs.length)).map t
theorem lst_get {i : Nat} (h : i < 2 * r.ms.length + r.cs.length) : (lst r t)[i]! = t i := by
  unfold lst
  rw [map_get! (by rw [List.length_range]; exact h), range_get! h]
theorem lst_len : (lst r t).length = 2 * r.ms.length + r.cs.length := by unfold lst; rw [List.length_map, List.length_range]
theorem inT_box (hw : WF r) : InT (pad (givenL r)) t ↔ InBox (givenL r) (lst r t) ∧ ∀ i, 2 * r.ms.length + r.cs.length ≤ i → i < 20 → t i = 0 := by
  have hm6 := hw.ms_l
  have hc8 := hw.cs_l
  have hg := given_len (r := r)
  constructor
  · intro h
    refine ⟨⟨by rw [lst_len, hg], fun i hi => ?_⟩, fun i h1 h2 => ?_⟩
    · have := h i (by omega)
      rw [pad_getD, getD_get! hi] at this
      rw [lst_get (by omega)]; exact this
    · have := h i h2
      rw [pad_getD, List.getD_eq_getElem?_getD, List.getElem?_eq_none (by omega)] at this
      simp only [Option.getD_none] at this
      omega
  · rintro ⟨h1, h2⟩ i hi
    rw [pad_getD]
    by_cases c : i < (givenL r).length
    · rw [getD_get! c]
      have := h1.2 i c
      rw [lst_get (by omega)] at this; exact this
    · rw [List.getD_eq_getElem?_getD, List.getElem?_eq_none (by omega), h2 i (by omega) hi]
      exact ⟨Int.le_refl _, Int.le_refl _⟩
theorem ref_iff (hw : WF r) : TrF (pad (givenL r)) (fixedL r) (refCh r) t ↔ InBox (givenL r) (lst r t) ∧ LivedL r (lst r t) ∧ ∀ i, 2 * r.ms.length + r.cs.length ≤ i → i < 20 → t i = 0 := by
  obtain ⟨hm1, hm6⟩ := hw.ms_l
  have hc8 := hw.cs_l
  have hman : ∀ i, i < r.cs.length → r.cs[i]!.man.toNat < r.ms.length := fun i hi => by
    obtain ⟨a1, a2, _⟩ := hw.cs_ok _ (get!_mem hi); omega
  have hsym : ∀ i k, i < r.cs.length → k < r.cs.length → r.cs[i]!.kin = false → r.cs[k]!.kin = false → (r.fs[r.cs[i]!.town.toNat]!)[r.cs[k]!.town.toNat]! = (r.fs[r.cs[k]!.town.toNat]!)[r.cs[i]!.town.toNat]! := fun i k hi hk k1 k2 => by
    obtain ⟨_, _, p3, p4, _⟩ := (hw.cs_ok _ (get!_mem hi)).2.2.2 k1
    obtain ⟨_, _, q3, q4, _⟩ := (hw.cs_ok _ (get!_mem hk)).2.2.2 k2
    rw [← farAt_get (fun w h => hw.fs_ok w h) p3 p4 q3 q4, ← farAt_get (fun w h => hw.fs_ok w h) q3 q4 p3 p4]
    exact hw.far_symm p3 p4 q3 q4
  have hagain : ∀ i, i < r.cs.length → r.cs[i]!.kin = false → 0 ≤ r.cs[i]!.office → 1 ≤ r.os[r.cs[i]!.office.toNat]!.again := fun i hi hk ho => by
    obtain ⟨_, b2, _⟩ := (hw.cs_ok _ (get!_mem hi)).2.2.2 hk
    have := hw.os_ok _ (get!_mem (show r.cs[i]!.office.toNat < r.os.length by omega))
    unfold OffOk at this; omega
  constructor
  · rintro ⟨h1, h2, h3⟩
    obtain ⟨hb, hz⟩ := (inT_box hw).1 h1
    refine ⟨hb, ⟨fun m hm => ?_, fun i hi => ⟨fun hk => ?_, fun hk => ?_⟩, fun i k hi hk hne k1 k2 hme => ?_⟩, hz⟩
    · have := fixMan_sat.1 fun x hx => h2 x (mem_fixed.2 (.inl ⟨m, hm, hx⟩))
      unfold ManL
      rw [lst_get (by omega), lst_get (by omega)]; exact this
    · have hr : ∀ x ∈ fixRec r i, Sat t x := fun x hx => h2 x (mem_fixed.2 (.inr ⟨i, hi, hx⟩))
      obtain ⟨b1, b2, _⟩ := (hw.cs_ok _ (get!_mem hi)).2.2.1 hk
      have hmi := hman i hi
      unfold fixRec at hr
      rw [if_pos hk] at hr
      simp only [List.forall_mem_cons, List.not_mem_nil, false_implies, implies_true, and_true, Sat] at hr
      rw [lst_get (by omega), lst_get (by omega), lst_get (by omega)]
      omega
    · have hr : ∀ x ∈ fixRec r i, Sat t x := fun x hx => h2 x (mem_fixed.2 (.inr ⟨i, hi, hx⟩))
      have hmi := hman i hi
      unfold fixRec at hr
      rw [if_neg (by rw [hk]; decide)] at hr
      have r1 := hr _ (List.mem_append_left _ List.mem_cons_self)
      have r2 := hr _ (List.mem_append_left _ (List.mem_cons_of_mem _ List.mem_cons_self))
      unfold Sat at r1 r2
      simp only at r1 r2
      unfold ageL at r1
      rw [lst_get (by omega), lst_get (by omega), lst_get (by omega)]
      have hage : 0 ≤ r.cs[i]!.office → 0 ≤ r.os[r.cs[i]!.office.toNat]!.age := fun ho => by
        obtain ⟨_, b2, _⟩ := (hw.cs_ok _ (get!_mem hi)).2.2.2 hk
        have := hw.os_ok _ (get!_mem (show r.cs[i]!.office.toNat < r.os.length by omega))
        unfold OffOk at this; omega
      split at r1
      · rename_i ho
        have := hage ho
        exact ⟨by omega, by omega, fun _ => by omega⟩
      · exact ⟨by omega, by omega, fun e => by omega⟩
    · rw [lst_get (by omega), lst_get (by omega)]
      have hgap : r.cs[k]!.kin = false → r.cs[k]!.man = r.cs[i]!.man → 0 ≤ r.cs[i]!.office → r.cs[i]!.office < r.cs[k]!.office → t (2 * r.ms.length + i) + r.os[r.cs[k]!.office.toNat]!.gap ≤ t (2 * r.ms.length + k) := fixGap_sat.1 fun x hx => h2 x (mem_fixed.2 (.inr ⟨i, hi, by
        unfold fixRec
        rw [if_neg (by rw [k1]; decide)]
        exact List.mem_append_right _ (List.mem_flatten.2 ⟨_, List.mem_map.2 ⟨k, List.mem_range.2 hk, rfl⟩, hx⟩)⟩))
      have hch : ∀ i k, i < k → k < r.cs.length → r.cs[i]!.kin = false → r.cs[k]!.kin = false → r.cs[i]!.man = r.cs[k]!.man →
          ((0 ≤ r.cs[i]!.office ∧ r.cs[i]!.office = r.cs[k]!.office) → (t (2 * r.ms.length + i) + r.os[r.cs[i]!.office.toNat]!.again ≤ t (2 * r.ms.length + k) ∨ t (2 * r.ms.length + k) + r.os[r.cs[i]!.office.toNat]!.again ≤ t (2 * r.ms.length + i)) ∨ ((r.fs[r.cs[i]!.town.toNat]!)[r.cs[k]!.town.toNat]! = false ∧ t (2 * r.ms.length + i) = t (2 * r.ms.length + k))) ∧
          ((r.fs[r.cs[i]!.town.toNat]!)[r.cs[k]!.town.toNat]! = true → t (2 * r.ms.length + i) ≠ t (2 * r.ms.length + k)) := fun i k hik hk k1 k2 hm => by
        have hc := fun w hw' => h3 w (mem_choices'.2 ⟨i, k, hik, hk, hw'⟩)
        have ha := hagain i (by omega) k1
        unfold chPair at hc
        rw [if_neg (by rw [k1, k2]; intro h; rcases h with h | h | h; cases h; cases h; exact h hm)] at hc
        by_cases ho : 0 ≤ r.cs[i]!.office ∧ r.cs[i]!.office = r.cs[k]!.office
        · rw [if_pos ho] at hc
          have ha := ha ho.1
          obtain ⟨alt, hal, hs⟩ := hc _ List.mem_cons_self
          cases hf : (r.fs[r.cs[i]!.town.toNat]!)[r.cs[k]!.town.toNat]! with
          | true =>
            rw [if_pos hf] at hal
            simp only [List.append_nil, List.mem_cons, List.not_mem_nil, or_false] at hal
            rcases hal with rfl | rfl <;> (have := hs _ List.mem_cons_self; unfold Sat at this; simp only at this)
            · exact ⟨fun _ => .inl (.inl this), fun _ => by omega⟩
            · exact ⟨fun _ => .inl (.inr this), fun _ => by omega⟩
          | false =>
            rw [if_neg (by rw [hf]; decide)] at hal
            simp only [List.cons_append, List.nil_append, List.mem_cons, List.not_mem_nil, or_false] at hal
            rcases hal with rfl | rfl | rfl
            · have := hs _ List.mem_cons_self; unfold Sat at this; simp only at this
              exact ⟨fun _ => .inl (.inl this), fun e => by cases e⟩
            · have := hs _ List.mem_cons_self; unfold Sat at this; simp only at this
              exact ⟨fun _ => .inl (.inr this), fun e => by cases e⟩
            · have x1 := hs _ List.mem_cons_self
              have x2 := hs _ (List.mem_cons_of_mem _ List.mem_cons_self)
              unfold Sat at x1 x2; simp only at x1 x2
              exact ⟨fun _ => .inr ⟨rfl, by omega⟩, fun e => by cases e⟩
        · rw [if_neg ho] at hc
          refine ⟨fun h => absurd h ho, fun hf => ?_⟩
          rw [if_pos hf] at hc
          obtain ⟨alt, hal, hs⟩ := hc _ List.mem_cons_self
          simp only [List.mem_cons, List.not_mem_nil, or_false] at hal
          rcases hal with rfl | rfl <;> (have := hs _ List.mem_cons_self; unfold Sat at this; simp only at this; omega)
      have hc : ((0 ≤ r.cs[i]!.office ∧ r.cs[i]!.office = r.cs[k]!.office) → (t (2 * r.ms.length + i) + r.os[r.cs[i]!.office.toNat]!.again ≤ t (2 * r.ms.length + k) ∨ t (2 * r.ms.length + k) + r.os[r.cs[i]!.office.toNat]!.again ≤ t (2 * r.ms.length + i)) ∨ t (2 * r.ms.length + i) = t (2 * r.ms.length + k)) ∧
          ((r.fs[r.cs[i]!.town.toNat]!)[r.cs[k]!.town.toNat]! = true → t (2 * r.ms.length + i) ≠ t (2 * r.ms.length + k)) := by
        rcases Nat.lt_or_gt_of_ne hne with e | e
        · have := hch k i e hi k2 k1 hme
          refine ⟨fun h => ?_, fun hf => ?_⟩
          · rcases this.1 ⟨by omega, h.2.symm⟩ with h' | h'
            · rw [← h.2] at h'; exact .inl h'.symm
            · exact .inr h'.2.symm
          · rw [hsym i k hi hk k1 k2] at hf
            exact fun e => this.2 hf e.symm
        · have := hch i k e hk k1 k2 hme.symm
          exact ⟨fun h => (this.1 h).imp id fun h => h.2, this.2⟩
      refine ⟨fun e => hc.2 e.2 e.1.symm, fun e => ?_, fun e => ?_⟩
      · have := hgap k2 hme e.1 e.2.1; omega
      · obtain ⟨e1, e2, e3, e4⟩ := e
        rcases hc.1 ⟨e1, e2.symm⟩ with h | h
        · omega
        · omega
  · rintro ⟨hb, ⟨l1, l2, l3⟩, hz⟩
    refine ⟨(inT_box hw).2 ⟨hb, hz⟩, fun x hx => ?_, fun w hw' => ?_⟩
    · rcases mem_fixed.1 hx with ⟨m, hm, hx⟩ | ⟨i, hi, hx⟩
      · refine fixMan_sat.2 ?_ x hx
        have := l1 m hm
        unfold ManL at this
        rw [lst_get (by omega), lst_get (by omega)] at this; exact this
      · have hmi := hman i hi
        have hl := l2 i hi
        cases hk : r.cs[i]!.kin with
        | true =>
          obtain ⟨b1, b2, _⟩ := (hw.cs_ok _ (get!_mem hi)).2.2.1 hk
          have := hl.1 hk
          rw [lst_get (by omega), lst_get (by omega), lst_get (by omega)] at this
          unfold fixRec at hx
          rw [if_pos hk] at hx
          simp only [List.mem_cons, List.not_mem_nil, or_false] at hx
          rcases hx with rfl | rfl | rfl <;> (unfold Sat; simp only; omega)
        | false =>
          have := hl.2 hk
          rw [lst_get (by omega), lst_get (by omega), lst_get (by omega)] at this
          unfold fixRec at hx
          rw [if_neg (by rw [hk]; decide)] at hx
          rcases List.mem_append.1 hx with hx | hx
          · simp only [List.mem_cons, List.not_mem_nil, or_false] at hx
            rcases hx with rfl | rfl
            · unfold Sat ageL; simp only
              split
              · rename_i ho
                have := this.2.2 ho
                omega
              · omega
            · unfold Sat; simp only; omega
          · obtain ⟨_, hy, hx⟩ := List.mem_flatten.1 hx
            obtain ⟨k, hkr, rfl⟩ := List.mem_map.1 hy
            have hkr := List.mem_range.1 hkr
            refine fixGap_sat.2 (fun g1 g2 g3 g4 => ?_) x hx
            have hne : k ≠ i := fun e => by rw [e] at g4; omega
            have := (l3 i k hi hkr hne hk g1 g2).2.1
            rw [lst_get (by omega), lst_get (by omega)] at this
            have h' : ¬ (t (2 * r.ms.length + k) - t (2 * r.ms.length + i) < r.os[r.cs[k]!.office.toNat]!.gap) := fun e => this ⟨g3, g4, e⟩
            omega
    · obtain ⟨i, k, hik, hk, hwp⟩ := mem_choices'.1 hw'
      unfold chPair at hwp
      split at hwp
      · cases hwp
      · rename_i hn
        have k1 : r.cs[i]!.kin = false := by cases h : r.cs[i]!.kin with | false => rfl | true => exact absurd (.inl h) hn
        have k2 : r.cs[k]!.kin = false := by cases h : r.cs[k]!.kin with | false => rfl | true => exact absurd (.inr (.inl h)) hn
        have hm : r.cs[i]!.man = r.cs[k]!.man := by
          by_cases h : r.cs[i]!.man = r.cs[k]!.man
          · exact h
          · exact absurd (.inr (.inr h)) hn
        obtain ⟨x1, x2, x3⟩ := l3 i k (by omega) hk (by omega) k1 k2 hm.symm
        rw [lst_get (by omega), lst_get (by omega)] at x1 x2 x3
        split at hwp
        · rename_i ho
          rw [List.mem_singleton] at hwp
          subst hwp
          have x3' : t (2 * r.ms.length + k) ≠ t (2 * r.ms.length + i) → ¬ (max (t (2 * r.ms.length + k) - t (2 * r.ms.length + i)) (t (2 * r.ms.length + i) - t (2 * r.ms.length + k)) < r.os[r.cs[i]!.office.toNat]!.again) := fun h1 h2 => x3 ⟨ho.1, ho.2.symm, h1, h2⟩
          by_cases he : t (2 * r.ms.length + k) = t (2 * r.ms.length + i)
          · have hf : (r.fs[r.cs[i]!.town.toNat]!)[r.cs[k]!.town.toNat]! ≠ true := fun hf => x1 ⟨he, hf⟩
            rw [if_neg hf]
            refine ⟨_, List.mem_append_right _ List.mem_cons_self, fun x hx => ?_⟩
            simp only [List.mem_cons, List.not_mem_nil, or_false] at hx
            rcases hx with rfl | rfl <;> (unfold Sat; simp only; omega)
          · have := x3' he
            by_cases hlt : t (2 * r.ms.length + i) < t (2 * r.ms.length + k)
            · refine ⟨_, List.mem_append_left _ List.mem_cons_self, fun x hx => ?_⟩
              rw [List.mem_singleton] at hx
              subst hx; unfold Sat; simp only; omega
            · refine ⟨_, List.mem_append_left _ (List.mem_cons_of_mem _ List.mem_cons_self), fun x hx => ?_⟩
              rw [List.mem_singleton] at hx
              subst hx; unfold Sat; simp only; omega
        · split at hwp
          · rename_i hf
            rw [List.mem_singleton] at hwp
            subst hwp
            have he : t (2 * r.ms.length + k) ≠ t (2 * r.ms.length + i) := fun e => x1 ⟨e, hf⟩
            by_cases hlt : t (2 * r.ms.length + i) < t (2 * r.ms.length + k)
            · refine ⟨_, List.mem_cons_self, fun x hx => ?_⟩
              rw [List.mem_singleton] at hx
              subst hx; unfold Sat; simp only; omega
            · refine ⟨_, List.mem_cons_of_mem _ List.mem_cons_self, fun x hx => ?_⟩
              rw [List.mem_singleton] at hx
              subst hx; unfold Sat; simp only; omega
          · cases hwp
def knownF (r : Roll) : Kn × Bool := refAll (refCh r) (givenL r) (fixedL r)
theorem given_KB (hw : WF r) : KB (givenL r) (2 * r.ms.length + r.cs.length) := by
  have hm6 := hw.ms_l
  have hc8 := hw.cs_l
  refine ⟨given_len, by omega, fun p hp => ?_⟩
  unfold givenL at hp
  simp only [List.mem_append, List.mem_map] at hp
  rcases hp with (⟨x, hx, rfl⟩ | ⟨x, hx, rfl⟩) | ⟨c, hc, rfl⟩
  · have := (hw.ms_ok x hx).1; unfold YearsOk at this; simp only; omega
  · have := (hw.ms_ok x hx).2; unfold YearsOk at this; simp only; omega
  · obtain ⟨_, _, c3, c4⟩ := hw.cs_ok c hc
    simp only
    cases hk : c.kin with
    | true => obtain ⟨_, _, _, _, _, z1, z2⟩ := c3 hk; omega
    | false => obtain ⟨_, _, _, _, _, y⟩ := c4 hk; unfold YearsOk at y; omega
theorem os_b (hw : WF r) {i : Int} (h : i < r.os.length) (h0 : 0 ≤ i) : OffOk r.os[i.toNat]! := hw.os_ok _ (get!_mem (by omega))
theorem fixed_RB (hw : WF r) : ∀ x ∈ fixedL r, RBm (2 * r.ms.length + r.cs.length) x := by
  have hli := hw.life
  have hpar := hw.par
  intro x hx
  rcases mem_fixed.1 hx with ⟨i, hi, hx⟩ | ⟨i, hi, hx⟩
  · unfold fixMan at hx
    simp only [List.mem_cons, List.not_mem_nil, or_false] at hx
    rcases hx with rfl | rfl <;> (unfold RBm; simp only; omega)
  · obtain ⟨a1, a2, a3, a4⟩ := hw.cs_ok _ (get!_mem hi)
    unfold fixRec at hx
    split at hx
    · rename_i hk
      obtain ⟨b1, b2, _⟩ := a3 hk
      simp only [List.mem_cons, List.not_mem_nil, or_false] at hx
      rcases hx with rfl | rfl | rfl <;> (unfold RBm; simp only; omega)
    · rename_i hk
      have hk : r.cs[i]!.kin = false := eq_false_of_ne_true hk
      obtain ⟨b1, b2, _⟩ := a4 hk
      have hage : -100 ≤ ageL r i ∧ ageL r i ≤ 100 := by
        unfold ageL
        split
        · rename_i ho
          have := os_b hw b2 ho
          unfold OffOk at this; omega
        · omega
      rcases List.mem_append.1 hx with hx | hx
      · simp only [List.mem_cons, List.not_mem_nil, or_false] at hx
        rcases hx with rfl | rfl <;> (unfold RBm; simp only; omega)
      · obtain ⟨_, hy, hx⟩ := List.mem_flatten.1 hx
        obtain ⟨k, hkr, rfl⟩ := List.mem_map.1 hy
        have hkr := List.mem_range.1 hkr
        unfold fixGap at hx
        split at hx
        · rename_i hg
          obtain ⟨g1, g2, g3, g4⟩ := hg
          obtain ⟨d1, d2, _⟩ := (hw.cs_ok _ (get!_mem hkr)).2.2.2 g1
          have := os_b hw d2 (by omega)
          unfold OffOk at this
          rw [List.mem_singleton] at hx
          subst hx
          unfold RBm; simp only; omega
        · cases hx
theorem refCh_RB (hw : WF r) : ∀ w ∈ refCh r, ∀ alt ∈ w, ∀ x ∈ alt, RBm (2 * r.ms.length + r.cs.length) x := by
  intro w hw' alt hal x hx
  obtain ⟨i, k, hik, hk, hwp⟩ := mem_choices'.1 hw'
  have hi : i < r.cs.length := by omega
  unfold chPair at hwp
  split at hwp
  · cases hwp
  · rename_i hn
    have k1 : r.cs[i]!.kin = false := by cases h : r.cs[i]!.kin with | false => rfl | true => exact absurd (.inl h) hn
    obtain ⟨b1, b2, _⟩ := (hw.cs_ok _ (get!_mem hi)).2.2.2 k1
    split at hwp
    · rename_i ho
      have := os_b hw b2 ho.1
      unfold OffOk at this
      rw [List.mem_singleton] at hwp
      subst hwp
      rcases List.mem_append.1 hal with hal | hal
      · simp only [List.mem_cons, List.not_mem_nil, or_false] at hal
        rcases hal with rfl | rfl <;> (rw [List.mem_singleton] at hx; subst hx; unfold RBm; simp only; omega)
      · split at hal
        · cases hal
        · rw [List.mem_singleton] at hal
          subst hal
          simp only [List.mem_cons, List.not_mem_nil, or_false] at hx
          rcases hx with rfl | rfl <;> (unfold RBm; simp only; omega)
    · split at hwp
      · rw [List.mem_singleton] at hwp
        subst hwp
        simp only [List.mem_cons, List.not_mem_nil, or_false] at hal
        rcases hal with rfl | rfl <;> (rw [List.mem_singleton] at hx; subst hx; unfold RBm; simp only; omega)
      · cases hwp
theorem known_hullT (hw : WF r) : HullT (fun t => InBox (givenL r) (lst r t) ∧ LivedL r (lst r t) ∧ ∀ i, 2 * r.ms.length + r.cs.length ≤ i → i < 20 → t i = 0) (2 * r.ms.length + r.cs.length) (knownF r) :=
  (refAll_hull (given_KB hw) (fixed_RB hw) (refCh_RB hw)).congr fun _ => (ref_iff hw).symm
def yrsL (r : Roll) (l : List Int) : Nat → Int := fun i => if i < 2 * r.ms.length + r.cs.length then l[i]! else 0
theorem lst_yrsL {l : List Int} (h : l.length = 2 * r.ms.length + r.cs.length) : lst r (yrsL r l) = l := by
  apply List.ext_getElem (by rw [lst_len, h])
  intro i h1 h2
  rw [← get!_eq h1, ← get!_eq h2, lst_get (by omega)]
  exact if_pos (by omega)
theorem known_hull (hw : WF r) : HullOf (fun l => InBox (givenL r) l ∧ LivedL r l) (givenL r).length (knownF r).2 (if (knownF r).2 = true then (knownF r).1 else givenL r) := by
  have h := known_hullT hw
  have hg := given_len (r := r)
  have hto : ∀ l, InBox (givenL r) l ∧ LivedL r l → InBox (givenL r) (lst r (yrsL r l)) ∧ LivedL r (lst r (yrsL r l)) ∧ ∀ i, 2 * r.ms.length + r.cs.length ≤ i → i < 20 → yrsL r l i = 0 := fun l hl => by
    have e := lst_yrsL (r := r) (l := l) (by rw [hl.1.1, hg])
    exact ⟨by rw [e]; exact hl.1, by rw [e]; exact hl.2, fun i h1 _ => if_neg (by omega)⟩
  refine ⟨?_, ⟨fun e => ?_, fun ⟨l, hl⟩ => h.ex.2 ⟨_, hto l hl⟩⟩, fun e i hi => ?_⟩
  · split
    · rename_i e; rw [h.len e, hg]
    · rfl
  · obtain ⟨t, ht⟩ := h.ex.1 e
    exact ⟨_, ht.1, ht.2.1⟩
  · rw [if_pos e]
    rw [hg] at hi
    have hk : (knownF r).1.getD i (0, 0) = (knownF r).1[i]! := getD_get! (by rw [h.len e]; exact hi)
    obtain ⟨⟨t, ht, e1⟩, u, hu, e2⟩ := h.ends e i hi
    rw [hk] at e1 e2
    refine ⟨fun l hl => ?_, ⟨lst r t, ⟨ht.1, ht.2.1⟩, by rw [lst_get hi]; exact e1⟩, lst r u, ⟨hu.1, hu.2.1⟩, by rw [lst_get hi]; exact e2⟩
    have := h.hull e _ (hto l hl) i hi
    rw [hk, show yrsL r l i = l[i]! from if_pos hi] at this
    exact this
end
end Go.Proofs
