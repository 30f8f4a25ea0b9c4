/- What functions of the given program do in the ideal machine (P1, P2), and the plain laws of what they answer; the conditions stand in each theorem. -/
import Derived.Test.YtoamjmokonnglaaJn
set_option linter.all false
set_option linter.unusedSectionVars false
set_option linter.unusedSimpArgs false
set_option linter.unusedVariables false
namespace Go.Proofs
open Go Go.Idl Go.Dt
set_option linter.unusedSimpArgs false
variable {b : Nat}
def shS (y : Int) (s : Int × Int) : Int × Int := (s.1 + y, s.2 + y)
def shN (y : Int) (n : Nt) : Nt := ⟨n.kind, n.stone, n.other, if n.kind = 2 then n.lo + y else n.lo, if n.kind = 2 then n.hi + y else n.hi, n.ys.map (· + y), some false⟩
def shD (y : Int) (d : Dt) : Dt := ⟨d.stones, d.eras.map (shS y), d.notes.map (shN y)⟩
def usedP (d : Dt) (v : Nat) : Prop := (1 ≤ v ∧ (v : Int) ≤ d.stones) ∨ (7 ≤ v ∧ v < 7 + d.eras.length)
instance {d : Dt} {v : Nat} : Decidable (usedP d v) := by unfold usedP; exact inferInstance
structure ShOk (y : Int) (d : Dt) : Prop where
  ok : DtOk d
  y : -500 ≤ y ∧ y ≤ 500
  eras : ∀ s ∈ d.eras, -2500 ≤ s.1 ∧ s.2 ≤ 2500
  span : ∀ n ∈ d.notes, n.kind = 2 → -2500 ≤ n.lo ∧ n.hi ≤ 2500
  years : ∀ n ∈ d.notes, ∀ x ∈ n.ys, -2500 ≤ x ∧ x ≤ 2500
  bound : ∀ i : Nat, (i : Int) < d.stones → ∃ n ∈ d.notes, n.kind = 2 ∧ n.stone = i ∧ n.lo = -900 ∧ n.hi = 900
theorem map_get! {α β : Type} [Inhabited α] [Inhabited β] {f : α → β} {l : List α} {i : Nat} (h : i < l.length) : (l.map f)[i]! = f l[i]! := by
  rw [get!_eq (by rw [List.length_map]; exact h), List.getElem_map, get!_eq h]
theorem ShOk.sh {y : Int} {d : Dt} (h : ShOk y d) : DtOk (shD y d) where
  stones := h.ok.stones
  eras_l := by unfold shD; rw [List.length_map]; exact h.ok.eras_l
  eras s hs := by
    obtain ⟨t, ht, rfl⟩ := List.mem_map.1 hs
    have h1 := h.ok.eras t ht
    have h2 := h.eras t ht
    have h3 := h.y
    unfold SpanOk at h1 ⊢
    unfold shS; dsimp only; omega
  notes_l := by unfold shD; rw [List.length_map]; exact h.ok.notes_l
  notes n hn := by
    obtain ⟨t, ht, rfl⟩ := List.mem_map.1 hn
    have k := h.ok.notes t ht
    have h1 := h.span t ht
    have h2 := h.years t ht
    have h3 := h.y
    have he : (shD y d).eras.length = d.eras.length := by unfold shD; rw [List.length_map]
    refine ⟨k.kind, k.stone, fun e => ?_, fun e => ?_, k.plain, fun e => ?_, k.after⟩
    · obtain ⟨a1, a2, a3, a4, a5, a6, a7⟩ := k.years e
      have e : t.kind = 1 := e
      refine ⟨a1, by show (if t.kind = 2 then _ else t.lo) = 0; rw [if_neg (by omega)]; exact a2, by show (if t.kind = 2 then _ else t.hi) = 0; rw [if_neg (by omega)]; exact a3, by show 1 ≤ (t.ys.map _).length; rw [List.length_map]; exact a4, by show (t.ys.map _).length ≤ 3; rw [List.length_map]; exact a5, fun x hx => ?_, fun i i1 i2 => ?_⟩
      · obtain ⟨z, hz, rfl⟩ := List.mem_map.1 hx
        have := h2 z hz; omega
      · have i2 : i < (t.ys.map (· + y)).length := i2
        rw [List.length_map] at i2
        show (t.ys.map (· + y))[i - 1]! < (t.ys.map (· + y))[i]!
        rw [map_get! (by omega), map_get! i2]
        have := a7 i i1 i2
        omega
    · have e : t.kind ≠ 1 := e
      obtain ⟨a1, a2⟩ := k.span e
      refine ⟨by show t.ys.map _ = []; rw [a1]; rfl, ?_⟩
      show SpanOk (if t.kind = 2 then t.lo + y else t.lo) (if t.kind = 2 then t.hi + y else t.hi)
      unfold SpanOk at a2 ⊢
      by_cases c : t.kind = 2
      · rw [if_pos c, if_pos c]
        have := h1 c; omega
      · rw [if_neg c, if_neg c]; exact a2
    · have e : t.kind = 3 := e
      obtain ⟨a1, a2, a3⟩ := k.era e
      refine ⟨a1, by rw [he]; exact a2, ?_⟩
      show 1 ≤ (if t.kind = 2 then t.lo + y else t.lo)
      rw [if_neg (by omega)]; exact a3
theorem wk_pts {d : Dt} {n : Nt} (k : NtOk d n) : usedP d n.wk.b ∧ (n.kind = 1 ∨ n.kind = 2 → n.wk.a = 0) ∧ (n.kind = 3 ∨ n.kind = 4 → usedP d n.wk.a) := by
  have h3 := k.stone
  have hk := k.kind
  unfold Nt.wk usedP
  by_cases e1 : n.kind = 1
  · rw [if_pos e1]; exact ⟨.inl ⟨by dsimp only; omega, by dsimp only; omega⟩, fun _ => rfl, fun h => by omega⟩
  rw [if_neg e1]
  by_cases e3 : n.kind = 3
  · have := k.era e3
    rw [if_pos e3]; exact ⟨.inl ⟨by dsimp only; omega, by dsimp only; omega⟩, fun h => by omega, fun h => .inr ⟨by dsimp only; omega, by dsimp only; omega⟩⟩
  rw [if_neg e3]
  by_cases e4 : n.kind = 4
  · have := k.after e4
    rw [if_pos e4]; exact ⟨.inl ⟨by dsimp only; omega, by dsimp only; omega⟩, fun h => by omega, fun h => .inl ⟨by dsimp only; omega, by dsimp only; omega⟩⟩
  rw [if_neg e4]; exact ⟨.inl ⟨by dsimp only; omega, by dsimp only; omega⟩, fun _ => rfl, fun h => by omega⟩
theorem sh_note {y : Int} {d : Dt} {n : Nt} (k : NtOk d n) {w u : Nat → Int} (w0 : w 0 = 0) (u0 : u 0 = 0) (hu : ∀ v, usedP d v → u v = w v + y) : (shN y n).right u ↔ n.right w := by
  obtain ⟨p1, p2, p3⟩ := wk_pts k
  have hk := k.kind
  have ub := hu _ p1
  have hpb : (shN y n).wk.b = n.wk.b := by
    unfold Nt.wk shN
    dsimp only
    repeat' split
    all_goals rfl
  have hpa : (shN y n).wk.a = n.wk.a := by
    unfold Nt.wk shN
    dsimp only
    repeat' split
    all_goals rfl
  by_cases e1 : n.kind = 1
  · have ha := p2 (.inl e1)
    have hw1 : (shN y n).wk.ways = n.ys.map fun x => (x + y, x + y) := by
      unfold Nt.wk shN; dsimp only; rw [if_pos e1]; dsimp only; rw [List.map_map]; rfl
    have hw2 : n.wk.ways = n.ys.map fun x => (x, x) := by unfold Nt.wk; rw [if_pos e1]
    unfold Nt.right Wk.right
    rw [hpa, hpb, hw1, hw2, ha, w0, u0, ub]
    constructor
    · rintro ⟨s, hs, h1, h2⟩
      obtain ⟨x, hx, rfl⟩ := List.mem_map.1 hs
      exact ⟨(x, x), List.mem_map.2 ⟨x, hx, rfl⟩, by dsimp only at h1 h2 ⊢; omega, by dsimp only at h1 h2 ⊢; omega⟩
    · rintro ⟨s, hs, h1, h2⟩
      obtain ⟨x, hx, rfl⟩ := List.mem_map.1 hs
      exact ⟨(x + y, x + y), List.mem_map.2 ⟨x, hx, rfl⟩, by dsimp only at h1 h2 ⊢; omega, by dsimp only at h1 h2 ⊢; omega⟩
  by_cases e2 : n.kind = 2
  · have ha := p2 (.inr e2)
    have hw1 : (shN y n).wk.ways = [(n.lo + y, n.hi + y)] := by
      unfold Nt.wk shN; dsimp only; rw [if_neg e1, if_neg (by omega), if_neg (by omega), if_pos e2, if_pos e2]
    have hw2 : n.wk.ways = [(n.lo, n.hi)] := by unfold Nt.wk; rw [if_neg e1, if_neg (by omega), if_neg (by omega)]
    unfold Nt.right Wk.right
    rw [hpa, hpb, hw1, hw2, ha, w0, u0, ub]
    simp only [List.mem_singleton, exists_eq_left]
    omega
  · have ua := hu _ (p3 (by omega))
    have hw : (shN y n).wk.ways = n.wk.ways := by
      unfold Nt.wk shN
      dsimp only
      rw [if_neg e1, if_neg e1, if_neg e2, if_neg e2]
    unfold Nt.right Wk.right
    rw [hpa, hpb, hw, ua, ub]
    constructor
    · rintro ⟨s, hs, h1, h2⟩; exact ⟨s, hs, by omega, by omega⟩
    · rintro ⟨s, hs, h1, h2⟩; exact ⟨s, hs, by omega, by omega⟩
theorem right_2 {n : Nt} (e : n.kind = 2) {w : Nat → Int} : n.right w ↔ n.lo ≤ w (1 + n.stone.toNat) - w 0 ∧ w (1 + n.stone.toNat) - w 0 ≤ n.hi := by
  unfold Nt.right Nt.wk Wk.right
  rw [if_neg (by omega), if_neg (by omega), if_neg (by omega)]
  simp only [List.mem_singleton, exists_eq_left]
theorem ShOk.b9 {y : Int} {d : Dt} (h : ShOk y d) {w : Nat → Int} (hw : TrD d w) {i : Nat} (hi : (i : Int) < d.stones) : -900 ≤ w (1 + i) ∧ w (1 + i) ≤ 900 := by
  obtain ⟨n, hn, e, hs, hl, hh⟩ := h.bound i hi
  have := (right_2 e).1 (hw.notes n hn)
  rw [hs, hl, hh, Int.toNat_natCast, hw.zero] at this
  omega
theorem ShOk.b9' {y : Int} {d : Dt} (h : ShOk y d) {w : Nat → Int} (hw : TrD (shD y d) w) {i : Nat} (hi : (i : Int) < d.stones) : -900 + y ≤ w (1 + i) ∧ w (1 + i) ≤ 900 + y := by
  obtain ⟨n, hn, e, hs, hl, hh⟩ := h.bound i hi
  have := (right_2 (n := shN y n) e).1 (hw.notes _ (List.mem_map_of_mem hn))
  rw [show (shN y n).lo = n.lo + y from if_pos e, show (shN y n).hi = n.hi + y from if_pos e, show (shN y n).stone = n.stone from rfl, hs, hl, hh, Int.toNat_natCast, hw.zero] at this
  omega
theorem sh_fwd {y : Int} {d : Dt} (h : ShOk y d) {w : Nat → Int} (hw : TrD d w) : ∃ u, TrD (shD y d) u ∧ ∀ v, usedP d v → u v = w v + y := by
  have hu : ∀ v, usedP d v → (fun v => if usedP d v then w v + y else 0) v = w v + y := fun v hv => if_pos hv
  have hs := h.sh
  have h6 := h.ok.stones
  have hy := h.y
  refine ⟨fun v => if usedP d v then w v + y else 0, ⟨?_, fun v hv => ?_, fun j hj => ?_, fun n hn => ?_⟩, hu⟩
  · exact if_neg (by unfold usedP; omega)
  · by_cases c : usedP d v
    · rw [if_pos c]
      rcases c with ⟨c1, c2⟩ | ⟨c1, c2⟩
      · have := h.b9 hw (i := v - 1) (by omega)
        rw [show 1 + (v - 1) = v by omega] at this
        omega
      · have e1 := hw.eras (v - 7) (by omega)
        rw [show 7 + (v - 7) = v by omega] at e1
        have e2 := h.eras _ (get!_mem (show v - 7 < d.eras.length by omega))
        omega
    · rw [if_neg c]; omega
  · have hj : j < (d.eras.map (shS y)).length := hj
    rw [List.length_map] at hj
    have e1 := hw.eras j hj
    rw [if_pos (show usedP d (7 + j) from .inr ⟨by omega, by omega⟩)]
    show ((d.eras.map (shS y))[j]!).1 ≤ _ ∧ _ ≤ ((d.eras.map (shS y))[j]!).2
    rw [map_get! hj]
    unfold shS; dsimp only; omega
  · obtain ⟨t, ht, rfl⟩ := List.mem_map.1 hn
    exact (sh_note (h.ok.notes t ht) hw.zero (if_neg (by unfold usedP; omega)) hu).2 (hw.notes t ht)
theorem sh_bwd {y : Int} {d : Dt} (h : ShOk y d) {u : Nat → Int} (hu : TrD (shD y d) u) : ∃ w, TrD d w ∧ ∀ v, usedP d v → u v = w v + y := by
  have h6 := h.ok.stones
  have hy := h.y
  have hw : ∀ v, usedP d v → u v = (fun v => if usedP d v then u v - y else 0) v + y := fun v hv => by
    dsimp only; rw [if_pos hv]; omega
  have hE : ∀ j, j < d.eras.length → (d.eras[j]!).1 ≤ u (7 + j) - y ∧ u (7 + j) - y ≤ (d.eras[j]!).2 := fun j hj => by
    have e1 := hu.eras j (by show j < (d.eras.map (shS y)).length; rw [List.length_map]; exact hj)
    have e2 : ((d.eras.map (shS y))[j]!).1 ≤ u (7 + j) ∧ u (7 + j) ≤ ((d.eras.map (shS y))[j]!).2 := e1
    rw [map_get! hj] at e2
    unfold shS at e2; dsimp only at e2; omega
  refine ⟨fun v => if usedP d v then u v - y else 0, ⟨?_, fun v hv => ?_, fun j hj => ?_, fun n hn => ?_⟩, hw⟩
  · exact if_neg (by unfold usedP; omega)
  · by_cases c : usedP d v
    · rw [if_pos c]
      rcases c with ⟨c1, c2⟩ | ⟨c1, c2⟩
      · have := h.b9' hu (i := v - 1) (by omega)
        rw [show 1 + (v - 1) = v by omega] at this
        omega
      · have e1 := hE (v - 7) (by omega)
        rw [show 7 + (v - 7) = v by omega] at e1
        have e2 := h.eras _ (get!_mem (show v - 7 < d.eras.length by omega))
        omega
    · rw [if_neg c]; omega
  · rw [if_pos (show usedP d (7 + j) from .inr ⟨by omega, by omega⟩)]
    exact hE j hj
  · exact (sh_note (h.ok.notes n hn) (if_neg (by unfold usedP; omega)) hu.zero hw).1 (hu.notes _ (List.mem_map_of_mem hn))
theorem sh_hull {y : Int} {d : Dt} (h : ShOk y d) (hne : tabsL d ≠ []) {i : Nat} (hi : (i : Int) < d.stones) : tabsL (shD y d) ≠ [] ∧ (joinT (tabsL (shD y d)) (1 + i)).1 = (joinT (tabsL d) (1 + i)).1 + y ∧ (joinT (tabsL (shD y d)) (1 + i)).2 = (joinT (tabsL d) (1 + i)).2 + y := by
  have h6 := h.ok.stones
  have hv : usedP d (1 + i) := .inl ⟨by omega, by omega⟩
  obtain ⟨a1, ⟨w2, t2, a2⟩, w3, t3, a3⟩ := hullD h.ok hne (v := 1 + i) (by omega)
  obtain ⟨u2, s2, e2⟩ := sh_fwd h t2
  obtain ⟨u3, s3, e3⟩ := sh_fwd h t3
  have hne' := (tabs_some h.sh s2).1
  obtain ⟨b1, ⟨w5, t5, b2⟩, w6, t6, b3⟩ := hullD h.sh hne' (v := 1 + i) (by omega)
  obtain ⟨u5, s5, e5⟩ := sh_bwd h t5
  obtain ⟨u6, s6, e6⟩ := sh_bwd h t6
  have c2 := b1 u2 s2
  have c3 := b1 u3 s3
  have c5 := a1 u5 s5
  have c6 := a1 u6 s6
  have := e2 _ hv
  have := e3 _ hv
  have := e5 _ hv
  have := e6 _ hv
  exact ⟨hne', by omega, by omega⟩
theorem sh_none {y : Int} {d : Dt} (h : ShOk y d) (hne : tabsL d = []) : tabsL (shD y d) = [] := (tabs_none h.sh).2 fun u hu => by
  obtain ⟨w, hw, _⟩ := sh_bwd h hu
  exact (tabs_none h.ok).1 hne w hw
end Go.Proofs
namespace Go.Proofs
open Go Go.Idl Go.Dt
set_option linter.unusedSimpArgs false
variable {b : Nat}
def tuN (n : Nt) : Nt := ⟨n.kind, n.stone, n.other, if n.kind = 1 then n.lo else -n.hi, if n.kind = 1 then n.hi else -n.lo, (n.ys.map fun y => -y).reverse, some false⟩
def tuD (d : Dt) : Dt := ⟨d.stones, [], (d.notes.filter fun n => decide (n.kind ≠ 3)).map tuN⟩
theorem rev_get! {l : List Int} {i : Nat} (h : i < l.length) : (l.reverse)[i]! = l[l.length - 1 - i]! := by
  rw [get!_eq (by rw [List.length_reverse]; exact h), List.getElem_reverse, get!_eq (by omega)]
theorem tuN_ok {d : Dt} {l : List Nt} {n : Nt} (k : NtOk d n) (h3 : n.kind ≠ 3) : NtOk ⟨d.stones, [], l⟩ (tuN n) := by
  refine ⟨k.kind, k.stone, fun e => ?_, fun e => ?_, k.plain, fun e => absurd e h3, k.after⟩
  · obtain ⟨a1, a2, a3, a4, a5, a6, a7⟩ := k.years e
    have e : n.kind = 1 := e
    have hl : (tuN n).ys.length = n.ys.length := by unfold tuN; simp
    refine ⟨a1, by show (if n.kind = 1 then _ else _) = 0; rw [if_pos e]; exact a2, by show (if n.kind = 1 then _ else _) = 0; rw [if_pos e]; exact a3, by rw [hl]; exact a4, by rw [hl]; exact a5, fun x hx => ?_, fun i i1 i2 => ?_⟩
    · have hx := List.mem_reverse.1 hx
      obtain ⟨z, hz, rfl⟩ := List.mem_map.1 hx
      have := a6 z hz; omega
    · rw [hl] at i2
      show ((n.ys.map fun y => -y).reverse)[i - 1]! < ((n.ys.map fun y => -y).reverse)[i]!
      rw [rev_get! (by rw [List.length_map]; omega), rev_get! (by rw [List.length_map]; omega), List.length_map, map_get! (by omega), map_get! (by omega)]
      have := a7 (n.ys.length - 1 - (i - 1)) (by omega) (by omega)
      rw [show n.ys.length - 1 - (i - 1) - 1 = n.ys.length - 1 - i by omega] at this
      omega
  · have e : n.kind ≠ 1 := e
    obtain ⟨a1, a2⟩ := k.span e
    refine ⟨by show (n.ys.map _).reverse = []; rw [a1]; rfl, ?_⟩
    show SpanOk (if n.kind = 1 then n.lo else -n.hi) (if n.kind = 1 then n.hi else -n.lo)
    rw [if_neg e, if_neg e]
    unfold SpanOk at a2 ⊢
    omega
theorem tuN_kind {n : Nt} : (tuN n).kind = n.kind := rfl
theorem tuD_ok {d : Dt} (h1 : 1 ≤ d.stones ∧ d.stones ≤ 6) (h2 : d.notes.length ≤ 8) (h3 : ∀ n ∈ d.notes, n.kind ≠ 3 → NtOk d n) : DtOk (tuD d) where
  stones := h1
  eras_l := Nat.zero_le _
  eras s hs := by cases hs
  notes_l := by
    unfold tuD
    rw [List.length_map]
    exact Nat.le_trans (List.length_filter_le _ _) h2
  notes n hn := by
    obtain ⟨t, ht, rfl⟩ := List.mem_map.1 hn
    obtain ⟨ht1, ht2⟩ := List.mem_filter.1 ht
    have ht2 := of_decide_eq_true ht2
    exact tuN_ok (h3 t ht1 ht2) ht2
theorem tuN_right {d : Dt} {n : Nt} (k : NtOk d n) (h3 : n.kind ≠ 3) {w : Nat → Int} : (tuN n).right (fun v => -w v) ↔ n.right w := by
  have hk := k.kind
  by_cases e1 : n.kind = 1
  · have hw1 : (tuN n).wk = ⟨0, 1 + n.stone.toNat, (tuN n).ys.map fun y => (y, y)⟩ := by unfold Nt.wk; rw [if_pos (show (tuN n).kind = 1 from e1)]; rfl
    have hw2 : n.wk = ⟨0, 1 + n.stone.toNat, n.ys.map fun y => (y, y)⟩ := by unfold Nt.wk; rw [if_pos e1]
    unfold Nt.right Wk.right
    rw [hw1, hw2]
    constructor
    · rintro ⟨s, hs, q1, q2⟩
      obtain ⟨x, hx, rfl⟩ := List.mem_map.1 hs
      have hx := List.mem_reverse.1 hx
      obtain ⟨z, hz, rfl⟩ := List.mem_map.1 hx
      exact ⟨(z, z), List.mem_map.2 ⟨z, hz, rfl⟩, by dsimp only at q1 q2 ⊢; omega, by dsimp only at q1 q2 ⊢; omega⟩
    · rintro ⟨s, hs, q1, q2⟩
      obtain ⟨z, hz, rfl⟩ := List.mem_map.1 hs
      exact ⟨(-z, -z), List.mem_map.2 ⟨-z, List.mem_reverse.2 (List.mem_map.2 ⟨z, hz, rfl⟩), rfl⟩, by dsimp only at q1 q2 ⊢; omega, by dsimp only at q1 q2 ⊢; omega⟩
  · have key : ∀ a b : Nat, ∀ m : Nt, m = n ∨ m = tuN n → (m.kind = 4 → a = 1 + n.other.toNat) → (m.kind = 2 → a = 0) → b = 1 + n.stone.toNat → m.wk = ⟨a, b, [(m.lo, m.hi)]⟩ := fun a b m hm h4 h2 hb => by
      have hmk : m.kind = n.kind ∧ m.stone = n.stone ∧ m.other = n.other := by rcases hm with rfl | rfl <;> exact ⟨rfl, rfl, rfl⟩
      obtain ⟨m1, m2, m3⟩ := hmk
      unfold Nt.wk
      rw [if_neg (by omega), if_neg (by omega), m2, m3]
      by_cases e4 : m.kind = 4
      · rw [if_pos e4, h4 e4, hb]
      · rw [if_neg e4, h2 (by omega), hb]
    obtain ⟨a, ha⟩ : ∃ a : Nat, (n.kind = 4 → a = 1 + n.other.toNat) ∧ (n.kind = 2 → a = 0) := by
      by_cases e4 : n.kind = 4
      · exact ⟨_, fun _ => rfl, fun h => by omega⟩
      · exact ⟨0, fun h => absurd h e4, fun _ => rfl⟩
    have hw1 := key a _ (tuN n) (.inr rfl) ha.1 ha.2 rfl
    have hw2 := key a _ n (.inl rfl) ha.1 ha.2 rfl
    have hlo : (tuN n).lo = -n.hi := if_neg e1
    have hhi : (tuN n).hi = -n.lo := if_neg e1
    unfold Nt.right Wk.right
    rw [hw1, hw2, hlo, hhi]
    simp only [List.mem_singleton, exists_eq_left]
    omega
structure Flat (d : Dt) : Prop where
  ok : DtOk d
  eras : d.eras = []
  kinds : ∀ n ∈ d.notes, n.kind ≠ 3
theorem tuD_flat {d : Dt} (h : DtOk (tuD d)) : Flat (tuD d) := ⟨h, rfl, fun n hn => by
  obtain ⟨t, ht, rfl⟩ := List.mem_map.1 hn
  exact of_decide_eq_true (List.mem_filter.1 ht).2⟩
theorem Flat.turn {d : Dt} (h : Flat d) : Flat (tuD d) := tuD_flat (tuD_ok h.ok.stones h.ok.notes_l fun n hn _ => h.ok.notes n hn)
theorem Flat.tr {d : Dt} (h : Flat d) {w : Nat → Int} : TrD (tuD d) (fun v => -w v) ↔ TrD d w := by
  have hf : d.notes.filter (fun n => decide (n.kind ≠ 3)) = d.notes := List.filter_eq_self.2 fun n hn => decide_eq_true (h.kinds n hn)
  constructor
  · rintro ⟨z, b, _, nt⟩
    refine ⟨by omega, fun v hv => by have := b v hv; omega, fun j hj => by rw [h.eras] at hj; exact absurd hj (Nat.not_lt_zero _), fun n hn => ?_⟩
    exact (tuN_right (h.ok.notes n hn) (h.kinds n hn)).1 (nt (tuN n) (by unfold tuD; rw [hf]; exact List.mem_map_of_mem hn))
  · rintro ⟨z, b, _, nt⟩
    refine ⟨by omega, fun v hv => by have := b v hv; omega, fun j hj => absurd hj (Nat.not_lt_zero _), fun n hn => ?_⟩
    unfold tuD at hn
    rw [hf] at hn
    obtain ⟨t, ht, rfl⟩ := List.mem_map.1 hn
    exact (tuN_right (h.ok.notes t ht) (h.kinds t ht)).2 (nt t ht)
theorem Flat.tr' {d : Dt} (h : Flat d) {u : Nat → Int} (hu : TrD (tuD d) u) : TrD d (fun v => -u v) := by
  refine h.tr.1 ?_
  have e : (fun v => -(fun v => -u v) v) = u := by funext v; exact Int.neg_neg _
  exact e.symm ▸ hu
theorem tu_hull {d : Dt} (h : Flat d) (hne : tabsL d ≠ []) {i : Nat} (hi : (i : Int) < d.stones) : tabsL (tuD d) ≠ [] ∧ (joinT (tabsL (tuD d)) (1 + i)).1 = -(joinT (tabsL d) (1 + i)).2 ∧ (joinT (tabsL (tuD d)) (1 + i)).2 = -(joinT (tabsL d) (1 + i)).1 := by
  have h6 := h.ok.stones
  obtain ⟨a1, ⟨w2, t2, a2⟩, w3, t3, a3⟩ := hullD h.ok hne (v := 1 + i) (by omega)
  have s2 := h.tr.2 t2
  have s3 := h.tr.2 t3
  have hne' := (tabs_some h.turn.ok s2).1
  obtain ⟨b1, ⟨w5, t5, b2⟩, w6, t6, b3⟩ := hullD h.turn.ok hne' (v := 1 + i) (by omega)
  have c2 := b1 _ s2
  have c3 := b1 _ s3
  have c5 := a1 _ (h.tr' t5)
  have c6 := a1 _ (h.tr' t6)
  exact ⟨hne', by omega, by omega⟩
theorem tu_none {d : Dt} (h : Flat d) (hne : tabsL d = []) : tabsL (tuD d) = [] := (tabs_none h.turn.ok).2 fun u hu => (tabs_none h.ok).1 hne _ (h.tr' hu)
theorem tu_ear {d : Dt} (h : Flat d) {p q : Nat} (hp : (p : Int) < d.stones) (hq : (q : Int) < d.stones) : earV (tuD d) p q = earV d q p := by
  have h0 := checkE_ok.2 h.ok
  have h0' := checkE_ok.2 h.turn.ok
  have hst : (tuD d).stones = d.stones := rfl
  by_cases hn : tabsL d = []
  · have hn' := tu_none h hn
    have f1 : foundV d = (.nils, 9) := by unfold foundV; rw [if_neg (fun k => k h0), hn]; rfl
    have f2 : foundV (tuD d) = (.nils, 9) := by unfold foundV; rw [if_neg (fun k => k h0'), hn']; rfl
    have g1 : earV d q p = (0, 9) := by
      unfold earV
      rw [if_neg (fun k => k h0), if_neg (fun k => k ⟨⟨by omega, by omega⟩, by omega, by omega⟩), f1]; rfl
    have g2 : earV (tuD d) p q = (0, 9) := by
      unfold earV
      rw [if_neg (fun k => k h0'), if_neg (fun k => k ⟨⟨by omega, by omega⟩, by omega, by omega⟩), f2]; rfl
    rw [g1, g2]
  · obtain ⟨w, hw⟩ : ∃ w, TrD d w := Classical.byContradiction fun hno => hn ((tabs_none h.ok).2 fun u hu => hno ⟨u, hu⟩)
    obtain ⟨a1, a2, a3, a4⟩ := ear_1 h.ok hw hq hp
    obtain ⟨b1, b2, b3, b4⟩ := ear_1 h.turn.ok (h.tr.2 hw) (a := p) (c := q) (by rw [hst]; exact hp) (by rw [hst]; exact hq)
    have e1 : (earV (tuD d) p q).1 = 1 ↔ (earV d q p).1 = 1 := by
      rw [a3, b3]
      exact ⟨fun k u hu => by have := k _ (h.tr.2 hu); omega, fun k u hu => by have := k _ (h.tr' hu); omega⟩
    have e2 : (earV (tuD d) p q).1 = 2 ↔ (earV d q p).1 = 2 := by
      rw [a4, b4]
      exact ⟨fun k u hu => by have := k _ (h.tr.2 hu); omega, fun k u hu => by have := k _ (h.tr' hu); omega⟩
    exact Prod.ext (by omega) (by omega)
end Go.Proofs
