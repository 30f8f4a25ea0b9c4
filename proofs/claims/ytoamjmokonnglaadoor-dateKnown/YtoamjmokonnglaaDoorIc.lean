/- Parts of the own ideal machine over the model (no addresses, no capacities, no tape) and of the proof that it is sound; generic in the program; no conditions. -/
import Derived.Test.YtoamjmokonnglaaDoorIb
import Derived.Scope
set_option linter.all false
set_option linter.unusedSectionVars false
set_option linter.unusedSimpArgs false
set_option linter.unusedVariables false
namespace Go.Idl
open Go.RowKit
section
variable {P : Program} {w0 : World} {mu : En} {G : Gh} {look : Nat → Arg} {m : Mem} {nt : Nat} {tm : Array Value} {w : World}
theorem RR.relook {look' : Nat → Arg} (R : RR w0 mu G look m nt tm w)
    (h : ∀ s, look' s = .v .undef ∨ (∃ x, look s = .v x ∧ look' s = .v x) ∨ ∃ t off c0, look s = .pl t off c0 ∧ look' s = .pl t off (m.lcOf t c0)) :
    RR w0 mu G look' { m with lc := [] } nt tm w where
  size := R.size
  slots s := by
    have := R.slots s
    rcases h s with h | ⟨x, h1, h2⟩ | ⟨t, off, c0, h1, h2⟩
    · rw [h]; exact .undef _
    · rw [h2]; rw [h1] at this; exact this
    · rw [h2]; rw [h1] at this; exact this
  locs s t off c0 hl := by
    rcases h s with h | ⟨x, h1, h2⟩ | ⟨t', off', c', h1, h2⟩
    · rw [h] at hl; cases hl
    · rw [h2] at hl; cases hl
    · rw [h2] at hl
      cases hl
      obtain ⟨vs, el, k1, k2, k3⟩ := R.locs s _ _ _ h1
      exact ⟨vs, el, k1, k2, k3⟩
  objs := R.objs
  okb := R.okb
  keyb := R.keyb
  os := R.os
  tape := R.tape
  out := R.out
  grow := R.grow
  base := R.base
  ent := R.ent
  oks := R.oks
  mks := R.mks
theorem RR.reslot {t : Nat} {x : Vl} (R : RR w0 mu G look m nt tm w) (hA : VR G m.hp m.nx w x (tm.getD t undef)) : RR w0 mu G (upd look t (.v x)) m nt tm w where
  size := R.size
  slots s := by
    by_cases h : s = t
    · subst h; rw [upd_same]; exact hA
    · rw [upd_ne _ _ h]; exact R.slots s
  locs s t' off c0 hl := by
    by_cases h : s = t
    · subst h; rw [upd_same] at hl; cases hl
    · rw [upd_ne _ _ h] at hl; exact R.locs s t' off c0 hl
  objs := R.objs
  okb := R.okb
  keyb := R.keyb
  os := R.os
  tape := R.tape
  out := R.out
  grow := R.grow
  base := R.base
  ent := R.ent
  oks := R.oks
  mks := R.mks
def dfOf (l : List Nat) : List Deferred := l.map fun b => { target := .collected b, args := #[] }
def StR (w0 : World) (mu : En) (s : FS) (nt : Nat) (a : Act) (w : World) : Prop :=
  ∃ ds G, RR w0 { mu with dfs := ds } G (lookOf s.sl) { lc := [], hp := s.hp, nx := s.nx } nt a.tmps w ∧ a.defers = dfOf ds ∧ ds.Nodup
theorem lookOf_set {sl : List (Nat × Vl)} {t : Nat} {v : Vl} (hv : ∀ c, v ≠ .loc c) : lookOf (setS sl t v) = upd (lookOf sl) t (.v v) := by
  funext s
  unfold lookOf
  have := lookup_setL sl t s v
  unfold setL at this
  unfold setS
  rw [this]
  by_cases h : s = t
  · subst h; rw [if_pos rfl, upd_same]
    cases v <;> first | rfl | exact absurd rfl (hv _)
  · rw [if_neg h, upd_ne _ _ h]
theorem reify_noloc {hp : Nat → Ob} {v y : Vl} {ks : List Nat} (h : reify hp v = some (y, ks)) : ∀ c, y ≠ .loc c := by
  unfold reify at h
  generalize reifyF (reifyF closedV hp) hp = inn at h
  intro c hc
  subst hc
  cases v <;> simp only [reifyF] at h
  case own =>
    split at h
    · split at h
      · rw [Option.map_eq_some_iff] at h; obtain ⟨r, _, h⟩ := h; cases h
      · cases h
    · split at h
      · rw [Option.map_eq_some_iff] at h; obtain ⟨r, _, h⟩ := h; cases h
      · cases h
    · cases h
  case ep =>
    split at h
    · split at h
      · obtain ⟨x, _, h⟩ := Option.bind_eq_some_iff.1 h
        rw [Option.map_eq_some_iff] at h; obtain ⟨r, _, h⟩ := h; cases h
      · cases h
    · split at h
      · obtain ⟨x, _, h⟩ := Option.bind_eq_some_iff.1 h
        rw [Option.map_eq_some_iff] at h; obtain ⟨r, _, h⟩ := h; cases h
      · cases h
    · cases h
  case bp =>
    split at h
    · rw [Option.map_eq_some_iff] at h; obtain ⟨r, _, h⟩ := h; cases h
    · cases h
  case lst => split at h <;> cases h
  case fp => split at h <;> cases h
  case agg => rw [Option.map_eq_some_iff] at h; obtain ⟨r, _, h⟩ := h; cases h
  case tup => rw [Option.map_eq_some_iff] at h; obtain ⟨r, _, h⟩ := h; cases h
  case ifc => rw [Option.map_eq_some_iff] at h; obtain ⟨r, _, h⟩ := h; cases h
  case fn =>
    obtain ⟨x, _, h⟩ := Option.bind_eq_some_iff.1 h
    rw [Option.map_eq_some_iff] at h; obtain ⟨r, _, h⟩ := h; cases h
  all_goals cases h
theorem slot_val {sl : List (Nat × Vl)} {t : Nat} {v : Vl} {hp : Nat → Ob} {nx : Nat} (h : sl.lookup t = some v) (hv : ∀ c, v ≠ .loc c)
    (R : RR w0 mu G (lookOf sl) { lc := [], hp := hp, nx := nx } nt tm w) : VR G hp nx w v (tm.getD t undef) := by
  have := R.slots t
  have e : lookOf sl t = .v v := by
    unfold lookOf; rw [h]
    cases v <;> first | rfl | exact absurd rfl (hv _)
  rw [e] at this
  exact this
theorem frz_st {s s' : FS} {a : Act} {t : Nat} {v y : Vl} {ks : List Nat} (h : s.sl.lookup t = some v) (hr : reify s.hp v = some (y, ks)) (hs : s' = { s with sl := setS s.sl t y, hp := killHp ks s.hp })
    (S : StR w0 mu s nt a w) : StR w0 mu s' nt a w := by
  subst hs
  obtain ⟨ds, G, R, h1, h2⟩ := S
  have hv : ∀ c, v ≠ .loc c := fun c e => by subst e; cases hr
  have hV := slot_val h hv R
  obtain ⟨R', _⟩ := R.kill ks
  refine ⟨ds, G.kill ks, ?_, h1, h2⟩
  rw [lookOf_set (reify_noloc hr)]
  exact R'.reslot (reify_rel (G' := G.kill ks) R (fun b h => Or.inl h) hr (fun i hi b hb => Or.inr ⟨i, hi, hb⟩) hV).1
theorem lookOf_setLoc {sl : List (Nat × Vl)} {t : Nat} {v : Vl} : lookOf (setS sl t (.loc v)) = upd (lookOf sl) t (.pl t 0 v) := by
  funext s
  unfold lookOf
  have := lookup_setL sl t s (.loc v)
  unfold setL at this
  unfold setS
  rw [this]
  by_cases h : s = t
  · subst h; rw [if_pos rfl, upd_same]
  · rw [if_neg h, upd_ne _ _ h]
theorem reify_shape {hp : Nat → Ob} {v y : Vl} {ks : List Nat} (h : reify hp v = some (y, ks)) : ((∃ cs cs', v = .agg cs ∧ y = .agg cs') ∨ (v.cells = [v] ∧ y.cells = [y])) := by
  unfold reify at h
  generalize reifyF (reifyF closedV hp) hp = inn at h
  cases v <;> simp only [reifyF] at h
  case own =>
    split at h
    · split at h
      · rw [Option.map_eq_some_iff] at h; obtain ⟨r, _, h⟩ := h; cases h; exact .inr ⟨rfl, rfl⟩
      · cases h
    · split at h
      · rw [Option.map_eq_some_iff] at h; obtain ⟨r, _, h⟩ := h; cases h; exact .inr ⟨rfl, rfl⟩
      · cases h
    · cases h
  case ep =>
    split at h
    · split at h
      · obtain ⟨x, _, h⟩ := Option.bind_eq_some_iff.1 h
        rw [Option.map_eq_some_iff] at h; obtain ⟨r, _, h⟩ := h; cases h; exact .inr ⟨rfl, rfl⟩
      · cases h
    · split at h
      · obtain ⟨x, _, h⟩ := Option.bind_eq_some_iff.1 h
        rw [Option.map_eq_some_iff] at h; obtain ⟨r, _, h⟩ := h; cases h; exact .inr ⟨rfl, rfl⟩
      · cases h
    · cases h
  case bp =>
    split at h
    · rw [Option.map_eq_some_iff] at h; obtain ⟨r, _, h⟩ := h; cases h; exact .inr ⟨rfl, rfl⟩
    · cases h
  case lst => split at h <;> cases h; exact .inr ⟨rfl, rfl⟩
  case fp => split at h <;> cases h; exact .inr ⟨rfl, rfl⟩
  case agg => rw [Option.map_eq_some_iff] at h; obtain ⟨r, _, h⟩ := h; cases h; exact .inl ⟨_, _, rfl, rfl⟩
  case tup => rw [Option.map_eq_some_iff] at h; obtain ⟨r, _, h⟩ := h; cases h; exact .inr ⟨rfl, rfl⟩
  case ifc => rw [Option.map_eq_some_iff] at h; obtain ⟨r, _, h⟩ := h; cases h; exact .inr ⟨rfl, rfl⟩
  case fn =>
    obtain ⟨x, _, h⟩ := Option.bind_eq_some_iff.1 h
    rw [Option.map_eq_some_iff] at h; obtain ⟨r, _, h⟩ := h; cases h; exact .inr ⟨rfl, rfl⟩
  all_goals (cases h; try exact .inr ⟨rfl, rfl⟩)
theorem frz_loc {s s' : FS} {a : Act} {t : Nat} {c y : Vl} {ks : List Nat} (h : s.sl.lookup t = some (.loc c)) (hr : reify s.hp c = some (y, ks)) (hs : s' = { s with sl := setS s.sl t (.loc y), hp := killHp ks s.hp })
    (S : StR w0 mu s nt a w) : StR w0 mu s' nt a w := by
  subst hs
  obtain ⟨ds, G, R, h1, h2⟩ := S
  obtain ⟨R', Sk⟩ := R.kill ks
  have hl : lookOf s.sl t = .pl t 0 c := by unfold lookOf; rw [h]
  refine ⟨ds, G.kill ks, ?_, h1, h2⟩
  rw [lookOf_setLoc]
  have hrel : ∀ {v : Value}, VR G s.hp s.nx w c v → VR (G.kill ks) (killHp ks s.hp) s.nx w y v := fun {v} hV =>
    (reify_rel (G' := G.kill ks) R (fun b h => Or.inl h) hr (fun i hi b hb => Or.inr ⟨i, hi, hb⟩) hV).1
  obtain ⟨vs, el, k1, k2, k3⟩ := R.locs t t 0 c hl
  have k1 : VRs G s.hp s.nx w c.cells vs := k1
  have k1' : VRs (G.kill ks) (killHp ks s.hp) s.nx w y.cells vs := by
    rcases reify_shape hr with ⟨cs, cs', rfl, rfl⟩ | ⟨e1, e2⟩
    · have := hrel (.agg k1)
      generalize hv : Value.agg vs.toArray = v at this
      cases this with
      | agg q =>
        cases hv
        exact q
    · rw [e1] at k1
      rw [e2]
      cases k1 with
      | cons q1 q2 q3 =>
        cases q3
        exact .cons (hrel q1) q2 .nil
  exact {
    size := R'.size
    slots := fun s' => by
      by_cases h : s' = t
      · subst h; rw [upd_same]; have := R'.slots s'; rw [hl] at this; exact this
      · rw [upd_ne _ _ h]; exact R'.slots s'
    locs := fun s' t' off c0 h => by
      by_cases h' : s' = t
      · subst h'; rw [upd_same] at h; cases h
        obtain ⟨vs', el', j1, j2, j3⟩ := R'.locs s' _ _ _ hl
        have e1 : (G.kill ks).lb s' = G.lb s' := rfl
        rw [e1] at j2
        rw [k2] at j2
        cases j2
        exact ⟨vs, el, k1', k2, j3⟩
      · rw [upd_ne _ _ h'] at h; exact R'.locs s' t' off c0 h
    objs := R'.objs
    okb := R'.okb
    keyb := R'.keyb
    os := R'.os
    tape := R'.tape
    out := R'.out
    grow := R'.grow
    base := R'.base
    ent := R'.ent
    oks := R'.oks
    mks := R'.mks }
theorem VRs_setNil {hp : Nat → Ob} {nx : Nat} {x : Vl} (hx : VR G hp nx w x (.slice none 0 0)) : ∀ {cs : List Vl} {vs : List Value} {off : Nat}, VRs G hp nx w cs vs → cs[off]? = some .nils → VRs G hp nx w (cs.set off x) vs
  | c :: cs, _, 0, .cons h1 h2 h3, he => by
    simp only [List.getElem?_cons_zero, Option.some.injEq] at he
    subst he
    cases h1
    exact .cons hx rfl h3
  | c :: cs, _, off + 1, .cons h1 h2 h3, he => .cons h1 h2 (VRs_setNil hx h3 (by simpa using he))
theorem gho_st {g : Gho} {s s' : FS} {a : Act} (h : g.run s = some s') (S : StR w0 mu s nt a w) : StR w0 mu s' nt a w := by
  cases g with
  | own t e =>
    simp only [Gho.run] at h
    split at h
    case h_2 => cases h
    rename_i hl
    split at h
    case isFalse => cases h
    rename_i he
    cases h
    obtain ⟨ds, G, R, h1, h2⟩ := S
    have hV := slot_val hl (by simp) R
    obtain ⟨G', R', hv⟩ := R.newArr (e := e) (xs := []) (a := none) (c := 0) (w' := w) he (Nat.le_refl _) (Nat.zero_le _) (Below.refl _ _) (.inl ⟨rfl, rfl⟩)
    refine ⟨ds, G', ?_, h1, h2⟩
    rw [lookOf_set (by simp)]
    refine R'.reslot ?_
    generalize htm : a.tmps.getD t undef = u at hV
    cases hV
    exact hv
  | ownF t off e =>
    simp only [Gho.run] at h
    split at h
    case h_2 => cases h
    rename_i cs hl
    split at h
    case h_2 => cases h
    rename_i hn
    split at h
    case isFalse => cases h
    rename_i he
    cases h
    obtain ⟨ds, G, R, h1, h2⟩ := S
    obtain ⟨G', R', hv⟩ := R.newArr (e := e) (xs := []) (a := none) (c := 0) (w' := w) he (Nat.le_refl _) (Nat.zero_le _) (Below.refl _ _) (.inl ⟨rfl, rfl⟩)
    refine ⟨ds, G', ?_, h1, h2⟩
    rw [lookOf_setLoc]
    have hl' : lookOf s.sl t = .pl t 0 (.agg cs) := by unfold lookOf; rw [hl]
    obtain ⟨vs, el, k1, k2, k3⟩ := R'.locs t t 0 _ hl'
    exact {
      size := R'.size
      slots := fun s' => by
        by_cases h : s' = t
        · subst h; rw [upd_same]; have := R'.slots s'; rw [hl'] at this; exact this
        · rw [upd_ne _ _ h]; exact R'.slots s'
      locs := fun s' t' off' c0 h => by
        by_cases h' : s' = t
        · subst h'; rw [upd_same] at h; cases h
          exact ⟨vs, el, VRs_setNil hv k1 hn, k2, k3⟩
        · rw [upd_ne _ _ h'] at h; exact R'.locs s' t' off' c0 h
      objs := R'.objs
      okb := R'.okb
      keyb := R'.keyb
      os := R'.os
      tape := R'.tape
      out := R'.out
      grow := R'.grow
      base := R'.base
      ent := R'.ent
      oks := R'.oks
      mks := R'.mks }
  | lst t e =>
    simp only [Gho.run] at h
    split at h
    · rename_i hl
      cases h
      obtain ⟨ds, G, R, h1, h2⟩ := S
      have hV := slot_val hl (by simp) R
      refine ⟨ds, G, ?_, h1, h2⟩
      rw [lookOf_set (by simp)]
      refine R.reslot ?_
      generalize htm : a.tmps.getD t undef = u at hV
      cases hV
      exact .lst rfl (Nat.le_refl _) (by simp) .nil
    · rename_i e' xs x hl
      split at h
      case isFalse => cases h
      rename_i he
      subst he
      cases h
      obtain ⟨ds, G, R, h1, h2⟩ := S
      have hV := slot_val hl (by simp) R
      refine ⟨ds, G, ?_, h1, h2⟩
      rw [lookOf_set (by simp)]
      refine R.reslot ?_
      generalize htm : a.tmps.getD t undef = u at hV
      cases hV with | lst k1 k2 k3 k4 =>
      exact .lst k1 k2 (by simp) k4
    · rename_i id n hl
      rw [Option.map_eq_some_iff] at h
      obtain ⟨r, h1, h2⟩ := h
      exact frz_st hl (y := r.1) (ks := r.2) h1 h2.symm S
    · cases h
  | frz t =>
    simp only [Gho.run] at h
    split at h
    · rename_i c hl
      split at h
      · rename_i r hr
        cases h
        exact frz_loc hl (y := r.1) (ks := r.2) hr rfl S
      · cases h; exact S
    · rename_i v hv hl
      split at h
      · split at h
        · rename_i r hr
          cases h
          exact frz_st hl (y := r.1) (ks := r.2) hr rfl S
        · cases h; exact S
      · cases h; exact S
    · cases h; exact S
theorem ghosts_st {a : Act} : ∀ {gs : List Gho} {s s' : FS}, ghosts gs s = some s' → StR w0 mu s nt a w → StR w0 mu s' nt a w
  | [], s, s', h, S => by cases h; exact S
  | g :: gs, s, s', h, S => by
    obtain ⟨s1, h1, h2⟩ := Option.bind_eq_some_iff.1 h
    exact ghosts_st h2 (gho_st h1 S)
theorem lookOf_pl {sl : List (Nat × Vl)} {s t off : Nat} {c0 : Vl} (h : lookOf sl s = .pl t off c0) : t = s ∧ off = 0 ∧ sl.lookup s = some (.loc c0) := by
  unfold lookOf at h
  split at h
  · rename_i c hc; cases h; exact ⟨rfl, rfl, hc⟩
  · cases h
  · cases h
theorem lookup_filter_some {sl : List (Nat × Vl)} {p : Nat × Vl → Bool} {q : Nat → Bool} (hp : ∀ x, p x = q x.1) (t : Nat) : (sl.filter p).lookup t = if q t then sl.lookup t else none := by
  induction sl with
  | nil => simp
  | cons x xs ih =>
    obtain ⟨k, v⟩ := x
    rw [List.filter_cons, hp]
    by_cases h : t = k
    · subst h
      by_cases hq : q t = true
      · simp [hq]
      · rw [if_neg hq, ih, if_neg hq, if_neg hq]
    · have hb : (t == k) = false := by simpa using h
      by_cases hq : q k = true
      · rw [if_pos hq]; simp only [List.lookup_cons, hb, ih]
      · rw [if_neg hq]; simp only [List.lookup_cons, hb, ih]
theorem keep_get {kp : List Nat} {look : Nat → Arg} {m : Mem} (hnl : ∀ s c, look s ≠ .v (.loc c)) (s : Nat) : lookOf (keepS kp look m) s = .v .undef ∨ (∃ x, look s = .v x ∧ lookOf (keepS kp look m) s = .v x) ∨ ∃ t off c0, look s = .pl t off c0 ∧ lookOf (keepS kp look m) s = .pl t off (m.lcOf t c0) := by
  have key : (keepS kp look m).lookup s = none ∨ (∃ x, (∀ c, x ≠ .loc c) ∧ look s = .v x ∧ (keepS kp look m).lookup s = some x) ∨ (∃ c, look s = .v (.loc c)) ∨ ∃ c0, look s = .pl s 0 c0 ∧ (keepS kp look m).lookup s = some (.loc (m.lcOf s c0)) := by
    induction kp with
    | nil => exact .inl rfl
    | cons k kp ih =>
      unfold keepS
      rw [List.filterMap_cons]
      by_cases hk : s = k
      · subst hk
        cases hl : look s with
        | v x =>
          cases x with
          | loc c => exact .inr (.inr (.inl ⟨c, rfl⟩))
          | _ => simp only [List.lookup_cons, beq_self_eq_true]; exact .inr (.inl ⟨_, by simp, rfl, rfl⟩)
        | pl t off c0 =>
          simp only
          by_cases hc : t = s ∧ off = 0
          · obtain ⟨rfl, rfl⟩ := hc
            simp only [and_self, if_true, List.lookup_cons, beq_self_eq_true]
            exact .inr (.inr (.inr ⟨c0, rfl, rfl⟩))
          · rw [if_neg hc]; unfold keepS at ih; rw [hl] at ih; exact ih
      · have hb : (s == k) = false := by simpa using hk
        unfold keepS at ih
        split
        · exact ih
        · rename_i y hy
          have : y.1 = k := by
            revert hy
            cases hl : look k with
            | v x => cases x <;> simp <;> (intro h; rw [← h])
            | pl t off c0 =>
              simp only
              split
              · rename_i h; intro h; cases h; rfl
              · intro h; cases h
          obtain ⟨y1, y2⟩ := y
          subst this
          simp only [List.lookup_cons, hb]
          exact ih
  unfold lookOf
  rcases key with h | ⟨x, h1, h2, h3⟩ | ⟨c, h⟩ | ⟨c0, h1, h2⟩
  · rw [h]; exact .inl rfl
  · rw [h3]
    refine .inr (.inl ⟨x, h2, ?_⟩)
    cases x <;> first | rfl | exact absurd rfl (h1 _)
  · exact absurd h (hnl s c)
  · rw [h2]
    exact .inr (.inr ⟨s, 0, c0, h1, rfl⟩)
theorem RR.noLoc (R : RR w0 mu G look m nt tm w) (s : Nat) (c : Vl) : look s ≠ .v (.loc c) := fun h => by
  have := R.slots s
  rw [h] at this
  have this : VR G m.hp m.nx w (.loc c) (tm.getD s undef) := this
  cases this
theorem base_st {s : FS} {ds : List Nat} {a : Act} {mu : En} (R : RR w0 mu G (lookOf s.sl) { lc := [], hp := s.hp, nx := s.nx } nt a.tmps w) :
    RR w0 mu G (lookOf (s.sl.filter fun p => !ds.contains p.1)) { lc := [], hp := s.hp, nx := s.nx } nt a.tmps w ∧
      Roots (lookOf (s.sl.filter fun p => !ds.contains p.1)) { lc := [], hp := s.hp, nx := s.nx } (fun t => t ∉ ds) := by
  have hl : ∀ t, (s.sl.filter fun p => !ds.contains p.1).lookup t = if !ds.contains t then s.sl.lookup t else none := fun t => lookup_filter_some (q := fun t => !ds.contains t) (fun _ => rfl) t
  refine ⟨R.relook fun t => ?_, fun t t' off c0 h => ?_, fun t c h => by cases h⟩
  · have e : lookOf (s.sl.filter fun p => !ds.contains p.1) t = if !ds.contains t then lookOf s.sl t else .v .undef := by
      by_cases hc : (!ds.contains t) = true
      · rw [if_pos hc]; unfold lookOf; rw [hl, if_pos hc]
      · rw [if_neg hc]; unfold lookOf; rw [hl, if_neg hc]
    rw [e]
    split
    · cases hk : lookOf s.sl t with
      | v x => exact .inr (.inl ⟨x, rfl, rfl⟩)
      | pl t' off c0 => exact .inr (.inr ⟨t', off, c0, rfl, rfl⟩)
    · exact .inl rfl
  · obtain ⟨rfl, _, h⟩ := lookOf_pl h
    rw [hl] at h
    split at h
    · rename_i hc; simpa using hc
    · cases h
theorem region_wp {F : Fence} {A : Ann} {call : Caller} (hP : ProgOk P) (hcall : CallOk P call) (hF : WideF P F mu.G.ok w0) {n : Nat} {f id : Nat} {ops : Array Oper} {s s' : FS} {a : Act}
    (hd : codeOk nt (.region id ops false) = true) (h : regionI P A call f id ops false s = some s') (S : StR w0 mu s nt a w) :
    (Code.region id ops false).wpIn F n P (fun e a' w' => e = .normal ∧ StR w0 mu s' nt a' w') a w := by
  unfold regionI at h
  obtain ⟨s1, hg, h⟩ := Option.bind_eq_some_iff.1 h
  obtain ⟨ds, G, R, hdf, hnd⟩ := ghosts_st hg S
  simp only at h
  split at h
  · cases h
  rename_i hno
  have hno : nodupI (allocDsts ops) = true := by simpa using hno
  rw [if_neg (by simp), Option.map_eq_some_iff] at h
  obtain ⟨⟨ov, m'⟩, h1, h2⟩ := h
  obtain ⟨R1, hR1⟩ := base_st (ds := allocDsts ops) R
  have hb0 : ovLook (lookOf (s1.sl.filter fun p => !(allocDsts ops).contains p.1)) [] = lookOf (s1.sl.filter fun p => !(allocDsts ops).contains p.1) := rfl
  refine wpIn_region_list ?_
  refine runOps_wp (mu := { mu with dfs := ds }) hP hcall hF ops.toList [] _ ov m' _ G a w (fun o ho t ht => ?_) (nodup_of hno) (fun o ho hal t ht hS => ?_) R1 hR1 hdf h1 (fun G' a' w' R' hdf' => ⟨rfl, ds, G', ?_, hdf', hnd⟩)
  · have := List.all_eq_true.1 hd o ho
    rw [ht] at this
    simpa using this
  · exact hS (List.mem_filterMap.2 ⟨o, ho, by rw [if_pos hal]; exact ht⟩)
  · subst h2
    exact R'.relook (fun t => keep_get (fun s c => R'.noLoc s c) t)
end
end Go.Idl
namespace Go.Idl
open Go.RowKit
theorem codeOk_mono {n k : Nat} (h : n ≤ k) : ∀ (c : Code), codeOk n c = true → codeOk k c = true
  | .region _ ops _, hc => by
    simp only [codeOk, List.all_eq_true] at hc ⊢
    intro o ho
    have := hc o ho
    cases hd : o.dst with
    | none => rfl
    | some d =>
      rw [hd] at this
      exact decide_eq_true (Nat.lt_of_lt_of_le (of_decide_eq_true this) h)
  | .seq a b, hc => by
    simp only [codeOk, Bool.and_eq_true] at hc ⊢
    exact ⟨codeOk_mono h a hc.1, codeOk_mono h b hc.2⟩
  | .cond _ a b, hc => by
    simp only [codeOk, Bool.and_eq_true] at hc ⊢
    exact ⟨codeOk_mono h a hc.1, codeOk_mono h b hc.2⟩
  | .block _ c, hc => codeOk_mono h c hc
  | .loop c, hc => codeOk_mono h c hc
  | .scope c, hc => codeOk_mono h c hc
  | .rangeFunc _ ps a b, hc => by
    simp only [codeOk, Bool.and_eq_true, List.all_eq_true, decide_eq_true_eq] at hc ⊢
    exact ⟨⟨fun p hp => Nat.lt_of_lt_of_le (hc.1.1 p hp) h, codeOk_mono h a hc.1.2⟩, codeOk_mono h b hc.2⟩
  | .skip, _ => rfl
  | .exit _, _ => rfl
  | .label _, _ => rfl
  | .goto _, _ => rfl
  | .ret, _ => rfl
  | .refuse _, _ => rfl
section
variable {P : Program} {w0 : World} {mu : En} {G : Gh} {look : Nat → Arg} {m : Mem} {nt : Nat} {tm : Array Value} {w : World}
theorem zip_lookup {hp : Nat → Ob} {nx : Nat} : ∀ {args : List Vl} {vs : List Value} (i : Nat), VRt G hp nx w args vs → ∀ s,
    (lookOf (zipS i args) s = .v .undef) ∨ ∃ x v, lookOf (zipS i args) s = .v x ∧ i ≤ s ∧ vs[s - i]? = some v ∧ VR G hp nx w x v
  | _, _, i, .nil, s => .inl rfl
  | _, _, i, .cons (x := x) (xs := xs) (v := v) (vs := vs) h t, s => by
    by_cases hs : s = i
    · subst hs
      refine .inr ⟨x, v, ?_, Nat.le_refl _, by simp, h⟩
      show (match ((s, x) :: zipS (s + 1) xs).lookup s with | some (.loc c) => Arg.pl s 0 c | some v => .v v | none => .v .undef) = _
      simp only [List.lookup_cons, beq_self_eq_true]
      cases h <;> rfl
    · have e : lookOf (zipS i (x :: xs)) s = lookOf (zipS (i + 1) xs) s := by
        unfold lookOf
        show (match ((i, x) :: zipS (i + 1) xs).lookup s with | some (.loc c) => Arg.pl s 0 c | some v => .v v | none => .v .undef) = _
        have hb : (s == i) = false := by simpa using hs
        simp only [List.lookup_cons, hb]
        rfl
      rw [e]
      rcases zip_lookup (i + 1) t s with h' | ⟨y, u, h1, h2, h3, h4⟩
      · exact .inl h'
      · refine .inr ⟨y, u, h1, by omega, ?_, h4⟩
        rw [show s - i = (s - (i + 1)) + 1 by omega]
        simpa using h3
theorem begin_st {hp : Nat → Ob} {nx : Nat} {args : List Vl} {vs : List Value} {k : Nat} (H : HH w0 mu G hp nx w) (hm : mu.dfs = []) (hv : VRt G hp nx w args vs) :
    StR w0 mu { sl := zipS 0 args, hp := hp, nx := nx } (vs.toArray ++ Array.replicate k undef).size { tmps := vs.toArray ++ Array.replicate k undef, defers := [] } w := by
  have hmu : ({ mu with dfs := [] } : En) = mu := by rw [← hm]
  refine ⟨[], G, ?_, rfl, .nil⟩
  rw [hmu]
  exact {
    size := rfl
    slots := fun s => by
      rcases zip_lookup 0 hv s with h | ⟨x, v, h1, h2, h3, h4⟩
      · rw [h]; exact .undef _
      · rw [h1]
        show VR _ _ _ _ x _
        have : (vs.toArray ++ Array.replicate k undef).getD s undef = v := by
          rw [Array.getD_eq_getD_getElem?, Array.getElem?_append]
          have hlt : s < vs.length := by
            have := (List.getElem?_eq_some_iff.1 h3).1
            simpa using this
          rw [if_pos (by simpa using hlt)]
          simp only [List.getElem?_toArray]
          rw [Nat.sub_zero] at h3
          rw [h3]; rfl
        rw [this]; exact h4
    locs := fun s t off c0 h => by
      rcases zip_lookup 0 hv s with h' | ⟨x, v, h1, _⟩
      · rw [h'] at h; cases h
      · rw [h1] at h; cases h
    objs := H.objs, okb := H.okb, keyb := H.keyb, os := H.os, tape := H.tape, out := H.out, grow := H.grow, base := H.base, ent := H.ent, oks := H.oks, mks := H.mks }
def resultRun (a : Array Value) : ResultVar → Sem Value
  | .tmp t => pure (a.getD t undef)
  | .cell x t => do loadVar t (← asAddr (a.getD x undef))
theorem result_run {s : FS} {rv : ResultVar} {x : Vl} (R : RR w0 mu G (lookOf s.sl) { lc := [], hp := s.hp, nx := s.nx } nt tm w) (h : resultI P s rv = some x) :
    ∃ v, (resultRun tm rv).run P w = .ok v w ∧ VR G s.hp s.nx w x v := by
  cases rv with
  | tmp t =>
    simp only [resultI] at h
    split at h
    · rename_i y hy
      cases h
      have := R.slots t
      rw [hy] at this
      exact ⟨_, by simp [resultRun], this⟩
    · cases h
  | cell a t =>
    simp only [resultI] at h
    split at h
    case isFalse => cases h
    rename_i hok
    obtain ⟨ad, base, off, vs, h1, h2, h3, h4⟩ := read_at h R (R.slots a) (fun t off c0 hl => R.locs a t off c0 hl)
    obtain ⟨u, hu, hv⟩ := load_run (P := P) hok h2 h3 h4
    refine ⟨u, ?_, hv⟩
    have : (resultRun tm (.cell a t)).run P w = (Instr.loadAt t (.pointer (some ad))).run P w := by
      simp [resultRun, h1, asAddr, Instr.loadAt, Instr.sureAddr]
    rw [this]; exact hu
theorem results_list {s : FS} (R : RR w0 mu G (lookOf s.sl) { lc := [], hp := s.hp, nx := s.nx } nt tm w) : ∀ {l : List ResultVar} {xs : List Vl}, mapO (resultI P s) l = some xs →
    ∃ vs, (l.mapM (resultRun tm)).run P w = .ok vs w ∧ VRt G s.hp s.nx w xs vs
  | [], xs, h => by cases h; exact ⟨[], by simp, .nil⟩
  | rv :: l, xs, h => by
    simp only [mapO] at h
    obtain ⟨x, h1, h⟩ := Option.bind_eq_some_iff.1 h
    rw [Option.map_eq_some_iff] at h
    obtain ⟨ys, h2, rfl⟩ := h
    obtain ⟨v, k1, k2⟩ := result_run R h1
    obtain ⟨vs, k3, k4⟩ := results_list R h2
    exact ⟨v :: vs, by simp [List.mapM_cons, k1, k3], .cons k2 k4⟩
theorem results_run {s : FS} {fn : Func} {xs : List Vl} (R : RR w0 mu G (lookOf s.sl) { lc := [], hp := s.hp, nx := s.nx } nt tm w) (h : mapO (resultI P s) fn.results.toList = some xs) :
    ∃ v, (results fn tm).run P w = .ok v w ∧ VR G s.hp s.nx w (tupled xs) v := by
  obtain ⟨vs, h1, h2⟩ := results_list R h
  have e : results fn tm = (do let vs ← fn.results.mapM (resultRun tm); pure (if h : vs.size = 1 then vs[0] else .tuple vs)) := by
    unfold results
    congr 1
  have hm : (fn.results.mapM (resultRun tm)).run P w = .ok vs.toArray w := by
    rw [Array.mapM_eq_mapM_toList, Sem.run_map, h1]
    rfl
  refine ⟨if h : vs.toArray.size = 1 then vs.toArray[0] else .tuple vs.toArray, ?_, ?_⟩
  · rw [e, Sem.run_bind, hm]; rfl
  · cases h2 with
    | nil => exact .tup .nil
    | cons g1 g2 => cases g2 with
      | nil => simpa [tupled] using g1
      | cons g3 g4 => simp [tupled]; exact .tup (.cons g1 (.cons g3 g4))
theorem leaves_end {F : Fence} {n : Nat} {fn : Func} {s : FS} {xs : List Vl} {R : Ending → World → Prop} (h : mapO (resultI P s) fn.results.toList = some xs)
    (hR : ∀ v G' w', RR w0 { mu with dfs := [] } G' (lookOf s.sl) { lc := [], hp := s.hp, nx := s.nx } nt tm w' → VR G' s.hp s.nx w' (tupled xs) v → R (.returned v) w') :
    ∀ (ds : List Nat) (G : Gh) (w : World), RR w0 { mu with dfs := ds } G (lookOf s.sl) { lc := [], hp := s.hp, nx := s.nx } nt tm w → ds.Nodup → LeavesInM F n P fn tm R (dfOf ds) .returning w
  | [], G, w, hr, _ => by
    obtain ⟨v, h1, h2⟩ := results_run hr h
    exact ⟨v, h1, hR v G w hr h2⟩
  | d :: ds, G, w, hr, hn => by
    refine ⟨by simp, .inl ⟨d, _, rfl, run_takeDeferred (hr.mks d (by simp)).2, ?_⟩⟩
    have := hr.shut (b := d) (ds := ds) rfl (List.nodup_cons.1 hn).1
    exact leaves_end h hR ds _ _ this (List.nodup_cons.1 hn).2
def XE.toExit : XE → Exit
  | .normal => .normal
  | .exit id => .exit id
  | .ret => .ret
def RoR (F : Fence) (ro : Option Nat) (mu : En) : Prop :=
  match ro with
  | none => F.round = none
  | some k => k < mu.nx ∧ ∃ l, F.round = some l ∧ ((mu.hp k).rk = 1 → mu.G.bb k = l)
def ExOk (P : Program) (ex : Ex) : Prop := ∀ ro f c s e s', ex ro f c s = some (e, s') → ∀ F n w0 mu nt a w, WideF P F mu.G.ok w0 → RoR F ro mu → codeOk nt c = true → StR w0 mu s nt a w →
  Code.wpIn F n P c (fun e' a' w' => e' = e.toExit ∧ StR w0 mu s' nt a' w') a w
theorem wide_plain {F : Fence} {K : Nat → Prop} {w0 : World} (hF : WideF P F K w0) : WideF P F.plain K w0 := ⟨hF.fn, hF.depth, hF.alive, hF.tabs⟩
theorem run_calls {A : Ann} {ex : Ex} (hP : ProgOk P) (hex : ExOk P ex) {g : FuncId} {args : List Vl} {hp hp' : Nat → Ob} {nx nx' : Nat} {r : Vl} (h : runI P A (ex none) g args hp nx = some (r, hp', nx'))
    {F : Fence} {n : Nat} {mu : En} {G : Gh} {w : World} {vs : List Value} (hF : WideF P F mu.G.ok w) (H : HH w mu G hp nx w) (hm : mu.dfs = []) (hv : VRt G hp nx w args vs) :
    (∃ fn, P.funcs[g]? = some fn ∧ fn.body.isSome = true) ∧ CallsIn F n P g vs.toArray w (fun e w' => ∃ v, e = .returned v ∧ ∃ G', HH w mu G' hp' nx' w' ∧ VR G' hp' nx' w' r v) := by
  unfold runI at h
  obtain ⟨fn, hfn, h⟩ := Option.bind_eq_some_iff.1 h
  obtain ⟨c, hb, h⟩ := Option.bind_eq_some_iff.1 h
  obtain ⟨⟨e, s1⟩, hex1, h⟩ := Option.bind_eq_some_iff.1 h
  have hne : ∀ id, e ≠ .exit id := fun id he => by subst he; cases h
  have h : ((ghosts (A.fin g) s1).bind fun s => (mapO (resultI P s) fn.results.toList).map fun vs => (tupled vs, s.hp, s.nx)) = some (r, hp', nx') := by
    cases e with
    | normal => exact h
    | ret => exact h
    | exit id => exact absurd rfl (hne id)
  obtain ⟨s2, hg, h⟩ := Option.bind_eq_some_iff.1 h
  rw [Option.map_eq_some_iff] at h
  obtain ⟨xs, hxs, h⟩ := h
  cases h
  refine ⟨⟨fn, hfn, by rw [hb]; rfl⟩, ?_⟩
  have S0 := begin_st (k := fn.ntmps - vs.length) H hm hv
  have hmu : ({ mu with dfs := [] } : En) = mu := by rw [← hm]
  have hwp := hex none g c _ e s1 hex1 F.plain n w mu _ _ w (wide_plain hF) rfl (codeOk_mono (by simp; omega) c (hP.slots g fn c hfn hb)) S0
  have key : CallsIn F.plain n P g vs.toArray w (fun e w' => ∃ v, e = .returned v ∧ ∃ G', HH w mu G' s2.hp s2.nx w' ∧ VR G' s2.hp s2.nx w' (tupled xs) v) := by
    refine callsIn_of_wp_marks hfn hb (hF.fn g) ?_ rfl
    refine wpIn_mono (by simpa using hwp) fun e' a' w' hq => ?_
    obtain ⟨rfl, S⟩ := hq
    obtain ⟨ds, G1, R1, hdf, hnd⟩ := ghosts_st hg S
    have hl : LeavesInM F.plain n P fn a'.tmps (fun e w' => ∃ v, e = .returned v ∧ ∃ G', HH w mu G' s2.hp s2.nx w' ∧ VR G' s2.hp s2.nx w' (tupled xs) v) a'.defers .returning w' := by
      rw [hdf]
      refine leaves_end hxs (fun v G' w'' R2 hv2 => ⟨v, rfl, G', ?_, hv2⟩) ds G1 w' R1 hnd
      rw [hmu] at R2
      exact R2.heap
    cases e with
    | normal => exact hl
    | ret => exact hl
    | exit id => exact absurd rfl (hne id)
  exact key
end
end Go.Idl
namespace Go.Idl
open Go.RowKit
section
variable {P : Program} {w0 : World} {mu : En} {G : Gh} {look : Nat → Arg} {m : Mem} {nt : Nat} {tm : Array Value} {w : World}
def gOf (K : Nat → Prop) : Gh := { lb := fun _ => 0, sv := fun _ => undef, bb := fun _ => 0, key := fun _ => none, ok := K }
def PCall (P : Program) (g : FuncId) (args : List Vl) (r : Vl) : Prop := ∀ F n (K : Nat → Prop) (w : World) (vs : List Value), WideF P F K w → (∀ b, K b → b < w.heap.size) → VRt (gOf K) noHeap 0 w args vs →
  (∃ fn, P.funcs[g]? = some fn ∧ fn.body.isSome = true) ∧ CallsIn F n P g vs.toArray w (fun e w' => ∃ v, e = .returned v ∧ Below w.heap.size w w' ∧
    VR (gOf fun b => K b ∨ (w.heap.size ≤ b ∧ b < w'.heap.size)) noHeap 0 w' r v ∧ r.closed = true)
def BldC (P : Program) (g : FuncId) (args : Array Value) (t e b : Nat) (v0 : Value) (w : World) (r : Value) (l' : Option (List UInt8)) : Prop :=
  Calls P g args w fun en w' => en = .returned r ∧ w'.os = w.os ∧ w'.tape = w.tape ∧ w'.output = w.output ∧ w.heap.size ≤ w'.heap.size ∧
    (∀ k, k < w.heap.size → k ≠ b → v0.ownBlock ≠ some k → w'.heap[k]? = w.heap[k]?) ∧
    ∀ l, l' = some l → ∃ p v, (p = .pointer none ∨ p = .pointer (some ⟨b, 0, none⟩)) ∧ w'.heap[b]? = some (.cells #[p, v] t (0, 0)) ∧ w'.ownsRow 0 e 1 v l.length (Lib.byteCells l) ∧ v.ownBlock ≠ some b ∧
      ∀ g, v.ownBlock = some g → v0.ownBlock = some g ∨ w.heap.size ≤ g
def BldOk (P : Program) (g : FuncId) (k : BK) (t e : TypeId) : Prop :=
  (∃ fn, P.funcs[g]? = some fn ∧ fn.body.isSome = true) ∧
  ∀ b p v l w, (p = .pointer none ∨ p = .pointer (some ⟨b, 0, none⟩)) → w.heap[b]? = some (.cells #[p, v] t (0, 0)) → w.ownsRow 0 e 1 v l.length (Lib.byteCells l) → v.ownBlock ≠ some b →
    match k with
    | .ws => ∀ s : ByteArray, l.length + s.size ≤ 140737488355328 → BldC P g #[.pointer (some ⟨b, 0, none⟩), .string s] t e b v w (.tuple #[.int .i64 s.size, .nilIface]) (some (l ++ s.data.toList))
    | .wb => ∀ c : Int, l.length + 1 ≤ 140737488355328 → 0 ≤ c → c < 256 → BldC P g #[.pointer (some ⟨b, 0, none⟩), .int .u8 c] t e b v w .nilIface (some (l ++ [UInt8.ofNat c.toNat]))
    | .str => BldC P g #[.pointer (some ⟨b, 0, none⟩)] t e b v w (.string ⟨l.toArray⟩) none
structure ExtOk (P : Program) (A : Ann) : Prop where
  ext : ∀ g h args r, A.ext g = some h → h args = some r → PCall P g args r
  bld : ∀ g k, A.bld g = some k → BldOk P g k.1 k.2.1 k.2.2
theorem hh_pure (K : Nat → Prop) (hK : ∀ b, K b → b < w.heap.size) : HH w ⟨gOf K, noHeap, 0, []⟩ (gOf K) noHeap 0 w where
  size := rfl
  slots _ := .undef _
  locs _ _ _ _ h := by cases h
  objs id h := absurd h (Nat.not_lt_zero _)
  okb b h := ⟨hK b h, rfl⟩
  keyb b k h := by cases h
  os := rfl
  tape := rfl
  out := rfl
  grow := Nat.le_refl _
  base _ _ _ := rfl
  ent := Step.refl _ _ _ _
  oks b h := .inr (.inr h)
  mks b h := by cases h
theorem pure_calls {A : Ann} {ex : Ex} (hP : ProgOk P) (hA : ExtOk P A) (hex : ExOk P ex) {g : FuncId} {args : List Vl} {r : Vl} (h : pureI P A (ex none) g args = some r) : PCall P g args r := by
  unfold pureI at h
  split at h
  · rename_i f hf; exact hA.ext g f args r hf h
  · obtain ⟨⟨q, hp', nx'⟩, h1, h⟩ := Option.bind_eq_some_iff.1 h
    rw [Option.map_eq_some_iff] at h
    obtain ⟨⟨y, ks⟩, h2, h3⟩ := h
    obtain rfl : y = r := h3
    intro F n K w vs hF hK hv
    obtain ⟨hb, hc⟩ := run_calls hP hex h1 (n := n) hF (hh_pure K hK) rfl hv
    refine ⟨hb, CallsIn.mono hc fun e w' he => ?_⟩
    obtain ⟨v, rfl, G', H, hV⟩ := he
    have hmay : ∀ b, ¬ ({ G := gOf K, hp := noHeap, nx := 0, dfs := [] } : En).may b := fun b ⟨i, hi⟩ => by cases hi
    have hB : Below w.heap.size w w' := ⟨H.os, H.tape, H.out, H.grow, fun b hb => H.base b hb (hmay b)⟩
    have hold : ∀ b, (w.heap.size ≤ b ∨ ({ G := gOf K, hp := noHeap, nx := 0, dfs := [] } : En).may b ∨ K b) → b < w'.heap.size → (K b ∨ (w.heap.size ≤ b ∧ b < w'.heap.size)) := fun b h hlt => by
      rcases h with h | h | h
      · exact .inr ⟨h, hlt⟩
      · exact absurd h (hmay b)
      · exact .inl h
    have hr := reify_rel (G' := gOf fun b => K b ∨ (w.heap.size ≤ b ∧ b < w'.heap.size)) (hp' := noHeap) (nx' := 0) H (fun b hb => hold b (H.oks b hb) (H.okb b hb).1) h2
      (fun i _ b hb => hold b (by rcases (H.keyb b _ hb).2 with h | h; exact .inl h; exact .inr (.inl h)) (H.keyb b _ hb).1) hV
    exact ⟨v, rfl, hB, hr.1, hr.2⟩
theorem ars_vals : ∀ {args : List Arg} {vs : List Value} {xs : List Vl}, ARs G m w args vs → mapO argV args = some xs → VRt G m.hp m.nx w xs vs
  | _, _, xs, .nil, h => by cases h; exact .nil
  | _, _, xs, .cons (g := g) hA _ t, h => by
    simp only [mapO] at h
    obtain ⟨x, h1, h⟩ := Option.bind_eq_some_iff.1 h
    rw [Option.map_eq_some_iff] at h
    obtain ⟨ys, h2, rfl⟩ := h
    cases g with
    | v y => cases h1; exact .cons hA (ars_vals t h2)
    | pl _ _ _ => cases h1
theorem reifyAs_rel {G' : Gh} (R : RR w0 mu G look m nt tm w) (hok : ∀ b, G.ok b → G'.ok b) : ∀ {args : List Arg} {vs : List Value} {ys : List Vl} {ks : List Nat} {p : Bool}, ARs G m w args vs → reifyAs m args = some (ys, ks, p) →
    (∀ i ∈ ks, ∀ b, G.key b = some (.id i) → G'.ok b) → (p = true → ∀ b t, G.key b = some (.loc t) → G'.ok b) → VRt G' noHeap 0 w ys vs ∧ closedL ys = true
  | _, _, ys, ks, p, .nil, h, _, _ => by cases h; exact ⟨.nil, rfl⟩
  | _, _, ys, ks, p, .cons (g := g) (v := v) hA hL ht, h, hk, hp => by
    simp only [reifyAs] at h
    obtain ⟨⟨y, k1, p1⟩, h1, h⟩ := Option.bind_eq_some_iff.1 h
    rw [Option.map_eq_some_iff] at h
    obtain ⟨⟨zs, k2, p2⟩, h2, h3⟩ := h
    cases h3
    obtain ⟨q3, q4⟩ := reifyAs_rel R hok ht h2 (fun i hi => hk i (by simp [hi])) (fun hp2 => hp (by simp [hp2]))
    have hhead : VR G' noHeap 0 w y v ∧ y.closed = true := by
      cases g with
      | v x =>
        simp only [reifyA, Option.map_eq_some_iff] at h1
        obtain ⟨r, e1, e2⟩ := h1
        cases e2
        exact reify_rel R hok (ks := r.2) e1 (fun i hi => hk i (by simp [hi])) hA
      | pl t off c0 =>
        simp only [reifyA, Option.map_eq_some_iff] at h1
        obtain ⟨r, e1, e2⟩ := h1
        cases e2
        obtain ⟨us, el, l1, l2, l3⟩ := hL t off c0 rfl
        have hAv : v = .pointer (some ⟨G.lb t, off, none⟩) := hA
        -- the box's content, as a value
        have hcl : VRs G' noHeap 0 w r.1.cells us ∧ r.1.closed = true := by
          have e1 : reify m.hp (m.lcOf t c0) = some (r.1, r.2) := e1
          generalize m.lcOf t c0 = c at l1 e1
          by_cases hagg : ∃ cs, c = .agg cs
          · obtain ⟨cs, rfl⟩ := hagg
            have := reify_rel (G' := G') (hp' := noHeap) (nx' := 0) R hok (ks := r.2) e1 (fun i hi => hk i (by simp [hi])) (.agg l1)
            have hv2 := this.1
            simp only [reify, reifyF, Option.map_eq_some_iff] at e1
            obtain ⟨q, _, e3⟩ := e1
            have e3 : r.1 = .agg q.1 := (congrArg Prod.fst e3).symm
            rw [e3] at hv2 this ⊢
            cases hv2 with | agg hv2 => exact ⟨hv2, this.2⟩
          · have hc1 : c.cells = [c] := by cases c <;> first | rfl | exact absurd ⟨_, rfl⟩ hagg
            rw [hc1] at l1
            cases l1 with | cons g1 g2 g3 =>
            cases g3
            have := reify_rel (G' := G') (hp' := noHeap) (nx' := 0) R hok (ks := r.2) e1 (fun i hi => hk i (by simp [hi])) g1
            have hc2 : r.1.cells = [r.1] := by
              have hv2 := this.1
              generalize r.1 = y at hv2
              cases hv2 <;> first | rfl | (exact absurd g2 (by simp [isCell]))
            rw [hc2]
            exact ⟨.cons this.1 g2 .nil, this.2⟩
        refine ⟨?_, ?_⟩
        · rw [hAv]
          exact .fp (a := ⟨G.lb t, 0, none⟩) hcl.1 (cellsAt_row l2 (fun j v hj => by simpa using hj)) (hp (by simp) _ t l3) (by rw [add_lit, Nat.zero_add])
        · exact hcl.2
    exact ⟨.cons hhead.1 q3, by simp [closedL, hhead.2, q4]⟩
mutual
theorem VR.flat {G' : Gh} {hp hp' : Nat → Ob} {nx nx' : Nat} {w' : World} : ∀ {x : Vl} {v : Value}, VR G hp nx w x v → x.flat = true → VR G' hp' nx' w' x v
  | _, _, .int k n, _ => .int k n
  | _, _, .bool b, _ => .bool b
  | _, _, .str s, _ => .str s
  | _, _, .agg h, c => .agg (VRs.flat h c)
  | _, _, .tup h, c => .tup (VRt.flat h c)
  | _, _, .nils, _ => .nils
  | _, _, .lst _ _ _ _, c => by cases c
  | _, _, .own _ _ _ _, c => by cases c
  | _, _, .fp _ _ _ _, c => by cases c
  | _, _, .ep _ _ _, c => by cases c
  | _, _, .bp _ _ _, c => by cases c
  | _, _, .nilp, _ => .nilp
  | _, _, .nilf, _ => .nilf
  | _, _, .nili, _ => .nili
  | _, _, .nilm, _ => .nilm
  | _, _, .fn _ _, c => by cases c
  | _, _, .ifc h, c => .ifc (VR.flat h c)
  | _, _, .mp _ _, c => by cases c
  | _, _, .yld _ _, c => by cases c
  | _, _, .undef v, c => by cases c
theorem VRs.flat {G' : Gh} {hp hp' : Nat → Ob} {nx nx' : Nat} {w' : World} : ∀ {x : List Vl} {v : List Value}, VRs G hp nx w x v → flatL x = true → VRs G' hp' nx' w' x v
  | _, _, .nil, _ => .nil
  | _, _, .cons (x := x) (xs := xs) h c t, hc => by
      have hc : (x.flat && flatL xs) = true := hc
      rw [Bool.and_eq_true] at hc
      exact .cons (VR.flat h hc.1) c (VRs.flat t hc.2)
theorem VRt.flat {G' : Gh} {hp hp' : Nat → Ob} {nx nx' : Nat} {w' : World} : ∀ {x : List Vl} {v : List Value}, VRt G hp nx w x v → flatL x = true → VRt G' hp' nx' w' x v
  | _, _, .nil, _ => .nil
  | _, _, .cons (x := x) (xs := xs) h t, hc => by
      have hc : (x.flat && flatL xs) = true := hc
      rw [Bool.and_eq_true] at hc
      exact .cons (VR.flat h hc.1) (VRt.flat t hc.2)
end
theorem ars_app : ∀ {a b : List Arg} {u v : List Value}, ARs G m w a u → ARs G m w b v → ARs G m w (a ++ b) (u ++ v)
  | _, _, _, _, .nil, h => h
  | _, _, _, _, .cons h1 h2 h3, h => .cons h1 h2 (ars_app h3 h)
theorem ars_of : ∀ {a : List Vl} {u : List Value}, VRt G m.hp m.nx w a u → ARs G m w (a.map .v) u
  | _, _, .nil => .nil
  | _, _, .cons h t => .cons h (fun _ _ _ e => by cases e) (ars_of t)
theorem bld_calls {g : FuncId} {k : BK × TypeId × TypeId} (hB : BldOk P g k.1 k.2.1 k.2.2) {xs : List Vl} {r : Vl} {hp' : Nat → Ob} {nx' : Nat} (h : bldRun k xs m.hp m.nx = some (r, hp', nx'))
    {F : Fence} {n : Nat} {vs : List Value} (hF : WideF P F mu.G.ok w0) (R : RR w0 mu G look m nt tm w) (hv : VRt G m.hp m.nx w xs vs) :
    (∃ fn, P.funcs[g]? = some fn ∧ fn.body.isSome = true) ∧ CallsIn F n P g vs.toArray w (fun e w' => ∃ v, e = .returned v ∧ ∃ G', RR w0 mu G' look { m with hp := hp', nx := nx' } nt tm w' ∧ VR G' hp' nx' w' r v) := by
  obtain ⟨bk, t', e'⟩ := k
  simp only at hB
  refine ⟨hB.1, ?_⟩
  unfold bldRun at h
  simp only at h
  split at h
  case h_2 => cases h
  rename_i id rest
  split at h
  case h_2 => cases h
  rename_i t e l ho
  split at h
  case isFalse => cases h
  rename_i hte
  obtain ⟨rfl, rfl⟩ := hte
  cases hv with | cons hb hv' =>
  cases hb with | bp hid _ hp =>
  obtain rfl := hp (by rw [ho]; rfl)
  have hO := R.objs id hid
  rw [ho] at hO
  obtain ⟨p, v0, q1, q2, q3, q4, q5, q6⟩ := hO
  have hC := hB.2 (G.bb id) p v0 l w q1 q2 q3 q4
  have hbl : G.bb id < w.heap.size := (R.keyb _ _ q5).1
  have fin : ∀ (args : Array Value) (rv : Value) (l' : Option (List UInt8)) (o : Ob) (x : Vl), (o = match l' with | some l => .bld t e l | none => .dead) → VR G noHeap 0 w x rv → x.flat = true → BldC P g args t e (G.bb id) v0 w rv l' →
      CallsIn F n P g args w (fun e w' => ∃ v, e = .returned v ∧ ∃ G', RR w0 mu G' look { m with hp := upd m.hp id o } nt tm w' ∧ VR G' (upd m.hp id o) m.nx w' x v) := by
    intro args rv l' o x ho' hx hfl hcall
    refine callsIn_of hF (hcall.mono fun en w' hq => ?_)
    obtain ⟨rfl, h1, h2, h3, h4, h5, h6⟩ := hq
    have hblk : ∀ b, b < w.heap.size → G.key b ≠ some (.id id) → w'.heap[b]? = w.heap[b]? := fun b hb hne => h5 b hb (fun e => by subst e; exact hne q5) (fun e => hne (q6 b e))
    cases l' with
    | none =>
      subst ho'
      exact ⟨rv, rfl, _, R.turnBld hid (by rw [ho]; rfl) (.inl rfl) G.key (fun _ _ => rfl) (fun b k hk => Nat.lt_of_lt_of_le (R.keyb b k hk).1 h4) h1 h2 h3 h4 hblk trivial, hx.flat hfl⟩
    | some l' =>
      subst ho'
      obtain ⟨p', v', r1, r2, r3, r4, r5⟩ := h6 l' rfl
      have hlt : ∀ g, v'.ownBlock = some g → g < w'.heap.size := fun g hg => by
        rcases r3.2 with ⟨rfl, _⟩ | ⟨g', cap, cur, rfl, _, e3, _⟩
        · cases hg
        · simp only [Value.ownBlock, Option.some.injEq] at hg
          subst hg
          rcases Nat.lt_or_ge g' w'.heap.size with h | h
          · exact h
          · rw [Array.getElem?_eq_none h] at e3; cases e3
      let key' : Nat → Option Key := fun b => if w.heap.size ≤ b ∧ v'.ownBlock = some b then some (.id id) else G.key b
      have hkey : ∀ b, b < w.heap.size → key' b = G.key b := fun b hb => if_neg (by omega)
      refine ⟨rv, rfl, _, R.turnBld (o := .bld t e l') hid (by rw [ho]; rfl) (.inr rfl) key' hkey (fun b k hk => ?_) h1 h2 h3 h4 hblk ⟨p', v', r1, r2, r3, r4, ?_, fun g hg => ?_⟩, hx.flat hfl⟩
      · by_cases hc : w.heap.size ≤ b ∧ v'.ownBlock = some b
        · exact hlt b hc.2
        · have hk' : key' b = some k := hk
          rw [show key' b = G.key b from if_neg hc] at hk'
          exact Nat.lt_of_lt_of_le (R.keyb b k hk').1 h4
      · show key' (G.bb id) = _; rw [hkey _ hbl]; exact q5
      · show key' g = _
        rcases r5 g hg with h | h
        · have h7 := q6 g h
          rw [hkey _ (R.keyb _ _ h7).1]; exact h7
        · exact if_pos ⟨h, hg⟩
  split at h
  · rename_i s
    split at h
    case isFalse => cases h
    rename_i hl
    cases h
    cases hv' with | cons hs hn =>
    cases hs; cases hn
    exact fin _ _ (some _) _ _ rfl (.tup (.cons (.int _ _) (.cons .nili .nil))) rfl (hC s hl)
  · rename_i c
    split at h
    case isFalse => cases h
    rename_i hl
    cases h
    cases hv' with | cons hs hn =>
    cases hs; cases hn
    exact fin _ _ (some _) _ _ rfl .nili rfl (hC c hl.1 hl.2.1 hl.2.2)
  · cases h
    cases hv'
    exact fin _ _ none _ _ rfl (.str _) rfl hC
  · cases h
theorem callF_ok {A : Ann} {ex : Ex} (hP : ProgOk P) (hA : ExtOk P A) (hex : ExOk P ex) {g : FuncId} {args : List Arg} {m m' : Mem} {r : Vl} (h : callF P A ex g args m = some (r, m')) : m'.lc = m.lc ∧
    ∀ F n w0 mu G look nt tm w (vs : List Value), WideF P F mu.G.ok w0 → RR w0 mu G look m nt tm w → ARs G m w args vs →
      (∃ fn, P.funcs[g]? = some fn ∧ fn.body.isSome = true) ∧ CallsIn F n P g vs.toArray w (fun e w' => ∃ v, e = .returned v ∧ ∃ G', RR w0 mu G' look m' nt tm w' ∧ VR G' m'.hp m'.nx w' r v) := by
  unfold callF at h
  split at h
  · obtain ⟨xs, h1, h⟩ := Option.bind_eq_some_iff.1 h
    rw [Option.map_eq_some_iff] at h
    obtain ⟨⟨q, hp', nx'⟩, h2, h3⟩ := h
    cases h3
    refine ⟨rfl, fun F n w0 mu G look nt tm w vs hF R hv => ?_⟩
    unfold runH at h2
    split at h2
    · rename_i k hk
      exact bld_calls (hA.bld g k hk) h2 hF R (ars_vals hv h1)
    have hv1 := (ars_vals hv h1).step (step_key G G.ids rfl rfl rfl)
    obtain ⟨hb, hc⟩ := run_calls (mu := enOf G m) hP hex h2 (n := n) (show WideF P F (enOf G m).G.ok w from WideF.enter (G := G) hF R) R.enter rfl hv1
    refine ⟨hb, CallsIn.mono hc fun e w' he => ?_⟩
    obtain ⟨v, rfl, G', H, hV⟩ := he
    obtain ⟨R', hT⟩ := R.leave H
    exact ⟨v, rfl, _, R', hT _ _ hV⟩
  · obtain ⟨⟨ys, ks, p⟩, h1, h⟩ := Option.bind_eq_some_iff.1 h
    obtain ⟨v, h2, h⟩ := Option.bind_eq_some_iff.1 h
    have hpc := pure_calls hP hA hex h2
    split at h
    · rename_i hflat
      cases h
      refine ⟨rfl, fun F n w0 mu G look nt tm w vs hF R hv => ?_⟩
      have hF' := hF.enter R
      have hv1 := reifyAs_rel (G' := gOf fun b => b < w.heap.size) R (fun b h => (R.okb b h).1) hv h1 (fun i _ b hb => (R.keyb b _ hb).1) (fun _ b t hb => (R.keyb b _ hb).1)
      obtain ⟨hb, hc⟩ := hpc F n _ w vs ⟨hF'.fn, hF'.depth, hF'.alive, hF'.tabs.step (fun b h => (R.okb b h).1) (fun _ _ => rfl)⟩ (fun b h => h) hv1.1
      refine ⟨hb, CallsIn.mono hc fun e w' he => ?_⟩
      obtain ⟨u, rfl, hB, hV, _⟩ := he
      exact ⟨u, rfl, _, R.more hB, hV.flat hflat⟩
    · split at h
      case isFalse => cases h
      rename_i hc
      simp only [Bool.and_eq_true, Bool.not_eq_true'] at hc
      cases h
      refine ⟨rfl, fun F n w0 mu G look nt tm w vs hF R hv => ?_⟩
      obtain ⟨Rk, Sk⟩ := R.kill ks
      have hv1 := reifyAs_rel (G' := gOf (G.kill ks).ok) R (fun b h => Or.inl h) hv h1 (fun i hi b hb => Or.inr ⟨i, hi, hb⟩) (fun hp => by have hc1 : p = false := hc.1; rw [hc1] at hp; cases hp)
      obtain ⟨hb, hcl⟩ := hpc F n _ w vs (hF.enter Rk) (fun b h => (Rk.okb b h).1) hv1.1
      refine ⟨hb, CallsIn.mono hcl fun e w' he => ?_⟩
      obtain ⟨u, rfl, hB, hV, hcc⟩ := he
      exact ⟨u, rfl, _, Rk.more hB, VR.closed (G := gOf fun b => (G.kill ks).ok b ∨ (w.heap.size ≤ b ∧ b < w'.heap.size)) (G' := (G.kill ks).more w w') (fun b h => ⟨h, rfl⟩) hV hcc⟩
end
end Go.Idl
namespace Go.Idl
open Go.RowKit
section
variable {P : Program} {w0 : World} {mu : En} {G : Gh} {look : Nat → Arg} {m : Mem} {nt : Nat} {tm : Array Value} {w : World}
theorem RR.dropDfs {ds : List Nat} (R : RR w0 { mu with dfs := ds } G look m nt tm w) : RR w0 { mu with dfs := [] } G look m nt tm w :=
  { size := R.size, slots := R.slots, locs := R.locs, objs := R.objs, okb := R.okb, keyb := R.keyb, os := R.os, tape := R.tape, out := R.out, grow := R.grow, base := R.base, ent := R.ent, oks := R.oks, mks := fun b h => by cases h }
theorem vr_noloc {hp : Nat → Ob} {nx : Nat} {x : Vl} {v : Value} (h : VR G hp nx w x v) (c : Vl) : x ≠ .loc c := fun e => by subst e; cases h
theorem setPs_rr {hp : Nat → Ob} {nx : Nat} : ∀ {ps : List Nat} {xs : List Vl} {vs : List Value} {sl : List (Nat × Vl)} {tm : Array Value}, VRt G hp nx w xs vs → (∀ p ∈ ps, p < nt) → ps.length = xs.length →
    RR w0 mu G (lookOf sl) { lc := [], hp := hp, nx := nx } nt tm w → RR w0 mu G (lookOf (setPs sl ps xs)) { lc := [], hp := hp, nx := nx } nt ((ps.zip vs).foldl (fun tm p => tm.setIfInBounds p.1 p.2) tm) w
  | [], _, _, sl, tm, .nil, _, _, R => by simpa [setPs] using R
  | [], _, _, sl, tm, .cons _ _, _, h, _ => by cases h
  | p :: ps, _, _, sl, tm, .nil, _, h, _ => by cases h
  | p :: ps, _, _, sl, tm, .cons (x := x) hx ht, hp, hl, R => by
    have R1 := R.put (a := .v x) (hp p (by simp)) hx (fun _ _ _ h => by cases h)
    rw [← lookOf_set (vr_noloc hx)] at R1
    simp only [List.zip_cons_cons, List.foldl_cons, setPs]
    exact setPs_rr ht (fun q hq => hp q (by simp [hq])) (by simpa using hl) R1
theorem RR.loopPut {k : Nat} {f : FuncId} {sl : List (Nat × Vl)} {ps : List Nat} {asg bd : Code} {st : LSt} (R : RR w0 mu G look m nt tm w) (hk : k < m.nx) (ho : m.hp k = .loop f sl ps asg bd st) :
    ∃ rec : Loop, w.heap[G.bb k]? = some (.loop rec) ∧ rec.state = st.state ∧ rec.pending = st.pending ∧ rec.params = ps.toArray ∧ rec.assign = asg ∧ rec.body = bd ∧
      codeOk rec.tmps.size asg = true ∧ codeOk rec.tmps.size bd = true ∧ (∀ p ∈ ps, p < rec.tmps.size) ∧ (∀ s, ∃ x, lookOf sl s = .v x ∧ VR G m.hp m.nx w x (rec.tmps.getD s undef)) ∧
      (∀ (st' : LSt) (rec' : Loop), rec' = { rec with state := st'.state, pending := st'.pending } → RR w0 mu G look { m with hp := upd m.hp k (.loop f sl ps asg bd st') } nt tm (w.putObj (G.bb k) (.loop rec'))) ∧
      (∀ ob, RR w0 mu G look { m with hp := upd m.hp k .dead } nt tm (w.putObj (G.bb k) ob)) := by
  have hob := R.objs k hk
  rw [ho] at hob
  obtain ⟨t, db, fr, h1, h2, h3, h4, h5, h6⟩ := hob
  refine ⟨_, h1, rfl, rfl, rfl, rfl, rfl, h4, h5, h6, h3, fun st' rec' hr => ?_, fun ob => R.putRow hk h2 (.inl rfl) (fun _ => trivial)⟩
  subst hr
  refine R.putRow hk h2 (.inr ⟨by rw [ho]; rfl, by simp [Ob.rk]⟩) (fun S => ⟨t, db, fr, ?_, h2, fun s => ?_, h4, h5, h6⟩)
  · exact putObj_self _ _ _ (R.keyb _ _ h2).1
  · obtain ⟨x, e1, e2⟩ := h3 s
    exact ⟨x, e1, e2.step S⟩
theorem round_ok {ex : Ex} (hex : ExOk P ex) {k : Nat} {xs : List Vl} {m m' : Mem} {r : Vl} (h : roundI ex k xs m = some (r, m')) : m'.lc = m.lc ∧
    ∀ F n w0 mu G look nt tm w cv (vs : List Value), WideF P F mu.G.ok w0 → RR w0 mu G look m nt tm w → VR G m.hp m.nx w (.yld k) cv → VRt G m.hp m.nx w xs vs →
      CallAt P F n cv vs.toArray w (fun v w' => ∃ G', RR w0 mu G' look m' nt tm w' ∧ VR G' m'.hp m'.nx w' r v) := by
  unfold roundI at h
  split at h
  case h_2 => cases h
  rename_i f sl ps asg bd ho
  split at h
  case isFalse => cases h
  rename_i hlen
  obtain ⟨⟨e1, s1⟩, hx1, h⟩ := Option.bind_eq_some_iff.1 h
  split at h
  case h_2 => cases h
  rename_i f1 sl1 ps1 asg1 bd1 he1 ho1
  simp only at he1 ho1
  subst he1
  obtain ⟨⟨e2, s2⟩, hx2, h⟩ := Option.bind_eq_some_iff.1 h
  split at h
  case h_2 => cases h
  rename_i f2 sl2 ps2 asg2 bd2 ho2
  simp only at ho2
  cases h
  refine ⟨rfl, fun F n w0 mu G look nt tm w cv vs hF R hcv hvs => ?_⟩
  cases hcv with | yld hk hb =>
  rename_i b
  obtain rfl : b = G.bb k := hb (by rw [ho]; rfl)
  obtain ⟨rec, q1, q2, q3, q4, q5, q6, q7, q8, q9, q10, -, -⟩ := R.loopPut hk ho
  have hl2 : vs.length = ps.length := by rw [hvs.length, hlen]
  refine ⟨rec.fn, _, rec.assign, rec.body, run_yield q1 (by simp [q4, hl2]), ?_⟩
  have R0 : RR w (enOf G m) G.ids (lookOf sl) { lc := [], hp := m.hp, nx := m.nx } rec.tmps.size rec.tmps w :=
    { size := rfl
      slots := fun s => by
        obtain ⟨x, e1, e2⟩ := q10 s
        rw [e1]; exact e2.step (step_key G G.ids rfl rfl rfl)
      locs := fun s t off c0 h => by
        obtain ⟨x, e1, e2⟩ := q10 s
        rw [e1] at h; cases h
      objs := R.enter.objs, okb := R.enter.okb, keyb := R.enter.keyb, os := rfl, tape := rfl, out := rfl, grow := Nat.le_refl _, base := fun _ _ _ => rfl, ent := Step.refl _ _ _ _, oks := R.enter.oks, mks := fun _ h => by cases h }
  have R1 := setPs_rr (vs := vs) (hvs.step (step_key G G.ids rfl rfl rfl)) q9 hlen.symm R0
  have S1 : StR w (enOf G m) { sl := setPs sl ps xs, hp := m.hp, nx := m.nx } rec.tmps.size { tmps := (ps.zip vs).foldl (fun tm p => tm.setIfInBounds p.1 p.2) rec.tmps, defers := [] } w := ⟨[], G.ids, R1, rfl, .nil⟩
  have hR : RoR (F.inRound (G.bb k)) (some k) (enOf G m) := ⟨hk, G.bb k, rfl, fun _ => rfl⟩
  have hFe := hF.enter R
  have hFr : WideF P (F.inRound (G.bb k)) (enOf G m).G.ok w := ⟨hFe.fn, hFe.depth, hFe.alive, hFe.tabs⟩
  have wp1 := hex (some k) f asg _ .normal s1 hx1 (F.inRound (G.bb k)) n w (enOf G m) _ _ w hFr hR q7 S1
  have htm : (rec.params.zip (#[] ++ vs.toArray)).foldl (fun tmps (p : Nat × Value) => tmps.setIfInBounds p.1 p.2) rec.tmps = (ps.zip vs).foldl (fun tm p => tm.setIfInBounds p.1 p.2) rec.tmps := by
    rw [q4]; simp
  refine roundIn_of_wpIn (hF.fn _) ?_
  show Code.wpIn (F.inRound (G.bb k)) n P rec.assign _ { tmps := (rec.params.zip (#[] ++ vs.toArray)).foldl (fun tmps (p : Nat × Value) => tmps.setIfInBounds p.1 p.2) rec.tmps, defers := [] } w
  rw [htm, q5]
  refine wpIn_mono wp1 fun e a1 w1 hq => ?_
  obtain ⟨rfl, ds1, G1, RA, hdf1, hnd1⟩ := hq
  have hk1 : k < s1.nx := Nat.lt_of_lt_of_le hk RA.ent.nxl
  have hb1 : G1.bb k = G.bb k := (RA.ent.rows k hk (by show (s1.hp k).rk ≠ 0; rw [ho1]; simp [Ob.rk])).2
  obtain ⟨rec1, p1, p2, p3, p4, p5, p6, p7, p8, p9, p10, p11, -⟩ := RA.loopPut hk1 ho1
  rw [hb1] at p1 p11
  refine ⟨_, run_beginRound p1 p2, ?_⟩
  have RB := p11 .busy { rec1 with state := .busy } (by rw [show LSt.busy.pending = rec1.pending by rw [p3]; rfl]; rfl)
  have S2 : StR w (enOf G m) { sl := s1.sl, hp := upd s1.hp k (.loop f1 sl1 ps1 asg1 bd1 .busy), nx := s1.nx } rec.tmps.size a1 (w1.putObj (G.bb k) (.loop { rec1 with state := .busy })) := ⟨ds1, G1, RB, hdf1, hnd1⟩
  have wp2 := hex (some k) f1 bd _ e2 s2 hx2 (F.inRound (G.bb k)) n w (enOf G m) _ _ _ hFr hR q8 S2
  rw [q6]
  refine wpIn_mono wp2 fun e a2 w2 hq => ?_
  obtain ⟨rfl, ds2, G2, RC, hdf2, hnd2⟩ := hq
  have hk2 : k < s2.nx := Nat.lt_of_lt_of_le hk RC.ent.nxl
  have hb2 : G2.bb k = G.bb k := (RC.ent.rows k hk (by show (s2.hp k).rk ≠ 0; rw [ho2]; simp [Ob.rk])).2
  obtain ⟨rec2, t1, t2, t3, t4, t5, t6, t7, t8, t9, t10, t11, -⟩ := RC.loopPut hk2 ho2
  rw [hb2] at t1 t11
  have fin : ∀ (st : LSt) (rec' : Loop), rec' = { rec2 with state := st.state, pending := st.pending } →
      ∃ G', RR w0 mu G' look { m with hp := upd s2.hp k (.loop f2 sl2 ps2 asg2 bd2 st), nx := s2.nx } nt tm (w2.putObj (G.bb k) (.loop rec')) := fun st rec' hr =>
    ⟨_, (R.leave (t11 st rec' hr).dropDfs.heap).1⟩
  cases e2 with
  | normal =>
    obtain ⟨G', hG⟩ := fin .ready _ rfl
    exact ⟨_, _, run_endRound none t1, _, rfl, G', hG, .bool _⟩
  | ret =>
    obtain ⟨G', hG⟩ := fin (.done .ret) _ rfl
    exact ⟨_, _, run_endRound (some .ret) t1, _, rfl, G', hG, .bool _⟩
  | exit id =>
    obtain ⟨G', hG⟩ := fin (.done (.exit id)) _ rfl
    exact ⟨_, _, run_endRound (some (.exit id)) t1, _, rfl, G', hG, .bool _⟩
theorem callI_ok {A : Ann} {ex : Ex} (hP : ProgOk P) (hA : ExtOk P A) (hex : ExOk P ex) : CallOk P (callI P A ex) := by
  intro c args m r m' h
  unfold callI at h
  split at h
  · rename_i g first cap
    obtain ⟨h1, h2⟩ := callF_ok hP hA hex h
    refine ⟨h1, fun F n w0 mu G look nt tm w cv vs hF R hcv hv => ?_⟩
    cases hcv with | fn ha hb =>
    rename_i us ws
    obtain ⟨k1, k2⟩ := h2 F n w0 mu G look nt tm w (us ++ vs ++ ws) hF R (ars_app (ars_app (ars_of ha) hv) (ars_of hb))
    refine ⟨k1, CallsIn.mono (by simpa using k2) fun e w' he => he⟩
  · rename_i k
    obtain ⟨xs, h1, h2⟩ := Option.bind_eq_some_iff.1 h
    obtain ⟨h3, h4⟩ := round_ok hex h2
    exact ⟨h3, fun F n w0 mu G look nt tm w cv vs hF R hcv hv => h4 F n w0 mu G look nt tm w cv vs hF R hcv (ars_vals hv h1)⟩
  · cases h
end
end Go.Idl
namespace Go.Idl
open Go.RowKit
mutual
theorem eqVl_sound : ∀ {x y : Vl}, eqVl x y = true → x = y := by
  intro x y h
  cases x <;> cases y <;> simp only [eqVl, Bool.and_eq_true, beq_iff_eq, decide_eq_true_eq, Bool.false_eq_true] at h
  case int => obtain ⟨rfl, rfl⟩ := h; rfl
  case bool => subst h; rfl
  case str => 
    rename_i a b
    cases a; cases b; simp only at h; subst h; rfl
  case agg => rw [eqVls_sound h]
  case tup => rw [eqVls_sound h]
  case lst => obtain ⟨⟨rfl, h2⟩, rfl⟩ := h; rw [eqVls_sound h2]
  case own => obtain ⟨rfl, rfl⟩ := h; rfl
  case fp => obtain ⟨h1, rfl⟩ := h; rw [eqVl_sound h1]
  case ep => obtain ⟨⟨⟨rfl, rfl⟩, rfl⟩, rfl⟩ := h; rfl
  case bp => obtain ⟨rfl, rfl⟩ := h; rfl
  case yld => subst h; rfl
  case mp => subst h; rfl
  case ifc => obtain ⟨rfl, h2⟩ := h; rw [eqVl_sound h2]
  case fn => obtain ⟨⟨rfl, h2⟩, h3⟩ := h; rw [eqVls_sound h2, eqVls_sound h3]
  case loc => rw [eqVl_sound h]
  all_goals rfl
theorem eqVls_sound : ∀ {x y : List Vl}, eqVls x y = true → x = y := by
  intro x y h
  cases x <;> cases y <;> simp only [eqVls, Bool.and_eq_true, Bool.false_eq_true] at h
  case nil.nil => rfl
  case cons.cons => rw [eqVl_sound h.1, eqVls_sound h.2]
end
theorem eqArg_sound {x y : Arg} (h : eqArg x y = true) : x = y := by
  cases x <;> cases y <;> simp only [eqArg, Bool.and_eq_true, beq_iff_eq, Bool.false_eq_true] at h
  · rw [eqVl_sound h]
  · obtain ⟨⟨rfl, rfl⟩, h3⟩ := h; rw [eqVl_sound h3]
section
variable {P : Program} {m : Mem}
theorem map_congr' {ρ ρ' : Operand → Arg} {l : List Operand} (h : ∀ x ∈ l, ρ x = ρ' x) : l.map (fun x => (ρ x).vl) = l.map fun x => (ρ' x).vl :=
  List.map_congr_left fun x hx => by rw [h x hx]
theorem parts_congr {ρ ρ' : Operand → Arg} {l : List (Nat × Operand)} (h : ∀ x ∈ l.map (·.2), ρ x = ρ' x) : (l.map fun p => (p.1, (ρ p.2).vl)) = l.map fun p => (p.1, (ρ' p.2).vl) :=
  List.map_congr_left fun p hp => by rw [h p.2 (List.mem_map.2 ⟨p, hp, rfl⟩)]
theorem evalV_congr {d : Option Tmp} {op : Op} {ρ ρ' : Operand → Arg} (h : ∀ x ∈ op.operands, ρ x = ρ' x) : evalV P d op ρ m = evalV P d op ρ' m := by
  cases op
  case build t parts => simp only [evalV]; rw [parts_congr (fun x hx => h x (by simpa [Op.operands] using hx))]
  case buildSlice t len parts => simp only [evalV]; rw [parts_congr (fun x hx => h x (by simpa [Op.operands] using hx))]
  case makeFunc f first cap =>
    simp only [evalV]
    rw [map_congr' (l := first.toList) (fun x hx => h x (by simp [Op.operands]; left; simpa using hx)), map_congr' (l := cap.toList) (fun x hx => h x (by simp [Op.operands]; right; simpa using hx))]
  case call c =>
    obtain ⟨callee, as, ts⟩ := c
    cases callee with
    | builtin b =>
      simp only [evalV]
      rw [map_congr' (l := as.toList) (fun x hx => h x (by simp [Op.operands, Call.operands]; simpa using hx))]
    | _ => rfl
  case slice t x lo hi mx =>
    have hx := h x (by simp [Op.operands])
    have hlo : lo.map (fun x => (ρ x).vl) = lo.map fun x => (ρ' x).vl := by
      cases lo with
      | none => rfl
      | some y => simp only [Option.map_some]; rw [h y (by simp [Op.operands])]
    have hhi : hi.map (fun x => (ρ x).vl) = hi.map fun x => (ρ' x).vl := by
      cases hi with
      | none => rfl
      | some y => simp only [Option.map_some]; rw [h y (by simp [Op.operands])]
    have hmx : mx.map (fun x => (ρ x).vl) = mx.map fun x => (ρ' x).vl := by
      cases mx with
      | none => rfl
      | some y => simp only [Option.map_some]; rw [h y (by simp [Op.operands])]
    simp only [evalV, hx, hlo, hhi, hmx]
  case pick c x y =>
    have h1 := h c (by simp [Op.operands])
    have h2 := h x (by simp [Op.operands])
    have h3 := h y (by simp [Op.operands])
    simp only [evalV, h1]
    generalize (ρ' c).vl = v
    cases v with
    | bool t => cases t <;> simp [h2, h3]
    | _ => rfl
  all_goals first
    | rfl
    | (have h1 := fun x hx => h x hx
       simp only [Op.operands, List.mem_toArray, List.mem_cons, List.not_mem_nil, or_false, forall_eq_or_imp, forall_eq] at h1
       simp only [evalV, h1])
theorem evalV_pure {d : Option Tmp} {op : Op} {ρ : Operand → Arg} {g : Arg} {m' : Mem} (hp : effectOp op = false) (h : evalV P d op ρ m = some (g, m')) : m' = m := by
  cases op <;> simp only [evalV, reduceCtorEq] at h <;> (try cases hp)
  case move x => cases h; rfl
  case assign x => cases h; rfl
  case pick c x y => split at h <;> cases h; rfl
  case alloc t =>
    split at h
    case isFalse => cases h
    rw [Option.map_eq_some_iff] at h; obtain ⟨s, h1, h⟩ := h; cases h; rfl
  case box t x =>
    split at h
    case isFalse => cases h
    rw [Option.map_eq_some_iff] at h; obtain ⟨s, h1, h⟩ := h; cases h; rfl
  case build t parts =>
    split at h
    case h_2 => cases h
    obtain ⟨_, h⟩ := Option.ite_none_right_eq_some.1 h
    rw [Option.map_eq_some_iff] at h; obtain ⟨s, h1, h⟩ := h; cases h; rfl
  case buildSlice t len parts =>
    split at h
    case h_2 => cases h
    split at h
    case isFalse => cases h
    rw [Option.map_eq_some_iff] at h; obtain ⟨s, h1, h⟩ := h; cases h; rfl
  case load t x =>
    split at h
    case isFalse => cases h
    rw [Option.map_eq_some_iff] at h; obtain ⟨s, h1, h⟩ := h; cases h; rfl
  case nilCheck x => split at h <;> cases h <;> rfl
  case binOp op t x y yt =>
    split at h
    · cases h; rfl
    · cases h; rfl
    · rw [Option.map_eq_some_iff] at h; obtain ⟨s, h1, h⟩ := h; cases h; rfl
  case unOp op t x => split at h <;> cases h <;> rfl
  case convert s t x => split at h <;> cases h <;> rfl
  case makeInterface t x =>
    split at h
    · cases h
    · cases h
    · split at h <;> cases h; rfl
  case makeFunc f first cap => cases h; rfl
  case slice t x lo hi mx =>
    split at h
    · split at h
      · rw [Option.map_eq_some_iff] at h; obtain ⟨s, h1, h⟩ := h; cases h; rfl
      · cases h
    · split at h
      · cases h
      · obtain ⟨xs, _, h⟩ := Option.bind_eq_some_iff.1 h
        split at h
        · rw [Option.map_eq_some_iff] at h; obtain ⟨s, h1, h⟩ := h; cases h; rfl
        · obtain ⟨mi, _, h⟩ := Option.bind_eq_some_iff.1 h
          split at h
          · split at h
            · rw [Option.map_eq_some_iff] at h; obtain ⟨s, h1, h⟩ := h; cases h; rfl
            · cases h
          · cases h
    · cases h
  case fieldAddr t x f =>
    split at h
    case h_2 => cases h
    obtain ⟨q, h1, h⟩ := Option.bind_eq_some_iff.1 h
    rw [Option.map_eq_some_iff] at h; obtain ⟨s, h1, h⟩ := h; cases h; rfl
  case field t x f =>
    split at h
    case h_2 => cases h
    obtain ⟨q, h1, h⟩ := Option.bind_eq_some_iff.1 h
    rw [Option.map_eq_some_iff] at h; obtain ⟨s, h1, h⟩ := h; cases h; rfl
  case indexAddr t x y =>
    split at h
    · split at h
      case isFalse => cases h
      rw [Option.map_eq_some_iff] at h; obtain ⟨s, h1, h⟩ := h; cases h; rfl
    · split at h
      · split at h <;> cases h; rfl
      · split at h
        case isFalse => cases h
        split at h
        · split at h <;> cases h; rfl
        · split at h <;> cases h; rfl
        · cases h
      · cases h
    · cases h
  case index t x y =>
    split at h
    · split at h
      case isFalse => cases h
      rw [Option.map_eq_some_iff] at h; obtain ⟨s, h1, h⟩ := h; cases h; rfl
    · split at h <;> cases h; rfl
    · cases h
  case lookup t x i ok =>
    split at h
    case h_2 => cases h
    split at h
    case isFalse => cases h
    rw [Option.map_eq_some_iff] at h
    obtain ⟨es, h1, h2⟩ := h
    split at h2 <;> cases h2 <;> rfl
  case typeAssert x u t ok =>
    split at h
    · cases h
    · cases h
    · split at h
      · split at h
        · cases h; rfl
        · split at h <;> cases h
          rfl
      · split at h <;> cases h
        rfl
      · cases h
  case extract x i =>
    split at h
    · rw [Option.map_eq_some_iff] at h; obtain ⟨s, h1, h⟩ := h; cases h; rfl
    · cases h
  case call c =>
    obtain ⟨callee, as, ts⟩ := c
    cases callee with
    | builtin b =>
      simp only at h
      rw [Option.map_eq_some_iff] at h
      obtain ⟨⟨l, m1⟩, h2, h3⟩ := h
      cases h3
      cases b <;> simp only [effectOp, Bool.true_eq_false] at hp
      all_goals
        unfold builtinV at h2
        split at h2 <;> first | contradiction | (cases h2; rfl) | cases h2 | (split at h2 <;> first | (cases h2; rfl) | cases h2)
    | _ => simp at h
theorem builtin_indep {b : Builtin} {ts : List TypeId} {vs : List Vl} (hb : b = .len ∨ b = .max ∨ b = .min) (m2 : Mem) : builtinV P b ts vs m2 = (builtinV P b ts vs m).map fun r => (r.1, m2) := by
  unfold builtinV
  rcases hb with rfl | rfl | rfl
  · split <;> first | rfl | contradiction | skip
    split <;> rfl
  · split <;> first | rfl | contradiction | skip
  · split <;> first | rfl | contradiction | skip
theorem evalV_indep {d : Option Tmp} {op : Op} {ρ : Operand → Arg} (h1 : effectOp op = false) (h2 : readsOp op = false) (m2 : Mem) : evalV P d op ρ m2 = (evalV P d op ρ m).map fun r => (r.1, m2) := by
  cases op <;> simp only [evalV] <;> (try cases h1) <;> (try cases h2) <;> (try rfl)
  case pick c x y => split <;> rfl
  case alloc t => split <;> simp [Function.comp_def]
  case box t x => split <;> simp [Function.comp_def]
  case build t parts =>
    repeat' split
    all_goals first | rfl | simp [Function.comp_def]
  case buildSlice t len parts =>
    split
    · split <;> simp [Function.comp_def]
    · rfl
  case nilCheck x => split <;> rfl
  case binOp op t x y yt =>
    split <;> simp [Function.comp_def]
  case unOp op t x => split <;> rfl
  case convert s t x => split <;> rfl
  case makeInterface t x =>
    split
    · rfl
    · rfl
    · split <;> rfl
  case fieldAddr t x f =>
    split
    · rename_i fs _
      cases fs[f]? <;> simp [Function.comp_def]
    · rfl
  case field t x f =>
    split
    · rename_i fs cs _ _
      cases fs[f]? <;> simp [Function.comp_def]
    · rfl
  case index t x y =>
    split
    · split <;> simp [Function.comp_def]
    · split <;> rfl
    · rfl
  case typeAssert x u t ok =>
    split
    · rfl
    · rfl
    · split
      · split
        · rfl
        · split <;> rfl
      · split <;> rfl
      · rfl
  case extract x i =>
    split <;> simp [Function.comp_def]
  case call c =>
    obtain ⟨callee, as, ts⟩ := c
    cases callee with
    | builtin b =>
      simp only
      have hb : b = .len ∨ b = .max ∨ b = .min := by cases b <;> simp [effectOp] at h1 ⊢
      rw [builtin_indep (m := m) hb m2]
      cases builtinV P b ts.toList (as.toList.map fun x => (ρ x).vl) m <;> rfl
    | _ => rfl
end
end Go.Idl
namespace Go.Idl
open Go.RowKit
def bvOf (acc : Array Nat) (o : Oper) : Nat := o.after.foldl (fun s e => if Region.binds .any e then s ||| 2 ^ e.on ||| acc.getD e.on 0 else s) 0
theorem bv_fold (acc : Array Nat) (i : Nat) : ∀ (l : List Edge) (s : Nat), (l.foldl (fun s e => if Region.binds .any e then s ||| 2 ^ e.on ||| acc.getD e.on 0 else s) s).testBit i = true ↔
    s.testBit i = true ∨ ∃ e ∈ l, Region.binds .any e = true ∧ (i = e.on ∨ (acc.getD e.on 0).testBit i = true)
  | [], s => by simp
  | e :: l, s => by
    rw [List.foldl_cons, bv_fold acc i l]
    by_cases hb : Region.binds .any e = true
    · rw [if_pos hb]
      simp only [Nat.testBit_or, Nat.testBit_two_pow, Bool.or_eq_true, decide_eq_true_eq, List.mem_cons]
      constructor
      · rintro (((h | h) | h) | ⟨e', h1, h2⟩)
        · exact .inl h
        · exact .inr ⟨e, .inl rfl, hb, .inl h.symm⟩
        · exact .inr ⟨e, .inl rfl, hb, .inr h⟩
        · exact .inr ⟨e', .inr h1, h2⟩
      · rintro (h | ⟨e', rfl | h1, h2, h3⟩)
        · exact .inl (.inl (.inl h))
        · rcases h3 with h3 | h3
          · exact .inl (.inl (.inr h3.symm))
          · exact .inl (.inr h3)
        · exact .inr ⟨e', h1, h2, h3⟩
    · rw [if_neg hb]
      simp only [List.mem_cons]
      constructor
      · rintro (h | ⟨e', h1, h2⟩)
        · exact .inl h
        · exact .inr ⟨e', .inr h1, h2⟩
      · rintro (h | ⟨e', rfl | h1, h2⟩)
        · exact .inl h
        · exact absurd h2.1 hb
        · exact .inr ⟨e', h1, h2⟩
theorem bv_test (acc : Array Nat) (o : Oper) (i : Nat) : (bvOf acc o).testBit i = true ↔ ∃ e ∈ o.after, Region.binds .any e = true ∧ (i = e.on ∨ (acc.getD e.on 0).testBit i = true) := by
  unfold bvOf
  rw [← Array.foldl_toList, bv_fold]
  simp
theorem push_getD (acc : Array Nat) (v k : Nat) : (acc.push v).getD k 0 = if k = acc.size then v else acc.getD k 0 := by
  simp only [Array.getD_eq_getD_getElem?, Array.getElem?_push]
  split
  · rename_i h; simp [h]
  · rename_i h; simp [h]
theorem fold_push : ∀ (l : List Oper) (acc : Array Nat),
    (∀ k, k < acc.size → (l.foldl (fun acc o => acc.push (bvOf acc o)) acc).getD k 0 = acc.getD k 0) ∧
    ∀ (j : Nat) (o : Oper), l[j]? = some o → ∃ acc' : Array Nat, (l.foldl (fun acc o => acc.push (bvOf acc o)) acc).getD (acc.size + j) 0 = bvOf acc' o ∧
      ∀ k, k < acc.size + j → (l.foldl (fun acc o => acc.push (bvOf acc o)) acc).getD k 0 = acc'.getD k 0
  | [], acc => ⟨fun _ _ => rfl, fun j o h => by simp at h⟩
  | o :: l, acc => by
    obtain ⟨h1, h2⟩ := fold_push l (acc.push (bvOf acc o))
    rw [Array.size_push] at h1 h2
    have hold : ∀ k, k < acc.size → (l.foldl (fun acc o => acc.push (bvOf acc o)) (acc.push (bvOf acc o))).getD k 0 = acc.getD k 0 := fun k hk => by
      rw [h1 k (by omega), push_getD, if_neg (by omega)]
    refine ⟨hold, fun j o' hj => ?_⟩
    cases j with
    | zero =>
      simp only [List.getElem?_cons_zero, Option.some.injEq] at hj
      subst hj
      exact ⟨acc, by rw [List.foldl_cons, Nat.add_zero, h1 _ (by omega), push_getD, if_pos rfl], fun k hk => hold k (by omega)⟩
    | succ j =>
      obtain ⟨acc', k1, k2⟩ := h2 j o' (by simpa using hj)
      rw [show acc.size + 1 + j = acc.size + (j + 1) by omega] at k1 k2
      exact ⟨acc', k1, k2⟩
theorem before_eq (ops : Array Oper) : Region.before ops = ops.toList.foldl (fun acc o => acc.push (bvOf acc o)) #[] := by
  unfold Region.before
  rw [← Array.foldl_toList]
  rfl
section
variable {ops : Array Oper} (hlow : ∀ (j : Nat) (o : Oper), ops[j]? = some o → ∀ e ∈ o.after, Region.binds .any e = true → e.on < j)
include hlow
theorem ord_iff {i j : Nat} {o : Oper} (ho : ops[j]? = some o) : orderedI (Region.before ops) i j = true ↔ ∃ e ∈ o.after, Region.binds .any e = true ∧ (i = e.on ∨ orderedI (Region.before ops) i e.on = true) := by
  unfold orderedI
  rw [before_eq]
  obtain ⟨_, h⟩ := fold_push ops.toList #[]
  obtain ⟨acc', h1, h2⟩ := h j o (by simpa using ho)
  simp only [List.size_toArray, List.length_nil, Nat.zero_add] at h1 h2
  rw [h1, bv_test]
  constructor
  · rintro ⟨e, he, hb, hi⟩
    exact ⟨e, he, hb, hi.imp id (fun hi => by rw [h2 _ (hlow j o ho e he hb)]; exact hi)⟩
  · rintro ⟨e, he, hb, hi⟩
    exact ⟨e, he, hb, hi.imp id (fun hi => by rw [h2 _ (hlow j o ho e he hb)] at hi; exact hi)⟩
omit hlow in
theorem ord_some {i j : Nat} (h : orderedI (Region.before ops) i j = true) : ∃ o, ops[j]? = some o := by
  by_cases hj : j < ops.size
  · exact ⟨ops[j], by simp [hj]⟩
  · exfalso
    unfold orderedI at h
    have hs : (Region.before ops).size = ops.size := by
      rw [before_eq]
      have : ∀ (l : List Oper) (acc : Array Nat), (l.foldl (fun acc o => acc.push (bvOf acc o)) acc).size = acc.size + l.length := by
        intro l
        induction l with
        | nil => intro acc; rfl
        | cons o l ih => intro acc; rw [List.foldl_cons, ih]; simp; omega
      rw [this]; simp
    have : (Region.before ops).getD j 0 = 0 := by
      rw [Array.getD_eq_getD_getElem?, Array.getElem?_eq_none (by omega)]; rfl
    rw [this] at h
    simp at h
theorem ord_lt {i j : Nat} (h : orderedI (Region.before ops) i j = true) : i < j := by
  induction j using Nat.strongRecOn with
  | _ j ih =>
    obtain ⟨o, ho⟩ := ord_some h
    obtain ⟨e, he, hb, hi⟩ := (ord_iff hlow ho).1 h
    have := hlow j o ho e he hb
    rcases hi with rfl | hi
    · exact this
    · exact Nat.lt_trans (ih _ this hi) this
theorem ord_trans {i k j : Nat} (h1 : orderedI (Region.before ops) i k = true) (h2 : orderedI (Region.before ops) k j = true) : orderedI (Region.before ops) i j = true := by
  induction j using Nat.strongRecOn with
  | _ j ih =>
    obtain ⟨o, ho⟩ := ord_some h2
    obtain ⟨e, he, hb, hi⟩ := (ord_iff hlow ho).1 h2
    refine (ord_iff hlow ho).2 ⟨e, he, hb, .inr ?_⟩
    rcases hi with rfl | hi
    · exact h1
    · exact ih _ (hlow j o ho e he hb) hi
theorem ord_down {S : Nat → Prop} (hS : ∀ j o, S j → ops[j]? = some o → ∀ e ∈ o.after, Region.binds .any e = true → S e.on) {i j : Nat} (h : orderedI (Region.before ops) i j = true) (hj : S j) : S i := by
  induction j using Nat.strongRecOn with
  | _ j ih =>
    obtain ⟨o, ho⟩ := ord_some h
    obtain ⟨e, he, hb, hi⟩ := (ord_iff hlow ho).1 h
    have h1 := hS j o hj ho e he hb
    rcases hi with rfl | hi
    · exact h1
    · exact ih _ (hlow j o ho e he hb) hi h1
end
end Go.Idl
namespace Go.Idl
open Go.RowKit
section
variable {P : Program} {call : Caller} {loc : Nat → Bool} {ops : Array Oper} {base : Nat → Arg} {m0 : Mem} {tr : List TR}
def IsLook (tr : List TR) (base : Nat → Arg) (S : Nat → Prop) (look : Nat → Arg) : Prop := ∀ s,
  (∃ i x, tr[i]? = some x ∧ S i ∧ x.o.dst = some s ∧ look s = x.g ∧ ∀ j y, tr[j]? = some y → S j → y.o.dst = some s → j ≤ i) ∨
  ((∀ j y, tr[j]? = some y → S j → y.o.dst ≠ some s) ∧ look s = base s)
def IsMem (tr : List TR) (loc : Nat → Bool) (m0 : Mem) (S : Nat → Prop) (m : Mem) : Prop :=
  (∃ i x, tr[i]? = some x ∧ S i ∧ effectI loc x.o = true ∧ m = x.m' ∧ ∀ j y, tr[j]? = some y → S j → effectI loc y.o = true → j ≤ i) ∨
  ((∀ j y, tr[j]? = some y → S j → effectI loc y.o = false) ∧ m = m0)
theorem IsLook.uniq {S T : Nat → Prop} {l l' : Nat → Arg} (h : IsLook tr base S l) (h' : IsLook tr base T l') (hST : ∀ j y, tr[j]? = some y → (S j ↔ T j)) : l = l' := by
  funext s
  rcases h s with ⟨i, x, h1, h2, h3, h4, h5⟩ | ⟨h1, h2⟩
  · rcases h' s with ⟨i', x', k1, k2, k3, k4, k5⟩ | ⟨k1, k2⟩
    · have e1 := h5 i' x' k1 ((hST _ _ k1).2 k2) k3
      have e2 := k5 i x h1 ((hST _ _ h1).1 h2) h3
      obtain rfl : i = i' := by omega
      rw [h1] at k1; cases k1
      rw [h4, k4]
    · exact absurd h3 (k1 i x h1 ((hST _ _ h1).1 h2))
  · rcases h' s with ⟨i', x', k1, k2, k3, k4, k5⟩ | ⟨k1, k2⟩
    · exact absurd k3 (h1 i' x' k1 ((hST _ _ k1).2 k2))
    · rw [h2, k2]
theorem IsMem.uniq {S T : Nat → Prop} {l l' : Mem} (h : IsMem tr loc m0 S l) (h' : IsMem tr loc m0 T l') (hST : ∀ j y, tr[j]? = some y → effectI loc y.o = true → (S j ↔ T j)) : l = l' := by
  rcases h with ⟨i, x, h1, h2, h3, h4, h5⟩ | ⟨h1, h2⟩
  · rcases h' with ⟨i', x', k1, k2, k3, k4, k5⟩ | ⟨k1, k2⟩
    · have e1 := h5 i' x' k1 ((hST _ _ k1 k3).2 k2) k3
      have e2 := k5 i x h1 ((hST _ _ h1 h3).1 h2) h3
      obtain rfl : i = i' := by omega
      rw [h1] at k1; cases k1
      rw [h4, k4]
    · have := k1 i x h1 ((hST _ _ h1 h3).1 h2); rw [h3] at this; cases this
  · rcases h' with ⟨i', x', k1, k2, k3, k4, k5⟩ | ⟨k1, k2⟩
    · have := h1 i' x' k1 ((hST _ _ k1 k3).2 k2); rw [k3] at this; cases this
    · rw [h2, k2]
theorem IsLook.put {S : Nat → Prop} {look : Nat → Arg} (h : IsLook tr base S look) {i : Nat} {x : TR} (hx : tr[i]? = some x)
    (hl : ∀ j y s, tr[j]? = some y → S j → y.o.dst = some s → x.o.dst = some s → j ≤ i) : IsLook tr base (fun j => S j ∨ j = i) (putL look x.o.dst x.g) := by
  intro s
  by_cases hs : x.o.dst = some s
  · refine .inl ⟨i, x, hx, .inr rfl, hs, by rw [hs, putL_get, if_pos rfl], fun j y hy hj hd => ?_⟩
    rcases hj with hj | hj
    · exact hl j y s hy hj hd hs
    · omega
  · have hp : putL look x.o.dst x.g s = look s := by
      cases hd : x.o.dst with
      | none => rfl
      | some d => rw [putL_get, if_neg (fun e => hs (by rw [hd, e]))]
    rw [hp]
    rcases h s with ⟨k, z, h1, h2, h3, h4, h5⟩ | ⟨h1, h2⟩
    · refine .inl ⟨k, z, h1, .inl h2, h3, h4, fun j y hy hj hd => ?_⟩
      rcases hj with hj | hj
      · exact h5 j y hy hj hd
      · subst hj; rw [hx] at hy; cases hy; exact absurd hd hs
    · refine .inr ⟨fun j y hy hj => ?_, h2⟩
      rcases hj with hj | hj
      · exact h1 j y hy hj
      · subst hj; rw [hx] at hy; cases hy; exact hs
theorem IsMem.put {S : Nat → Prop} {m : Mem} (h : IsMem tr loc m0 S m) {i : Nat} {x : TR} (hx : tr[i]? = some x)
    (hl : ∀ j y, tr[j]? = some y → S j → effectI loc y.o = true → effectI loc x.o = true → j ≤ i) : IsMem tr loc m0 (fun j => S j ∨ j = i) (if effectI loc x.o then x.m' else m) := by
  by_cases hs : effectI loc x.o = true
  · rw [if_pos hs]
    refine .inl ⟨i, x, hx, .inr rfl, hs, rfl, fun j y hy hj hd => ?_⟩
    rcases hj with hj | hj
    · exact hl j y hy hj hd hs
    · omega
  · rw [if_neg hs]
    rcases h with ⟨k, z, h1, h2, h3, h4, h5⟩ | ⟨h1, h2⟩
    · refine .inl ⟨k, z, h1, .inl h2, h3, h4, fun j y hy hj hd => ?_⟩
      rcases hj with hj | hj
      · exact h5 j y hy hj hd
      · subst hj; rw [hx] at hy; cases hy; exact absurd hd hs
    · refine .inr ⟨fun j y hy hj => ?_, h2⟩
      rcases hj with hj | hj
      · exact h1 j y hy hj
      · subst hj; rw [hx] at hy; cases hy; simpa using hs
theorem opI_calm {o : Oper} {ρ : Operand → Arg} {m : Mem} (h : effectI loc o = false) : opI P call loc o ρ m = evalV P o.dst o.op ρ m := by
  unfold effectI at h
  unfold opI
  split at h
  · rename_i t ho
    rw [ho]
    simp only [Bool.not_eq_false'] at h
    simp only [h, if_true]
  · rename_i t x ho
    rw [ho]
    simp only [Bool.not_eq_false'] at h
    simp only [h, if_true]
  · rename_i t n ps ho
    rw [ho]
    simp only [h, Bool.false_eq_true, if_false]
  · rename_i ho
    rw [ho]
    simp only [h, Bool.false_eq_true, if_false]
  · rename_i op h1 h2 h3 h4
    split
    · rename_i ho; exact absurd ho (h1 _)
    · rename_i ho; exact absurd ho (h2 _ _)
    · rename_i ho; exact absurd ho (h3 _ _ _)
    · rename_i ho; exact absurd ho (h4 _ _ _ _ _)
    · rename_i ho; rw [ho] at h; simp [effectOp] at h
    · rename_i ho; rw [ho] at h; simp [effectOp] at h
    · rfl
theorem calm_mem {o : Oper} {ρ : Operand → Arg} {m m' : Mem} {g : Arg} (h : effectI loc o = false) (hr : opI P call loc o ρ m = some (g, m')) : m' = m := by
  rw [opI_calm h] at hr
  have hb : ∀ z : Bool, (!z) = false → z = true := by decide
  unfold effectI at h
  split at h
  · rename_i t ho
    rw [ho] at hr
    simp only [evalV] at hr
    split at hr
    case isFalse => cases hr
    rw [Option.map_eq_some_iff] at hr; obtain ⟨s, h1, hr⟩ := hr; cases hr; rfl
  · rename_i t x ho
    rw [ho] at hr
    simp only [evalV] at hr
    split at hr
    case isFalse => cases hr
    rw [Option.map_eq_some_iff] at hr; obtain ⟨s, h1, hr⟩ := hr; cases hr; rfl
  · rename_i t n ps ho
    rw [ho] at hr
    exact evalV_pure rfl hr
  · rename_i ho
    rw [ho] at hr
    exact evalV_pure rfl hr
  · exact evalV_pure h hr
structure TraceOk (P : Program) (call : Caller) (loc : Nat → Bool) (ops : Array Oper) (base : Nat → Arg) (m0 : Mem) (tr : List TR) (i : Nat) (x : TR) : Prop where
  look : IsLook tr base (· < i) (ovLook base x.ov)
  mem : IsMem tr loc m0 (· < i) x.m
  want : wantedI ops (ovLook base x.ov) x.o = some x.ran
  run : x.ran = true → opI P call loc x.o (rho (ovLook base x.ov)) x.m = some (x.g, x.m')
  skip : x.ran = false → x.g = .v (.tup []) ∧ x.m' = x.m
theorem isLook_app {pre post : List TR} {n : Nat} {look : Nat → Arg} (hn : n ≤ pre.length) (h : IsLook pre base (· < n) look) : IsLook (pre ++ post) base (· < n) look := by
  have e : ∀ (j : Nat), j < n → (pre ++ post)[j]? = pre[j]? := fun j hj => List.getElem?_append_left (by omega)
  intro s
  rcases h s with ⟨k, z, h1, h2, h3, h4, h5⟩ | ⟨h1, h2⟩
  · exact .inl ⟨k, z, by rw [e k h2]; exact h1, h2, h3, h4, fun j y hy hj hd => h5 j y (by rw [← e j hj]; exact hy) hj hd⟩
  · exact .inr ⟨fun j y hy hj => h1 j y (by rw [← e j hj]; exact hy) hj, h2⟩
theorem isMem_app {pre post : List TR} {n : Nat} {m : Mem} (hn : n ≤ pre.length) (h : IsMem pre loc m0 (· < n) m) : IsMem (pre ++ post) loc m0 (· < n) m := by
  have e : ∀ (j : Nat), j < n → (pre ++ post)[j]? = pre[j]? := fun j hj => List.getElem?_append_left (by omega)
  rcases h with ⟨k, z, h1, h2, h3, h4, h5⟩ | ⟨h1, h2⟩
  · exact .inl ⟨k, z, by rw [e k h2]; exact h1, h2, h3, h4, fun j y hy hj hd => h5 j y (by rw [← e j hj]; exact hy) hj hd⟩
  · exact .inr ⟨fun j y hy hj => h1 j y (by rw [← e j hj]; exact hy) hj, h2⟩
theorem trace_facts : ∀ (l : List Oper) (pre : List TR) (ov : List (Nat × Arg)) (m : Mem) (tr : List TR) (ov' : List (Nat × Arg)) (m' : Mem),
    traceOps P call loc ops base l ov m = some (tr, ov', m') → IsLook pre base (· < pre.length) (ovLook base ov) → IsMem pre loc m0 (· < pre.length) m →
    (∀ i x, tr[i]? = some x → l[i]? = some x.o ∧ TraceOk P call loc ops base m0 (pre ++ tr) (pre.length + i) x) ∧ IsLook (pre ++ tr) base (· < (pre ++ tr).length) (ovLook base ov') ∧
      IsMem (pre ++ tr) loc m0 (· < (pre ++ tr).length) m' ∧ tr.length = l.length
  | [], pre, ov, m, tr, ov', m', h, h1, h2 => by
    cases h
    rw [List.append_nil]
    exact ⟨fun i x hx => by simp at hx, h1, h2, rfl⟩
  | o :: l, pre, ov, m, tr, ov', m', h, h1, h2 => by
    -- one operation more
    have main : ∀ (x : TR) (tr1 : List TR), x.o = o → x.ov = ov → x.m = m → wantedI ops (ovLook base ov) o = some x.ran → (x.ran = true → opI P call loc o (rho (ovLook base ov)) m = some (x.g, x.m')) →
        (x.ran = false → x.g = .v (.tup []) ∧ x.m' = m) → traceOps P call loc ops base l (ovPut o.dst x.g ov) x.m' = some (tr1, ov', m') → tr = x :: tr1 →
        (∀ i x, tr[i]? = some x → (o :: l)[i]? = some x.o ∧ TraceOk P call loc ops base m0 (pre ++ tr) (pre.length + i) x) ∧ IsLook (pre ++ tr) base (· < (pre ++ tr).length) (ovLook base ov') ∧
      IsMem (pre ++ tr) loc m0 (· < (pre ++ tr).length) m' ∧ tr.length = (o :: l).length := by
      intro x tr1 e1 e2 e3 hw hr hs ht e4
      subst e1
      have hx : (pre ++ [x])[pre.length]? = some x := by simp
      have eq1 : ∀ j, (j < pre.length ∨ j = pre.length) ↔ j < (pre ++ [x]).length := fun j => by simp; omega
      have l1 : IsLook (pre ++ [x]) base (· < (pre ++ [x]).length) (ovLook base (ovPut x.o.dst x.g ov)) := by
        rw [ovLook_put]
        have := (isLook_app (post := [x]) (Nat.le_refl _) h1).put hx (fun j y s hy hj _ _ => Nat.le_of_lt hj)
        simpa only [eq1] using this
      have l2 : IsMem (pre ++ [x]) loc m0 (· < (pre ++ [x]).length) x.m' := by
        have := (isMem_app (post := [x]) (Nat.le_refl _) h2).put hx (fun j y hy hj _ _ => Nat.le_of_lt hj)
        have e : (if effectI loc x.o then x.m' else m) = x.m' := by
          by_cases he : effectI loc x.o = true
          · rw [if_pos he]
          · rw [if_neg he]
            cases hran : x.ran with
            | true => exact (calm_mem (by simpa using he) (hr hran)).symm
            | false => exact (hs hran).2.symm
        rw [e] at this
        simpa only [eq1] using this
      obtain ⟨k1, k2, k3, k4⟩ := trace_facts l (pre ++ [x]) _ _ tr1 ov' m' ht l1 l2
      have ea : pre ++ [x] ++ tr1 = pre ++ tr := by rw [e4]; simp
      rw [ea] at k1 k2 k3
      refine ⟨fun i y hy => ?_, k2, k3, by rw [e4]; simp [k4]⟩
      rw [e4] at hy
      cases i with
      | zero =>
        simp only [List.getElem?_cons_zero, Option.some.injEq] at hy
        subst hy
        refine ⟨rfl, ?_⟩
        rw [Nat.add_zero]
        exact ⟨by rw [e2]; exact isLook_app (Nat.le_refl _) h1, by rw [e3]; exact isMem_app (Nat.le_refl _) h2, by rw [e2]; exact hw, by rw [e2, e3]; exact hr, by rw [e3]; exact hs⟩
      | succ i =>
        obtain ⟨q1, q2⟩ := k1 i y (by simpa using hy)
        refine ⟨by simpa using q1, ?_⟩
        rwa [show (pre ++ [x]).length + i = pre.length + (i + 1) by simp; omega] at q2
    unfold traceOps at h
    split at h
    · cases h
    · rename_i hw
      rw [Option.map_eq_some_iff] at h
      obtain ⟨⟨tr1, ov1, m1⟩, ht, h⟩ := h
      cases h
      exact main ⟨o, ov, m, false, .v (.tup []), m⟩ tr1 rfl rfl rfl hw (fun h => by cases h) (fun _ => ⟨rfl, rfl⟩) ht rfl
    · rename_i hw
      obtain ⟨⟨g, m2⟩, hg, h⟩ := Option.bind_eq_some_iff.1 h
      rw [Option.map_eq_some_iff] at h
      obtain ⟨⟨tr1, ov1, m1⟩, ht, h⟩ := h
      cases h
      exact main ⟨o, ov, m, true, g, m2⟩ tr1 rfl rfl rfl hw (fun _ => hg) (fun h => by cases h) ht rfl
end
end Go.Idl
namespace Go.Idl
open Go.RowKit
theorem least_of {p : Nat → Prop} : ∀ j, p j → ∃ i, p i ∧ ∀ k, p k → i ≤ k := by
  intro j
  induction j using Nat.strongRecOn with
  | _ j ih =>
    intro hj
    by_cases h : ∃ k, k < j ∧ p k
    · obtain ⟨k, hk, hp⟩ := h
      exact ih k hk hp
    · exact ⟨j, hj, fun k hk => Nat.le_of_not_lt fun hlt => h ⟨k, hlt, hk⟩⟩
section
variable {P : Program} {call : Caller} {loc : Nat → Bool} {ops : Array Oper} {base : Nat → Arg} {m0 : Mem} {tr : List TR}
theorem wantedI_congr {look look' : Nat → Arg} {o : Oper} (h : ∀ s ∈ looksI ops o, look s = look' s) : wantedI ops look o = wantedI ops look' o := by
  unfold wantedI
  split
  · rfl
  · rename_i j want hg
    split
    · rename_i s hs
      rw [h s (by unfold looksI; rw [hg]; simp [hs])]
    · rfl
theorem rho_congr {look look' : Nat → Arg} {o : Oper} (h : ∀ s ∈ looksI ops o, look s = look' s) : ∀ x ∈ o.op.operands, rho look x = rho look' x := by
  intro x hx
  cases x with
  | tmp t => exact h t (by unfold looksI; exact List.mem_append_left _ (List.mem_filterMap.2 ⟨.tmp t, by simpa using hx, rfl⟩))
  | _ => rfl
theorem opI_congr {o : Oper} {ρ ρ' : Operand → Arg} {m : Mem} (h : ∀ x ∈ o.op.operands, ρ x = ρ' x) : opI P call loc o ρ m = opI P call loc o ρ' m := by
  have e := evalV_congr (P := P) (m := m) (d := o.dst) h
  unfold opI
  split
  · rw [e]
  · rename_i t x ho
    rw [e, h x (by rw [ho]; simp [Op.operands])]
  · rename_i t n ps ho
    rw [e]
    have : (ps.toList.map fun p => (p.1, (ρ p.2).vl)) = ps.toList.map fun p => (p.1, (ρ' p.2).vl) := parts_congr (fun x hx => h x (by rw [ho]; simpa [Op.operands] using hx))
    simp only [this]
  · rename_i t x lo hi mx ho
    have hhi : (hi.map fun y => (ρ y).vl) = hi.map fun y => (ρ' y).vl := by
      cases hi with
      | none => rfl
      | some y => simp only [Option.map_some]; rw [h y (by rw [ho]; simp [Op.operands])]
    rw [e, h x (by rw [ho]; simp [Op.operands]), hhi]
  · rename_i fo as ts ho
    rw [h fo (by rw [ho]; simp [Op.operands, Call.operands])]
    have : as.toList.map ρ = as.toList.map ρ' := List.map_congr_left fun x hx => h x (by rw [ho]; simp [Op.operands, Call.operands]; right; simpa using hx)
    rw [this]
  · rename_i ro name as ts ho
    rw [h ro (by rw [ho]; simp [Op.operands, Call.operands])]
    have : as.toList.map ρ = as.toList.map ρ' := List.map_congr_left fun x hx => h x (by rw [ho]; simp [Op.operands, Call.operands]; right; simpa using hx)
    rw [this]
  · exact e
structure Static (loc : Nat → Bool) (ops : Array Oper) : Prop where
  low : ∀ (j : Nat) (o : Oper), ops[j]? = some o → ∀ e ∈ o.after, Region.binds .any e = true → e.on < j
  eff : ∀ (i j : Nat) (o' o : Oper), ops[i]? = some o' → ops[j]? = some o → i < j → effectI loc o' = true → effectI loc o = true → orderedI (Region.before ops) i j = true
  clash : ∀ (i j : Nat) (o' o : Oper), ops[i]? = some o' → ops[j]? = some o → i < j → clash o' o (looksI ops o') (looksI ops o) = true → orderedI (Region.before ops) i j = true
theorem static_of (h : staticOk loc ops = true) : Static loc ops := by
  unfold staticOk at h
  have hmem : ∀ (j : Nat) (o : Oper), ops[j]? = some o → (o, j) ∈ ops.toList.zipIdx := fun j o ho => by
    rw [List.mem_zipIdx_iff_getElem?]; simpa using ho
  simp only [List.all_eq_true] at h
  have key : ∀ (i j : Nat) (o' o : Oper), ops[i]? = some o' → ops[j]? = some o → i < j → orderedI (Region.before ops) i j = true ∨ ((effectI loc o && effectI loc o') = false ∧ clash o' o (looksI ops o') (looksI ops o) = false) := by
    intro i j o' o hi hj hlt
    have h1 := h (o, j) (hmem j o hj)
    simp only [Bool.and_eq_true] at h1
    have h2 := List.all_eq_true.1 h1.2 (o', i) (hmem i o' hi)
    simp only [hlt, decide_true, Bool.not_true, Bool.false_or, Bool.or_eq_true, Bool.and_eq_true, Bool.not_eq_true'] at h2
    rcases h2 with h2 | h2
    · exact .inl h2
    · exact .inr h2
  refine ⟨fun j o ho e he hb => ?_, fun i j o' o hi hj hlt h1 h2 => ?_, fun i j o' o hi hj hlt h1 => ?_⟩
  · have h1 := h (o, j) (hmem j o ho)
    simp only [Bool.and_eq_true] at h1
    have h2 := (Array.all_eq_true_iff_forall_mem.1 h1.1) e he
    simpa [hb] using h2
  · rcases key i j o' o hi hj hlt with h | ⟨h, _⟩
    · exact h
    · rw [h1, h2] at h; cases h
  · rcases key i j o' o hi hj hlt with h | ⟨_, h⟩
    · exact h
    · rw [h1] at h; cases h
theorem clash_dst {x y : Oper} {lx ly : List Nat} {s : Nat} (h1 : x.dst = some s) (h2 : y.dst = some s) : clash x y lx ly = true := by simp [clash, h1, h2]
theorem clash_rd {x y : Oper} {lx ly : List Nat} {s : Nat} (h1 : x.dst = some s) (h2 : s ∈ ly) : clash x y lx ly = true := by
  cases hy : y.dst <;> simp [clash, h1, hy, h2]
theorem clash_wr {x y : Oper} {lx ly : List Nat} {s : Nat} (h1 : y.dst = some s) (h2 : s ∈ lx) : clash x y lx ly = true := by
  cases hx : x.dst <;> simp [clash, h1, hx, h2]
variable (T : ∀ i x, tr[i]? = some x → ops[i]? = some x.o ∧ TraceOk P call loc ops base m0 tr i x) (hlen : tr.length = ops.size) (St : Static loc ops)
  {S : Nat → Prop} (hS : ∀ j o, S j → ops[j]? = some o → ∀ e ∈ o.after, Region.binds .any e = true → S e.on)
  {i : Nat} {x : TR} (hx : tr[i]? = some x) (hi : ¬ S i) (hbef : ∀ k, orderedI (Region.before ops) k i = true → S k)
include T St hS hx hi hbef
theorem look_eq {look : Nat → Arg} (h : IsLook tr base S look) : ∀ s ∈ looksI ops x.o, look s = ovLook base x.ov s := by
  intro s hs
  obtain ⟨ho, t⟩ := T i x hx
  have later : ∀ k z, tr[k]? = some z → S k → z.o.dst = some s → k < i := fun k z hz hk hd => by
    rcases Nat.lt_trichotomy k i with h | h | h
    · exact h
    · subst h; exact absurd hk hi
    · exact absurd (ord_down St.low hS (St.clash i k x.o z.o ho (T k z hz).1 h (clash_wr hd hs)) hk) hi
  rcases t.look s with ⟨k, z, k1, k2, k3, k4, k5⟩ | ⟨k1, k2⟩
  · have hk := hbef k (St.clash k i z.o x.o (T k z k1).1 ho k2 (clash_rd k3 hs))
    rcases h s with ⟨j, y, j1, j2, j3, j4, j5⟩ | ⟨j1, j2⟩
    · have e1 := j5 k z k1 hk k3
      have e2 := k5 j y j1 (later j y j1 j2 j3) j3
      obtain rfl : j = k := by omega
      rw [k1] at j1; cases j1
      rw [j4, k4]
    · exact absurd k3 (j1 k z k1 hk)
  · rcases h s with ⟨j, y, j1, j2, j3, j4, j5⟩ | ⟨j1, j2⟩
    · exact absurd j3 (k1 j y j1 (later j y j1 j2 j3))
    · rw [j2, k2]
theorem after_look {look : Nat → Arg} (h : IsLook tr base S look) : IsLook tr base (fun j => S j ∨ j = i) (putL look x.o.dst x.g) :=
  h.put hx fun j y s hy hj h1 h2 => Nat.le_of_not_lt fun hlt => hi (ord_down St.low hS (St.clash i j x.o y.o (T i x hx).1 (T j y hy).1 hlt (clash_dst h2 h1)) hj)
theorem after_mem {m : Mem} (h : IsMem tr loc m0 S m) : IsMem tr loc m0 (fun j => S j ∨ j = i) (if effectI loc x.o then x.m' else m) :=
  h.put hx fun j y hy hj h1 h2 => Nat.le_of_not_lt fun hlt => hi (ord_down St.low hS (St.eff i j x.o y.o (T i x hx).1 (T j y hy).1 hlt h2 h1) hj)
theorem mem_eff {m : Mem} (h : IsMem tr loc m0 S m) (he : effectI loc x.o = true) : m = x.m := by
  obtain ⟨ho, t⟩ := T i x hx
  refine h.uniq t.mem (fun j y hy hj => ⟨fun h1 => ?_, fun h1 => hbef j (St.eff j i y.o x.o (T j y hy).1 ho h1 hj he)⟩)
  rcases Nat.lt_trichotomy j i with h | h | h
  · exact h
  · subst h; exact absurd h1 hi
  · exact absurd (ord_down St.low hS (St.eff i j x.o y.o ho (T j y hy).1 h he hj) h1) hi
omit T St hS hx hi hbef in
theorem calm_op {o : Oper} (h : effectI loc o = false) : effectOp o.op = false := by
  unfold effectI at h
  split at h
  · rename_i ho; rw [ho]; rfl
  · rename_i ho; rw [ho]; rfl
  · rename_i ho; rw [ho]; rfl
  · rename_i ho; rw [ho]; rfl
  · exact h
theorem calm_run {look : Nat → Arg} {m : Mem} (hl : IsLook tr base S look) (hm : IsMem tr loc m0 S m) (hloose : (loosePairs loc ops).all (looseOk P base tr) = true) (hran : x.ran = true) (he : effectI loc x.o = false) :
    opI P call loc x.o (rho look) m = some (x.g, m) := by
  obtain ⟨ho, t⟩ := T i x hx
  have hlk := look_eq T St hS hx hi hbef hl
  have hp := calm_op he
  have hrun := t.run hran
  have hmm := calm_mem he hrun
  rw [opI_calm he] at hrun ⊢
  rw [evalV_congr (rho_congr hlk)]
  have pure_at : ∀ mm m2, evalV P x.o.dst x.o.op (rho (ovLook base x.ov)) mm = some (x.g, m2) → evalV P x.o.dst x.o.op (rho (ovLook base x.ov)) mm = some (x.g, mm) := fun mm m2 h => by
    have := evalV_pure hp h; rw [this] at h; exact h
  by_cases hrd : readsOp x.o.op = true
  · have loose : ∀ k y, tr[k]? = some y → effectI loc y.o = true → i ≠ k → orderedI (Region.before ops) i k ≠ true → orderedI (Region.before ops) k i ≠ true →
        evalV P x.o.dst x.o.op (rho (ovLook base x.ov)) (if k < i then y.m else y.m') = some (x.g, if k < i then y.m else y.m') := by
      intro k y hy hke hne h1 h2
      have hmem : (i, k) ∈ loosePairs loc ops := by
        unfold loosePairs
        rw [List.mem_flatMap]
        refine ⟨(x.o, i), by rw [List.mem_zipIdx_iff_getElem?]; simpa using ho, ?_⟩
        simp only [hrd, he, Bool.not_false, Bool.and_self, if_true]
        rw [List.mem_filterMap]
        refine ⟨(y.o, k), by rw [List.mem_zipIdx_iff_getElem?]; simpa using (T k y hy).1, ?_⟩
        simp only [hke, Bool.true_and]
        rw [if_pos]
        simp only [Bool.and_eq_true, bne_iff_ne, Bool.not_eq_true', ne_eq]
        exact ⟨⟨hne, by simpa using h1⟩, by simpa using h2⟩
      have := List.all_eq_true.1 hloose _ hmem
      unfold looseOk at this
      rw [hx, hy] at this
      simp only [hran, Bool.not_true, Bool.false_or] at this
      split at this
      · rename_i g m2 hg
        rw [eqArg_sound this] at hg
        exact pure_at _ _ hg
      · cases this
    by_cases hA : ∃ j y, tr[j]? = some y ∧ S j ∧ effectI loc y.o = true ∧ i < j
    · obtain ⟨j, y, hy, hj, hje, hij⟩ := hA
      rcases hm with ⟨k, z, k1, k2, k3, k4, k5⟩ | ⟨k1, _⟩
      · have := k5 j y hy hj hje
        have hki : i < k := by omega
        have := loose k z k1 k3 (by omega) (fun h => hi (ord_down St.low hS h k2)) (fun h => by have := ord_lt St.low h; omega)
        rw [if_neg (by omega)] at this
        rw [k4]; exact this
      · have := k1 j y hy hj; rw [hje] at this; cases this
    · by_cases hB : ∃ k, k < i ∧ ¬ S k ∧ ∃ y, tr[k]? = some y ∧ effectI loc y.o = true
      · obtain ⟨k0, hk0⟩ := hB
        obtain ⟨k, ⟨hk, hkS, y, hy, hke⟩, hmin⟩ := least_of (p := fun k => k < i ∧ ¬ S k ∧ ∃ y, tr[k]? = some y ∧ effectI loc y.o = true) k0 hk0
        have := loose k y hy hke (by omega) (fun h => by have := ord_lt St.low h; omega) (fun h => hkS (hbef k h))
        rw [if_pos hk] at this
        have hmk : m = y.m := by
          refine hm.uniq (T k y hy).2.mem (fun j z hz hj => ⟨fun h1 => ?_, fun h1 => ?_⟩)
          · rcases Nat.lt_trichotomy j k with h | h | h
            · exact h
            · subst h; exact absurd h1 hkS
            · exact absurd (ord_down St.low hS (St.eff k j y.o z.o (T k y hy).1 (T j z hz).1 h hke hj) h1) hkS
          · exact Classical.byContradiction fun hn => by
              have := hmin j ⟨by omega, hn, z, hz, hj⟩
              omega
        rw [hmk]; exact this
      · have hmk : m = x.m := by
          refine hm.uniq t.mem (fun j z hz hj => ⟨fun h1 => ?_, fun h1 => ?_⟩)
          · rcases Nat.lt_trichotomy j i with h | h | h
            · exact h
            · subst h; exact absurd h1 hi
            · exact absurd ⟨j, z, hz, h1, hj, h⟩ hA
          · exact Classical.byContradiction fun hn => hB ⟨j, h1, hn, z, hz, hj⟩
        rw [hmk]; exact pure_at _ _ hrun
  · rw [evalV_indep (m := x.m) hp (by simpa using hrd) m, hrun]
    rfl
end
end Go.Idl
namespace Go.Idl
open Go.RowKit
theorem alloc_inj : ∀ {l : List Oper} {i j : Nat} {x y : Oper} {d : Nat}, (l.filterMap fun o => if allocOp o.op then o.dst else none).Nodup → l[i]? = some x → l[j]? = some y →
    allocOp x.op = true → allocOp y.op = true → x.dst = some d → y.dst = some d → i = j
  | [], i, j, x, y, d, _, h, _, _, _, _, _ => by simp at h
  | o :: l, i, j, x, y, d, hn, hi, hj, ax, ay, dx, dy => by
    have mem : ∀ {k : Nat} {z : Oper}, l[k]? = some z → allocOp z.op = true → z.dst = some d → d ∈ l.filterMap fun o => if allocOp o.op then o.dst else none := fun hk az dz =>
      List.mem_filterMap.2 ⟨_, List.mem_of_getElem? hk, by rw [if_pos az]; exact dz⟩
    have hn' : (l.filterMap fun o => if allocOp o.op then o.dst else none).Nodup := by
      rw [List.filterMap_cons] at hn
      split at hn
      · exact hn
      · exact (List.nodup_cons.1 hn).2
    have hd : allocOp o.op = true → o.dst = some d → d ∉ l.filterMap fun o => if allocOp o.op then o.dst else none := fun ao h => by
      rw [List.filterMap_cons, if_pos ao, h] at hn
      exact (List.nodup_cons.1 hn).1
    cases i with
    | zero =>
      cases j with
      | zero => rfl
      | succ j =>
        simp only [List.getElem?_cons_zero, Option.some.injEq] at hi
        subst hi
        exact absurd (mem (by simpa using hj) ay dy) (hd ax dx)
    | succ i =>
      cases j with
      | zero =>
        simp only [List.getElem?_cons_zero, Option.some.injEq] at hj
        subst hj
        exact absurd (mem (by simpa using hi) ax dx) (hd ay dy)
      | succ j => exact congrArg (· + 1) (alloc_inj (l := l) (i := i) (j := j) hn' (by simpa using hi) (by simpa using hj) ax ay dx dy)
section
variable {P : Program} {call : Caller} {loc : Nat → Bool} {ops : Array Oper} {base : Nat → Arg} {m0 : Mem} {tr : List TR} {B : Nat → Prop}
  (hcall : CallOk P call) (T : ∀ i x, tr[i]? = some x → ops[i]? = some x.o ∧ TraceOk P call loc ops base m0 tr i x) (St : Static loc ops)
  (hB : ∀ s t off c0, base s = .pl t off c0 → B t) (hm0 : m0.lc = [])
include hcall T St hB
theorem roots1 (j : Nat) : ∀ x, tr[j]? = some x → ∀ t off c0, x.g = .pl t off c0 → B t ∨ ∃ i y, tr[i]? = some y ∧ allocOp y.o.op = true ∧ y.o.dst = some t ∧ (i = j ∨ orderedI (Region.before ops) i j = true) := by
  induction j using Nat.strongRecOn with
  | _ j ih =>
    intro x hx t off c0 hg
    obtain ⟨ho, k⟩ := T j x hx
    cases hran : x.ran with
    | false => rw [(k.skip hran).1] at hg; cases hg
    | true =>
      rcases (opI_from hcall (k.run hran)).1 t off c0 hg with ⟨s, o', c', hs, hl⟩ | ⟨h1, h2⟩
      · have hlk : s ∈ looksI ops x.o := List.mem_append_left _ (List.mem_filterMap.2 ⟨.tmp s, by simpa using hs, rfl⟩)
        rcases k.look s with ⟨q, z, q1, q2, q3, q4, _⟩ | ⟨_, q2⟩
        · have hord := St.clash q j z.o x.o (T q z q1).1 ho q2 (clash_rd q3 hlk)
          rw [q4] at hl
          rcases ih q q2 z q1 t _ _ hl with h | ⟨i, y, y1, y2, y3, y4⟩
          · exact .inl h
          · refine .inr ⟨i, y, y1, y2, y3, .inr ?_⟩
            rcases y4 with rfl | y4
            · exact hord
            · exact ord_trans St.low y4 hord
        · rw [q2] at hl; exact .inl (hB _ _ _ _ hl)
      · exact .inr ⟨j, x, hx, h1, h2, .inl rfl⟩
include hm0
theorem roots2 (j : Nat) : ∀ x, tr[j]? = some x → ∀ t c, x.m'.lc.lookup t = some c → B t ∨ ∃ i y e z, tr[i]? = some y ∧ allocOp y.o.op = true ∧ y.o.dst = some t ∧ tr[e]? = some z ∧ effectI loc z.o = true ∧ e ≤ j ∧
    orderedI (Region.before ops) i e = true := by
  induction j using Nat.strongRecOn with
  | _ j ih =>
    intro x hx t c hg
    obtain ⟨ho, k⟩ := T j x hx
    have hm : ∀ c, x.m.lc.lookup t = some c → B t ∨ ∃ i y e z, tr[i]? = some y ∧ allocOp y.o.op = true ∧ y.o.dst = some t ∧ tr[e]? = some z ∧ effectI loc z.o = true ∧ e ≤ j ∧ orderedI (Region.before ops) i e = true := by
      intro c hc
      rcases k.mem with ⟨q, z, q1, q2, q3, q4, _⟩ | ⟨_, q2⟩
      · rw [q4] at hc
        rcases ih q q2 z q1 t c hc with h | ⟨i, y, e, z', h1, h2, h3, h4, h5, h6, h7⟩
        · exact .inl h
        · have q2 : q < j := q2
          exact .inr ⟨i, y, e, z', h1, h2, h3, h4, h5, by omega, h7⟩
      · rw [q2, hm0] at hc; cases hc
    cases hran : x.ran with
    | false => rw [(k.skip hran).2] at hg; exact hm c hg
    | true =>
      by_cases he : effectI loc x.o = true
      · rcases (opI_from hcall (k.run hran)).2 with h | ⟨t', c', s, off, c0, hs, hl, h⟩
        · rw [h] at hg; exact hm c hg
        · rw [h, lookup_setL] at hg
          split at hg
          · rename_i e
            subst e
            have hlk : s ∈ looksI ops x.o := List.mem_append_left _ (List.mem_filterMap.2 ⟨.tmp s, by simpa using hs, rfl⟩)
            rcases k.look s with ⟨q, z, q1, q2, q3, q4, _⟩ | ⟨_, q2⟩
            · have hord := St.clash q j z.o x.o (T q z q1).1 ho q2 (clash_rd q3 hlk)
              rw [q4] at hl
              rcases roots1 hcall T St hB q z q1 t _ _ hl with h | ⟨i, y, y1, y2, y3, y4⟩
              · exact .inl h
              · refine .inr ⟨i, y, j, x, y1, y2, y3, hx, he, Nat.le_refl _, ?_⟩
                rcases y4 with rfl | y4
                · exact hord
                · exact ord_trans St.low y4 hord
            · rw [q2] at hl; exact .inl (hB _ _ _ _ hl)
          · exact hm c hg
      · rw [calm_mem (by simpa using he) (k.run hran)] at hg; exact hm c hg
variable {S : Nat → Prop} (hS : ∀ j o, S j → ops[j]? = some o → ∀ e ∈ o.after, Region.binds .any e = true → S e.on) (hnd : (allocDsts ops).Nodup) (hBd : ∀ d ∈ allocDsts ops, ¬ B d)
  {i : Nat} {x : TR} (hx : tr[i]? = some x) (hi : ¬ S i)
include hS hnd hBd hx hi
theorem fresh_at {look : Nat → Arg} {m : Mem} (hl : IsLook tr base S look) (hm : IsMem tr loc m0 S m) (hal : allocOp x.o.op = true) (d : Nat) (hd : x.o.dst = some d) :
    (∀ s' t off c0, look s' = .pl t off c0 → t ≠ d) ∧ m.lc.lookup d = none := by
  have hdm : d ∈ allocDsts ops := List.mem_filterMap.2 ⟨x.o, List.mem_of_getElem? (by simpa using (T i x hx).1), by rw [if_pos hal]; exact hd⟩
  have same : ∀ i' y, tr[i']? = some y → allocOp y.o.op = true → y.o.dst = some d → i' = i := fun i' y hy ha hyd =>
    alloc_inj hnd (by simpa using (T i' y hy).1) (by simpa using (T i x hx).1) ha hal hyd hd
  constructor
  · intro s' t off c0 hlk e
    subst e
    rcases hl s' with ⟨j, y, j1, j2, j3, j4, _⟩ | ⟨_, j2⟩
    · rw [j4] at hlk
      rcases roots1 hcall T St hB j y j1 t _ _ hlk with h | ⟨i', z, z1, z2, z3, z4⟩
      · exact hBd _ hdm h
      · have := same i' z z1 z2 z3
        subst this
        rcases z4 with rfl | z4
        · exact hi j2
        · exact hi (ord_down St.low hS z4 j2)
    · rw [j2] at hlk; exact hBd _ hdm (hB _ _ _ _ hlk)
  · cases hlk : m.lc.lookup d with
    | none => rfl
    | some c =>
      exfalso
      rcases hm with ⟨k, z, k1, k2, k3, k4, _⟩ | ⟨_, k2⟩
      · rw [k4] at hlk
        rcases roots2 hcall T St hB hm0 k z k1 d c hlk with h | ⟨i', y, e, u, h1, h2, h3, h4, h5, h6, h7⟩
        · exact hBd _ hdm h
        · have := same i' y h1 h2 h3
          subst this
          have hSe : S e := by
            rcases Nat.lt_or_eq_of_le h6 with h | h
            · exact ord_down St.low hS (St.eff e k u.o z.o (T e u h4).1 (T k z k1).1 h h5 k3) k2
            · rw [h]; exact k2
          exact hi (ord_down St.low hS h7 hSe)
      · rw [k2, hm0] at hlk; cases hlk
end
end Go.Idl
namespace Go.Idl
open Go.RowKit
section
variable {P : Program} {w0 : World} {mu : En} {nt : Nat}
def Gone (listed : Array Bool) (i : Nat) : Prop := listed.getD i false = true
theorem gone_set {listed : Array Bool} {i : Nat} (hi : i < listed.size) (j : Nat) : Gone (listed.setIfInBounds i true) j ↔ Gone listed j ∨ j = i := by
  unfold Gone
  simp only [Array.getD_eq_getD_getElem?, Array.getElem?_setIfInBounds]
  by_cases h : i = j
  · subst h; simp [hi]
  · rw [if_neg h]
    constructor
    · exact .inl
    · rintro (h' | h')
      · exact h'
      · exact absurd h'.symm h
theorem not_gone {listed : Array Bool} {i : Nat} (hi : i < listed.size) : listed.getD i true = false ↔ ¬ Gone listed i := by
  unfold Gone
  simp only [Array.getD_eq_getD_getElem?, Array.getElem?_eq_getElem hi, Option.getD_some]
  cases listed[i] <;> simp
theorem any_wp {F : Fence} {call : Caller} {loc : Nat → Bool} {ops : Array Oper} {base : Nat → Arg} {m0 : Mem} {tr : List TR} {B : Nat → Prop} (hP : ProgOk P) (hcall : CallOk P call) (hF : WideF P F mu.G.ok w0) (hro : F.round = F.round) {n : Nat}
    {Q : Exit → Act → World → Prop} {df : List Deferred} {ov' : List (Nat × Arg)} {m' : Mem}
    (T : ∀ i x, tr[i]? = some x → ops[i]? = some x.o ∧ TraceOk P call loc ops base m0 tr i x) (hlen : tr.length = ops.size) (St : Static loc ops)
    (hB : ∀ s t off c0, base s = .pl t off c0 → B t) (hm0 : m0.lc = []) (hnd : (allocDsts ops).Nodup) (hBd : ∀ d ∈ allocDsts ops, ¬ B d)
    (hloose : (loosePairs loc ops).all (looseOk P base tr) = true) (hfl : IsLook tr base (· < tr.length) (ovLook base ov')) (hfm : IsMem tr loc m0 (· < tr.length) m')
    (hdst : ∀ (i : Nat) (o : Oper), ops[i]? = some o → ∀ t, o.dst = some t → t < nt)
    (hQ : ∀ G' a' w', RR w0 mu G' (ovLook base ov') m' nt a'.tmps w' → a'.defers = df → Q .normal a' w') :
    ∀ (fuel : Nat) (listed : Array Bool) (G : Gh) (a : Act) (w : World) (look : Nat → Arg) (m : Mem), listed.size = ops.size → listed.toList.count false ≤ fuel →
      (∀ j o, Gone listed j → ops[j]? = some o → ∀ e ∈ o.after, Region.binds .any e = true → Gone listed e.on) → IsLook tr base (Gone listed) look → IsMem tr loc m0 (Gone listed) m →
      RR w0 mu G look m nt a.tmps w → a.defers = df → wpAnyIn F n P .any ops Q fuel listed a w := by
  -- nothing is ready: all have gone
  have fin : ∀ (listed : Array Bool) (G : Gh) (a : Act) (w : World) (look : Nat → Arg) (m : Mem), listed.size = ops.size → IsLook tr base (Gone listed) look → IsMem tr loc m0 (Gone listed) m →
      RR w0 mu G look m nt a.tmps w → a.defers = df → Region.ready .any ops listed = [] → Q .normal a w := by
    intro listed G a w look m hsz hl hm R hdf hr
    have all : ∀ j, j < ops.size → Gone listed j := by
      intro j
      induction j using Nat.strongRecOn with
      | _ j ih =>
        intro hj
        refine Classical.byContradiction fun hn => ?_
        have : j ∈ Region.ready .any ops listed := mem_ready.2 ⟨(not_gone (by omega)).2 hn, ops[j], by simp [hj], fun e he hb => ih _ (St.low j ops[j] (by simp [hj]) e he hb) (by have := St.low j ops[j] (by simp [hj]) e he hb; omega)⟩
        rw [hr] at this
        cases this
    have hiff : ∀ j y, tr[j]? = some y → (Gone listed j ↔ j < tr.length) := fun j y hy => by
      have hj := (List.getElem?_eq_some_iff.1 hy).1
      exact ⟨fun _ => hj, fun _ => all j (by omega)⟩
    rw [hl.uniq hfl hiff, hm.uniq hfm (fun j y hy _ => hiff j y hy)] at R
    exact hQ G a w R hdf
  intro fuel
  induction fuel with
  | zero =>
    intro listed G a w look m hsz hcnt hdown hl hm R hdf
    have hr : Region.ready .any ops listed = [] := by
      refine List.eq_nil_iff_forall_not_mem.2 fun j hj => ?_
      obtain ⟨h1, o, ho, _⟩ := mem_ready.1 hj
      have hj' : j < listed.size := by have := (Array.getElem?_eq_some_iff.1 ho).1; omega
      have hf : listed[j] = false := by
        simp only [Array.getD_eq_getD_getElem?, Array.getElem?_eq_getElem hj', Option.getD_some] at h1
        exact h1
      have : false ∈ listed.toList := by rw [← hf]; simp
      have := List.count_pos_iff.2 this
      omega
    exact ⟨hr, fin listed G a w look m hsz hl hm R hdf hr⟩
  | succ fuel ih =>
    intro listed G a w look m hsz hcnt hdown hl hm R hdf
    refine ⟨fin listed G a w look m hsz hl hm R hdf, fun i hmem => ?_⟩
    obtain ⟨h1, o, ho, hedges⟩ := mem_ready.1 hmem
    have hio : i < ops.size := (Array.getElem?_eq_some_iff.1 ho).1
    have hil : i < listed.size := by omega
    have hng := (not_gone hil).1 h1
    obtain ⟨x, hx⟩ : ∃ x, tr[i]? = some x := ⟨tr[i]'(by omega), by simp [hlen, hio]⟩
    obtain ⟨hox, t⟩ := T i x hx
    obtain rfl : o = x.o := by rw [ho] at hox; exact Option.some.inj hox
    have hbef : ∀ k, orderedI (Region.before ops) k i = true → Gone listed k := fun k hk => by
      obtain ⟨e, he, hb, hi'⟩ := (ord_iff St.low ho).1 hk
      have hg : Gone listed e.on := hedges e he hb
      rcases hi' with rfl | hi'
      · exact hg
      · exact ord_down St.low hdown hi' hg
    have hlk := look_eq T St hdown hx hng hbef hl
    have al := after_look T St hdown hx hng hbef hl
    have am := after_mem T St hdown hx hng hbef hm
    have heq : ∀ j, (Gone (listed.setIfInBounds i true) j) = (Gone listed j ∨ j = i) := fun j => propext (gone_set hil j)
    have heq' : Gone (listed.setIfInBounds i true) = fun j => Gone listed j ∨ j = i := funext heq
    have hcnt' : (listed.setIfInBounds i true).toList.count false ≤ fuel := by
      have hf : listed[i] = false := by
        simp only [Array.getD_eq_getD_getElem?, Array.getElem?_eq_getElem hil, Option.getD_some] at h1
        exact h1
      have hpos : 0 < listed.toList.count false := List.count_pos_iff.2 (by rw [← hf]; simp)
      rw [Array.toList_setIfInBounds, List.count_set (by simpa using hil)]
      have h2 : (listed.toList[i]'(by simpa using hil) == false) = true := by simp [hf]
      rw [if_pos h2, if_neg (by simp)]
      omega
    have hdown' : ∀ j o, Gone (listed.setIfInBounds i true) j → ops[j]? = some o → ∀ e ∈ o.after, Region.binds .any e = true → Gone (listed.setIfInBounds i true) e.on := by
      intro j o hj hoj e he hb
      rw [gone_set hil] at hj ⊢
      rcases hj with hj | rfl
      · exact .inl (hdown j o hj hoj e he hb)
      · rw [ho] at hoj; cases hoj
        exact .inl (hedges e he hb)
    have next : ∀ G' a' w', RR w0 mu G' (putL look x.o.dst x.g) (if effectI loc x.o then x.m' else m) nt a'.tmps w' → a'.defers = df →
        wpAnyIn F n P .any ops Q fuel (listed.setIfInBounds i true) a' w' := fun G' a' w' R' hdf' =>
      ih _ G' a' w' _ _ (by simp [hsz]) hcnt' hdown' (by rw [heq']; exact al) (by rw [heq']; exact am) R' hdf'
    have hw := t.want
    rw [← wantedI_congr hlk] at hw
    have hw' := wanted_eq R hw
    have hd := hdst i x.o ho
    unfold wpOpIn
    simp only [ho]
    rw [hw']
    cases hran : x.ran with
    | false =>
      rw [if_neg (by simp)]
      refine ⟨fun f _ => hF.fn f, ?_⟩
      obtain ⟨hg, hmm⟩ := t.skip hran
      have R' := R.putD (g := .v (.tup [])) (v := undef) hd (.tup (vs := []) .nil) (fun _ _ _ h => by cases h)
      refine next G _ w ?_ (by rw [put_defers]; exact hdf)
      rw [hg]
      have : (if effectI loc x.o then x.m' else m) = m := by
        by_cases he : effectI loc x.o = true
        · rw [if_pos he, hmm, mem_eff T St hdown hx hng hbef hm he]
        · rw [if_neg he]
      rw [this]; exact R'
    | true =>
      rw [if_pos rfl]
      have hrun : opI P call loc x.o (rho look) m = some (x.g, if effectI loc x.o then x.m' else m) := by
        by_cases he : effectI loc x.o = true
        · rw [if_pos he, opI_congr (rho_congr hlk), mem_eff T St hdown hx hng hbef hm he]
          exact t.run hran
        · rw [if_neg he]
          exact calm_run T St hdown hx hng hbef hl hm hloose hran (by simpa using he)
      exact opI_wp hP hcall hF hd R (fun hal d hdd => fresh_at hcall T St hB hm0 hdown hnd hBd hx hng hl hm hal d hdd) hrun (fun G' a' w' R' hdf' => next G' a' w' R' (hdf'.trans hdf))
theorem draw_wp {F : Fence} {A : Ann} {call : Caller} (hP : ProgOk P) (hcall : CallOk P call) (hF : WideF P F mu.G.ok w0) {n : Nat} {f id : Nat} {ops : Array Oper} {s s' : FS} {a : Act} {w : World}
    (hd : codeOk nt (.region id ops true) = true) (h : regionI P A call f id ops true s = some s') (S : StR w0 mu s nt a w) :
    (Code.region id ops true).wpIn F n P (fun e a' w' => e = .normal ∧ StR w0 mu s' nt a' w') a w := by
  unfold regionI at h
  obtain ⟨s1, hg, h⟩ := Option.bind_eq_some_iff.1 h
  obtain ⟨ds, G, R, hdf, hnd⟩ := ghosts_st hg S
  simp only at h
  split at h
  · cases h
  rename_i hno
  have hno : nodupI (allocDsts ops) = true := by simpa using hno
  rw [if_pos trivial] at h
  split at h
  case isFalse => cases h
  rename_i hst
  obtain ⟨⟨tr, ov, m'⟩, ht, h⟩ := Option.bind_eq_some_iff.1 h
  split at h
  case isFalse => cases h
  rename_i hloose
  obtain ⟨R1, hR1⟩ := base_st (ds := allocDsts ops) R
  obtain ⟨k1, k2, k3, k4⟩ := trace_facts (m0 := { lc := [], hp := s1.hp, nx := s1.nx }) ops.toList [] [] _ tr ov m' ht (fun s => .inr ⟨fun j y hy => by simp at hy, rfl⟩) (.inr ⟨fun j y hy => by simp at hy, rfl⟩)
  simp only [List.nil_append, List.length_nil, Nat.zero_add] at k1 k2 k3
  have hBl := (Below.refl w.heap.size w).drew
  have R2 := R1.more hBl
  refine wpIn_region_any hP.mixed ?_
  refine any_wp (mu := { mu with dfs := ds }) hP hcall hF rfl (B := fun t => t ∉ allocDsts ops) (fun i x hx => ⟨by have := (k1 i x hx).1; simpa using this, (k1 i x hx).2⟩) (by rw [k4]; simp) (static_of hst) hR1.1 rfl (nodup_of hno) (fun d hd h => h hd) hloose k2 k3
    (fun i o ho t ht => ?_) (fun G' a' w' R' hdf' => ⟨rfl, ds, G', ?_, hdf', hnd⟩) ops.size (Array.replicate ops.size false) _ a _ _ _ (by simp) (by simp) (fun j o hj => ?_) ?_ ?_ R2 hdf
  · have := List.all_eq_true.1 hd o (by have := List.mem_of_getElem? (l := ops.toList) (by simpa using ho); exact this)
    rw [ht] at this
    simpa using this
  · unfold Gone at hj
    simp only [Array.getD_eq_getD_getElem?, Array.getElem?_replicate] at hj
    split at hj <;> simp at hj
  · refine fun s => .inr ⟨fun j y _ hj => ?_, rfl⟩
    unfold Gone at hj
    simp only [Array.getD_eq_getD_getElem?, Array.getElem?_replicate] at hj
    split at hj <;> simp at hj
  · refine .inr ⟨fun j y _ hj => ?_, rfl⟩
    unfold Gone at hj
    simp only [Array.getD_eq_getD_getElem?, Array.getElem?_replicate] at hj
    split at hj <;> simp at hj
  · cases h
    exact R'.relook (fun t => keep_get (fun s c => R'.noLoc s c) t)
end
end Go.Idl
namespace Go.Idl
open Go.RowKit
section
variable {P : Program} {w0 : World} {mu : En} {G : Gh} {look : Nat → Arg} {m : Mem} {nt : Nat} {tm : Array Value} {w : World}
theorem noLoc_look (sl : List (Nat × Vl)) (s : Nat) : lookOf (noLoc sl) s = .v .undef ∨ ∃ x, lookOf sl s = .v x ∧ lookOf (noLoc sl) s = .v x := by
  have key : (noLoc sl).lookup s = (sl.lookup s).map noLocV := by
    induction sl with
    | nil => rfl
    | cons y sl ih =>
      obtain ⟨k, v⟩ := y
      simp only [noLoc, List.lookup_cons]
      split
      · rfl
      · exact ih
  unfold lookOf
  rw [key]
  cases sl.lookup s with
  | none => exact .inl rfl
  | some v =>
    cases v with
    | loc c => exact .inl rfl
    | _ => exact .inr ⟨_, rfl, rfl⟩
theorem range_ok {A : Ann} {ex : Ex} (hP : ProgOk P) (hex : ExOk P ex) {F : Fence} (hF : WideF P F mu.G.ok w0) {n : Nat} {ro : Option Nat} {f : FuncId} {g : Operand} {ps : Array Tmp} {asg bd : Code} {s : FS} {a : Act} {w : World}
    {h : FuncId} {first cap : List Vl} {r : Vl} {hp' : Nat → Ob} {nx' : Nat} {f' : FuncId} {sl' : List (Nat × Vl)} {ps' : List Nat} {asg' bd' : Code} {st : LSt}
    (hro : (match ro with | none => true | some k => (s.hp k).rk == 1) = true) (hg : (rho (lookOf s.sl) g).vl = .fn (.func h) first cap)
    (hrun : runI P A (ex none) h (first ++ [.yld s.nx] ++ cap) (upd s.hp s.nx (.loop f (noLoc s.sl) ps.toList asg bd .ready)) (s.nx + 1) = some (r, hp', nx'))
    (ho : hp' s.nx = .loop f' sl' ps' asg' bd' st) (hst : st.state ≠ .busy) (hR : RoR F ro mu) (hc : codeOk nt (.rangeFunc g ps asg bd) = true) (S : StR w0 mu s nt a w) {e : XE} (he : e = (match st with | .done e => e | _ => .normal)) :
    (Code.rangeFunc g ps asg bd).wpIn F n P (fun e' a' w' => e' = e.toExit ∧ StR w0 mu { s with hp := upd hp' s.nx .dead, nx := nx' } nt a' w') a w := by
  obtain ⟨ds, G, R, hdf, hnd⟩ := S
  have hv := R.val g
  rw [hg] at hv
  generalize hcv : a.eval g = cv at hv
  cases hv with | fn ha hb =>
  rename_i us ws
  simp only [codeOk, Bool.and_eq_true, List.all_eq_true, decide_eq_true_eq] at hc
  -- the record laid, whatever lay ahead of it
  have main : ∀ (G1 : Gh) (w1 : World) (ds1 : List Nat) (fn : FuncId) (rec : Loop), RR w0 { mu with dfs := ds1 } G1 (lookOf s.sl) { lc := [], hp := s.hp, nx := s.nx } nt a.tmps w1 → ds1.Nodup →
      VRt G1 s.hp s.nx w1 first us → VRt G1 s.hp s.nx w1 cap ws →
      rec = { state := .ready, pending := none, fn := fn, tmps := a.tmps, params := ps, assign := asg, body := bd, defers := rec.defers } →
      CallsIn F (n - 1) P h (us.toArray ++ #[.func (.yield w1.heap.size) #[] #[]] ++ ws.toArray) (w1.alloc (.loop rec))
        (rangePost F n P w1.heap.size (fun e' a' w' => e' = e.toExit ∧ StR w0 mu { s with hp := upd hp' s.nx .dead, nx := nx' } nt a' w') { a with defers := dfOf ds1 }) ∧
      ∃ fn', P.funcs[h]? = some fn' ∧ fn'.body.isSome = true := by
    intro G1 w1 ds1 fn rec R1 hnd1 ha1 hb1 hrec
    let o : Ob := .loop f (noLoc s.sl) ps.toList asg bd .ready
    have SN := step_row_new R1 o (.loop rec)
    have hbb : (G1.row s.nx w1.heap.size).bb s.nx = w1.heap.size := upd_same _ _ _
    have R2 := R1.newRow (o := o) (ob := .loop rec) ⟨a.tmps, rec.defers, fn, by
        show (w1.alloc (.loop rec)).heap[(G1.row s.nx w1.heap.size).bb s.nx]? = _
        rw [hbb, heap_self, hrec]; simp [LSt.state, LSt.pending], by
        show upd G1.key w1.heap.size (some (.id s.nx)) ((G1.row s.nx w1.heap.size).bb s.nx) = _
        rw [hbb, upd_same], fun t => by
        rcases noLoc_look s.sl t with h | ⟨x, h1, h2⟩
        · exact ⟨_, h, .undef _⟩
        · refine ⟨x, h2, ?_⟩
          have := R1.slots t
          rw [h1] at this
          exact VR.step SN this, by
        rw [R.size]; exact hc.1.2, by rw [R.size]; exact hc.2, fun p hp => by rw [R.size]; exact hc.1.1 p hp⟩
    have hy : VR (G1.row s.nx w1.heap.size) (upd s.hp s.nx o) (s.nx + 1) (w1.alloc (.loop rec)) (.yld s.nx) (.func (.yield w1.heap.size) #[] #[]) := .yld (Nat.lt_succ_self _) (fun _ => hbb.symm)
    have vapp : ∀ {x y : List Vl} {u v : List Value}, VRt (G1.row s.nx w1.heap.size) (upd s.hp s.nx o) (s.nx + 1) (w1.alloc (.loop rec)) x u → VRt (G1.row s.nx w1.heap.size) (upd s.hp s.nx o) (s.nx + 1) (w1.alloc (.loop rec)) y v →
        VRt (G1.row s.nx w1.heap.size) (upd s.hp s.nx o) (s.nx + 1) (w1.alloc (.loop rec)) (x ++ y) (u ++ v) := by
      intro x y u v h1 h2
      induction x generalizing u with
      | nil => cases h1; exact h2
      | cons z x ih => cases h1 with | cons k1 k2 => exact .cons k1 (ih k2)
    have hargs := vapp (vapp (ha1.step SN) (.cons hy .nil)) (hb1.step SN)
    obtain ⟨hfn, hcall⟩ := run_calls hP hex hrun (n := n - 1) (show WideF P F (G1.row s.nx w1.heap.size).ok (w1.alloc (.loop rec)) from WideF.enter (mu := { mu with dfs := ds1 }) hF R2) R2.enter rfl (hargs.step (step_key (G1.row s.nx w1.heap.size) (G1.row s.nx w1.heap.size).ids rfl rfl rfl))
    refine ⟨CallsIn.mono (by simpa using hcall) fun e' w3 he' => ?_, hfn⟩
    obtain ⟨v, rfl, G3, H3, hV3⟩ := he'
    have R4 := (R2.leave H3).1
    have hk4 : s.nx < nx' := Nat.lt_of_lt_of_le (Nat.lt_succ_self s.nx) H3.ent.nxl
    have hbb4 : ((G1.row s.nx w1.heap.size).join G3).bb s.nx = w1.heap.size := by
      have := (H3.ent.rows s.nx (Nat.lt_succ_self _) (by show (hp' s.nx).rk ≠ 0; rw [ho]; simp [Ob.rk])).2
      exact this.trans hbb
    obtain ⟨rec4, p1, p2, p3, -, -, -, -, -, -, -, -, p12⟩ := R4.loopPut hk4 ho
    rw [hbb4] at p1 p12
    refine ⟨_, _, run_endLoop p1 (by rw [p2]; exact hst), ?_⟩
    have SF : StR w0 mu { s with hp := upd hp' s.nx .dead, nx := nx' } nt { a with defers := dfOf ds1 } (w3.putObj w1.heap.size (.loop { rec4 with state := .exhausted })) := ⟨ds1, _, p12 _, rfl, hnd1⟩
    rw [p3] at SF ⊢
    cases st with
    | ready => subst he; exact ⟨rfl, SF⟩
    | busy => exact absurd rfl hst
    | done e1 =>
      simp only at he
      subst he
      cases e with
      | normal => exact ⟨rfl, SF⟩
      | ret => exact wpIn_ret ⟨rfl, SF⟩
      | exit id => exact wpIn_exit ⟨rfl, SF⟩
  refine wpIn_rangeFunc fun fn _ => ?_
  have hres : ∀ (l : Nat) (w1 : World), (resolve a.eval (rangeCall g l) 0).run P w1 = .ok { target := .fn (.func h) ws.toArray, args := us.toArray ++ #[.func (.yield l) #[] #[]] } w1 := fun l w1 => by
    have hc0 : ∀ v, a.eval (.const v) = v := fun _ => rfl
    simp [resolve, hcv, Deferred.ofValue, hc0]
  have hinv : ∀ (l : Nat) (w1 : World) fn', P.funcs[h]? = some fn' → fn'.body.isSome = true → (invoke (.fn (.func h) ws.toArray) (us.toArray ++ #[.func (.yield l) #[] #[]])).run P w1 = .ok (.enter h (us.toArray ++ #[.func (.yield l) #[] #[]] ++ ws.toArray)) w1 := fun l w1 fn' hfn hb => by
    obtain ⟨cb, hb'⟩ := Option.isSome_iff_exists.1 hb
    simp [invoke, callFunc, hfn, hP.name h fn' hfn hb, hb']
  have hn : F.depth.isSome = true → 1 ≤ n := fun h => by rw [hF.depth] at h; cases h
  cases ro with
  | none =>
    have hro' : F.round = none := hR
    have R1 := R.newMark
    have hlt : w.heap.size ∉ ds := fun hm => by have := (R.keyb _ _ (R.mks _ hm).1).1; omega
    have SM : Step G s.hp s.nx w (G.mark w.heap.size) s.hp s.nx (w.alloc (.deferred (some []))) :=
      ⟨fun _ h => h, fun b h => heap_new w _ b (R.okb b h).1, Nat.le_refl _, fun id _ e xs h => ⟨xs, h, Nat.le_refl _, fun _ => rfl⟩, fun id _ c h => ⟨c, h, rfl⟩, fun _ _ _ => ⟨rfl, rfl⟩⟩
    obtain ⟨k1, fn', k2, k3⟩ := main _ _ (w.heap.size :: ds) fn { state := .ready, pending := none, fn := fn, tmps := a.tmps, params := ps, assign := asg, body := bd, defers := w.heap.size } R1 (List.nodup_cons.2 ⟨hlt, hnd⟩) (ha.step SM) (hb.step SM) rfl
    refine ⟨_, _, _, _, _, h, _, _, by rw [hro']; exact run_enterLoop_outer fn a.tmps ps asg bd, hres _ _, fun f' _ => hF.fn f', hinv _ _ fn' k2 k3, hn, ?_⟩
    have hsz : (w.alloc (.deferred (some []))).heap.size = w.heap.size + 1 := by simp
    rw [hsz] at k1
    have hd2 : [({ target := .collected w.heap.size, args := #[] } : Deferred)] ++ a.defers = dfOf (w.heap.size :: ds) := by rw [hdf]; rfl
    rw [hd2]
    exact k1
  | some k =>
    obtain ⟨hk, l, hl, hbk⟩ := hR
    have hrk : (s.hp k).rk = 1 := by simpa using hro
    have hent := R.ent.rows k hk (by show (s.hp k).rk ≠ 0; omega)
    have hk' : k < s.nx := Nat.lt_of_lt_of_le hk R.ent.nxl
    have hbl : G.bb k = l := hent.2.trans (hbk (hent.1.trans hrk))
    obtain ⟨fL, slL, psL, aL, bL, stL, hL⟩ : ∃ fL slL psL aL bL stL, s.hp k = .loop fL slL psL aL bL stL := by
      cases hs : s.hp k with
      | loop fL slL psL aL bL stL => exact ⟨_, _, _, _, _, _, rfl⟩
      | _ => rw [hs] at hrk; simp [Ob.rk] at hrk
    obtain ⟨recL, p1, -⟩ := R.loopPut hk' hL
    rw [hbl] at p1
    obtain ⟨k1, fn', k2, k3⟩ := main _ _ ds fn { state := .ready, pending := none, fn := fn, tmps := a.tmps, params := ps, assign := asg, body := bd, defers := recL.defers } R hnd ha hb rfl
    refine ⟨_, _, _, _, _, h, _, _, by rw [hl]; exact run_enterLoop_inner p1 fn a.tmps ps asg bd, hres _ _, fun f' _ => hF.fn f', hinv _ _ fn' k2 k3, hn, ?_⟩
    rw [List.nil_append, hdf]
    exact k1
theorem wpIn_loop_down {F : Fence} {n : Nat} {c : Code} {Q : Exit → Act → World → Prop} {a : Act} {w : World} (I : Nat → Act → World → Prop) (j : Nat) (h₀ : I j a w)
    (round : ∀ j a w, I j a w → c.wpIn F n P (Exit.then (fun a' w' => ∃ j', j' < j ∧ I j' a' w') Q) a w) : (Code.loop c).wpIn F n P Q a w := by
  classical
  let L : ∀ a w, (∃ j, I j a w) → ∃ i, I i a w ∧ ∀ k, I k a w → i ≤ k := fun a w h => let ⟨j, hj⟩ := h; least_of j hj
  refine wpIn_loop (fun a w => ∃ j, I j a w) (fun a w => if h : ∃ j, I j a w then (L a w h).choose else 0) ⟨j, h₀⟩ fun a w hI => ?_
  have hc := (L a w hI).choose_spec
  refine wpIn_mono (round _ a w hc.1) fun e a' w' hq => ?_
  cases e with
  | normal =>
    obtain ⟨j', hlt, hI'⟩ := hq
    refine ⟨⟨j', hI'⟩, ?_⟩
    rw [dif_pos ⟨j', hI'⟩, dif_pos hI]
    exact Nat.lt_of_le_of_lt ((L a' w' ⟨j', hI'⟩).choose_spec.2 j' hI') hlt
  | _ => exact hq
theorem stepR_scope {b : Frame} {a : Act} {k : List Item} {cs : List Frame} {w : World} {c : Code} : step P (lone (b.atR a (.code (.scope c) :: k)) cs w) = .next (lone (b.atR a (.code c :: .inScope c :: k)) cs w) :=
  step_lone_go (by simp [stepG, stepG.exec, Frame.atR])
theorem stepR_inScope {b : Frame} {a : Act} {k : List Item} {cs : List Frame} {w : World} {c : Code} : step P (lone (b.atR a (.inScope c :: k)) cs w) = .next (lone (b.atR a k) cs w) :=
  step_lone_go (by simp [stepG, stepG.exec, Frame.atR])
theorem wpIn_scope_straight {F : Fence} {n : Nat} {c : Code} {Q : Exit → Act → World → Prop} {a : Act} {w : World} (h : c.wpIn F n P (Exit.noGoto Q) a w) : (Code.scope c).wpIn F n P Q a w := by
  intro b k cs hro hb hr
  have h0 : (lone (b.atR a (.code (.scope c) :: k)) cs w).fenced P F := fenced_calm hb hr rfl
  obtain ⟨e, a₁, w₁, hq, harr⟩ := h b (.inScope c :: k) cs hro hb hr
  cases e with
  | normal => exact ⟨.normal, a₁, w₁, hq, .head h0 stepR_scope (StepsIn.trans harr (.one (fenced_calm hb hr rfl) stepR_inScope))⟩
  | exit id =>
    have hx : exitTo id (.inScope c :: k) = exitTo id k := by simp [exitTo]
    exact ⟨.exit id, a₁, w₁, hq, fun k' hk => .head h0 stepR_scope (harr.1 k' (by rw [hx]; exact hk)),
      fun hr' hk => let ⟨k₁, h1, h2⟩ := harr.2 hr' (by rw [hx]; exact hk); ⟨k₁, h1, .head h0 stepR_scope h2⟩⟩
  | goto l => exact hq.elim
  | ret => exact ⟨_, a₁, w₁, hq, .of_steps (.one h0 stepR_scope) harr⟩
  | panic ch => exact ⟨_, a₁, w₁, hq, .of_steps (.one h0 stepR_scope) harr⟩
  | outgrown => exact ⟨_, a₁, w₁, hq, .of_steps (.one h0 stepR_scope) harr⟩
theorem exec_ok {A : Ann} (hP : ProgOk P) (hA : ExtOk P A) : ∀ k, ExOk P (exec P A k) := by
  intro k
  induction k using Nat.strongRecOn with
  | _ k ihs =>
    cases k with
    | zero => exact fun ro f c s e s' h => by cases h
    | succ k =>
    have ih := ihs k (Nat.lt_succ_self k)
    have hcall := callI_ok hP hA ih
    intro ro f c s e s' h F n w0 mu nt a w hF hR hc S
    cases c with
    | skip => simp only [exec] at h; cases h; exact wpIn_skip ⟨rfl, S⟩
    | label l => simp only [exec] at h; cases h; exact wpIn_label ⟨rfl, S⟩
    | region id ops draw =>
      simp only [exec, Option.map_eq_some_iff] at h
      obtain ⟨s1, h1, h2⟩ := h
      cases h2
      cases draw with
      | false => exact region_wp hP hcall hF hc h1 S
      | true => exact draw_wp hP hcall hF hc h1 S
    | seq x y =>
      simp only [exec] at h
      obtain ⟨⟨e1, s1⟩, h1, h2⟩ := Option.bind_eq_some_iff.1 h
      simp only [codeOk, Bool.and_eq_true] at hc
      have w1 := ih ro f x s e1 s1 h1 F n w0 mu nt a w hF hR hc.1 S
      refine wpIn_seq (wpIn_mono w1 fun e' a' w' hq => ?_)
      obtain ⟨rfl, S1⟩ := hq
      cases e1 with
      | normal => exact ih ro f y s1 e s' h2 F n w0 mu nt a' w' hF hR hc.2 S1
      | exit id => cases h2; exact ⟨rfl, S1⟩
      | ret => cases h2; exact ⟨rfl, S1⟩
    | cond c x y =>
      simp only [exec] at h
      split at h
      case h_2 => cases h
      rename_i t ht
      simp only [codeOk, Bool.and_eq_true] at hc
      have S0 := S
      obtain ⟨ds, G, R, hdf, hnd⟩ := S0
      have hv := R.val c
      rw [ht] at hv
      have he : a.eval c = .bool t := by
        generalize a.eval c = v at hv
        cases hv; rfl
      refine wpIn_cond he ?_
      cases t with
      | true => exact ih ro f x s e s' h F n w0 mu nt a w hF hR hc.1 S
      | false => exact ih ro f y s e s' h F n w0 mu nt a w hF hR hc.2 S
    | block id c =>
      simp only [exec, Option.map_eq_some_iff] at h
      obtain ⟨⟨e1, s1⟩, h1, h2⟩ := h
      have w1 := ih ro f c s e1 s1 h1 F n w0 mu nt a w hF hR hc S
      refine wpIn_block (wpIn_mono w1 fun e' a' w' hq => ?_)
      obtain ⟨rfl, S1⟩ := hq
      cases e1 with
      | normal => cases h2; exact ⟨rfl, S1⟩
      | ret => cases h2; exact ⟨rfl, S1⟩
      | exit j =>
        simp only at h2
        by_cases hj : j = id
        · rw [if_pos hj] at h2; cases h2
          show Exit.inBlock id _ (.exit j) _ _
          simp only [Exit.inBlock, hj, if_true]; exact ⟨rfl, S1⟩
        · rw [if_neg hj] at h2; cases h2
          show Exit.inBlock id _ (.exit j) _ _
          simp only [Exit.inBlock, hj, if_false]; exact ⟨rfl, S1⟩
    | loop body =>
      refine wpIn_loop_down (fun j a w => j ≤ k + 1 ∧ ∃ s, exec P A j ro f (.loop body) s = some (e, s') ∧ StR w0 mu s nt a w) (k + 1) ⟨Nat.le_refl _, s, h, S⟩ fun j a w hI => ?_
      obtain ⟨hj, s, h, S⟩ := hI
      cases j with
      | zero => cases h
      | succ j =>
      simp only [exec] at h
      obtain ⟨⟨e1, s1⟩, h1, h2⟩ := Option.bind_eq_some_iff.1 h
      refine wpIn_mono (ihs j (by omega) ro f body s e1 s1 h1 F n w0 mu nt a w hF hR hc S) fun e' a' w' hq => ?_
      obtain ⟨rfl, S1⟩ := hq
      cases e1 with
      | normal => exact ⟨j, Nat.lt_succ_self j, by omega, s1, h2, S1⟩
      | exit id => cases h2; exact ⟨rfl, S1⟩
      | ret => cases h2; exact ⟨rfl, S1⟩
    | rangeFunc g ps asg bd =>
      simp only [exec] at h
      obtain ⟨hro, h⟩ := Option.ite_none_right_eq_some.1 h
      split at h
      case h_2 => cases h
      rename_i hh first cap hg
      obtain ⟨⟨r, hp', nx'⟩, h1, h⟩ := Option.bind_eq_some_iff.1 h
      split at h
      · rename_i ho
        cases h
        exact range_ok hP ih hF hro hg h1 ho (by simp [LSt.state]) hR hc S rfl
      · rename_i ho
        cases h
        exact range_ok hP ih hF hro hg h1 ho (by simp [LSt.state]) hR hc S rfl
      · cases h
    | exit id => simp only [exec] at h; cases h; exact wpIn_exit ⟨rfl, S⟩
    | ret => simp only [exec] at h; cases h; exact wpIn_ret ⟨rfl, S⟩
    | scope c =>
      simp only [exec] at h
      exact wpIn_scope_straight (wpIn_mono (ih ro f c s e s' h F n w0 mu nt a w hF hR hc S) fun e' a' w' hq => by
        obtain ⟨rfl, S1⟩ := hq
        cases e <;> exact ⟨rfl, S1⟩)
    | goto l => simp [exec] at h
    | refuse s => simp [exec] at h
end
end Go.Idl
namespace Go.Idl
open Go.RowKit
theorem law_calls {P : Program} {A : Ann} (hP : ProgOk P) (hA : ExtOk P A) {k : Nat} {g : FuncId} {args : List Vl} {r : Vl} (h : pureI P A (exec P A k none) g args = some r) {W : World} {vs : List Value} (hT : Tabs P (fun b => b < W.heap.size) W)
    (hv : VRt (gOf fun b => b < W.heap.size) noHeap 0 W args vs) :
    Calls P g vs.toArray W (fun e W' => ∃ v, e = .returned v ∧ Below W.heap.size W W' ∧ VR (gOf fun b => b < W.heap.size ∨ (W.heap.size ≤ b ∧ b < W'.heap.size)) noHeap 0 W' r v) := by
  have hw : WideF P Fence.wide (fun b => b < W.heap.size) W := ⟨fun _ => trivial, rfl, rfl, hT⟩
  have hc := (pure_calls hP hA (exec_ok hP hA k) h) Fence.wide 0 (fun b => b < W.heap.size) W vs hw (fun _ h => h) hv
  refine callsIn_wide.1 (CallsIn.mono hc.2 fun e W' he => ?_)
  obtain ⟨v, h1, h2, h3, _⟩ := he
  exact ⟨v, h1, h2, h3⟩
theorem law_true {P : Program} {A : Ann} (hP : ProgOk P) (hA : ExtOk P A) {k : Nat} {g : FuncId} {args : List Vl} (h : pureI P A (exec P A k none) g args = some (.bool true)) {W : World} {vs : List Value} (hT : Tabs P (fun b => b < W.heap.size) W)
    (hv : VRt (gOf fun b => b < W.heap.size) noHeap 0 W args vs) : Calls P g vs.toArray W (fun e W' => e = .returned (.bool true) ∧ Below W.heap.size W W') := by
  refine (law_calls hP hA h hT hv).mono fun e W' he => ?_
  obtain ⟨v, rfl, h2, h3⟩ := he
  cases h3
  exact ⟨rfl, h2⟩
end Go.Idl
namespace Go.Idl
def OLe {α : Type} (a b : Option α) : Prop := ∀ r, a = some r → b = some r
theorem OLe.refl {α : Type} (a : Option α) : OLe a a := fun _ h => h
theorem OLe.trans {α : Type} {a b c : Option α} (h : OLe a b) (k : OLe b c) : OLe a c := fun r e => k r (h r e)
theorem OLe.zero {α : Type} (b : Option α) : OLe none b := fun _ h => by cases h
theorem OLe.bind {α β : Type} {a b : Option α} {f g : α → Option β} (h : OLe a b) (k : ∀ x, OLe (f x) (g x)) : OLe (a.bind f) (b.bind g) := fun r e => by
  obtain ⟨x, h1, h2⟩ := Option.bind_eq_some_iff.1 e
  exact Option.bind_eq_some_iff.2 ⟨x, h x h1, k x r h2⟩
theorem OLe.ite {α : Type} {c : Prop} [Decidable c] {a b : Option α} (h : OLe a b) : OLe (if c then a else none) (if c then b else none) := by
  split
  · exact h
  · exact OLe.zero _
theorem OLe.map {α β : Type} {a b : Option α} {f : α → β} (h : OLe a b) : OLe (a.map f) (b.map f) := fun r e => by
  obtain ⟨x, h1, h2⟩ := Option.map_eq_some_iff.1 e
  exact Option.map_eq_some_iff.2 ⟨x, h x h1, h2⟩
section
variable {P : Program} {A : Ann}
def CLe (c c' : Caller) : Prop := ∀ f as m, OLe (c f as m) (c' f as m)
theorem opI_mono {c c' : Caller} (h : CLe c c') (loc : Nat → Bool) (o : Oper) (ρ : Operand → Arg) (m : Mem) : OLe (opI P c loc o ρ m) (opI P c' loc o ρ m) := by
  unfold opI
  split <;> first | exact OLe.refl _ | exact OLe.map (h _ _ _) | (split <;> first | exact OLe.refl _ | exact OLe.bind (OLe.refl _) fun _ => OLe.map (h _ _ _))
theorem runOps_mono {c c' : Caller} (h : CLe c c') (loc : Nat → Bool) (ops : Array Oper) (base : Nat → Arg) : ∀ (os : List Oper) (ov : List (Nat × Arg)) (m : Mem), OLe (runOps P c loc ops base os ov m) (runOps P c' loc ops base os ov m)
  | [], _, _ => OLe.refl _
  | o :: os, ov, m => by
    unfold runOps
    cases wantedI ops (ovLook base ov) o with
    | none => exact OLe.zero _
    | some b => cases b with
      | false => exact runOps_mono h loc ops base os _ _
      | true => exact OLe.bind (opI_mono h _ _ _ _) fun _ => runOps_mono h loc ops base os _ _
theorem traceOps_mono {c c' : Caller} (h : CLe c c') (loc : Nat → Bool) (ops : Array Oper) (base : Nat → Arg) : ∀ (os : List Oper) (ov : List (Nat × Arg)) (m : Mem), OLe (traceOps P c loc ops base os ov m) (traceOps P c' loc ops base os ov m)
  | [], _, _ => OLe.refl _
  | o :: os, ov, m => by
    unfold traceOps
    cases wantedI ops (ovLook base ov) o with
    | none => exact OLe.zero _
    | some b => cases b with
      | false => exact OLe.map (traceOps_mono h loc ops base os _ _)
      | true => exact OLe.bind (opI_mono h _ _ _ _) fun _ => OLe.map (traceOps_mono h loc ops base os _ _)
theorem regionI_mono {c c' : Caller} (h : CLe c c') (f id : Nat) (ops : Array Oper) (draw : Bool) (s : FS) : OLe (regionI P A c f id ops draw s) (regionI P A c' f id ops draw s) := by
  unfold regionI
  refine OLe.bind (OLe.refl _) fun s => ?_
  dsimp only
  split
  · exact OLe.refl _
  · split
    · split
      · exact OLe.bind (traceOps_mono h _ _ _ _ _ _) fun _ => OLe.refl _
      · exact OLe.refl _
    · exact OLe.map (runOps_mono h _ _ _ _ _ _)
def XLe (e e' : FuncId → Code → FS → Option (XE × FS)) : Prop := ∀ f c s, OLe (e f c s) (e' f c s)
theorem runI_mono {e e' : FuncId → Code → FS → Option (XE × FS)} (h : XLe e e') (g : FuncId) (args : List Vl) (hp : Nat → Ob) (nx : Nat) : OLe (runI P A e g args hp nx) (runI P A e' g args hp nx) := by
  unfold runI
  exact OLe.bind (OLe.refl _) fun _ => OLe.bind (OLe.refl _) fun _ => OLe.bind (h _ _ _) fun _ => OLe.refl _
theorem pureI_mono {e e' : FuncId → Code → FS → Option (XE × FS)} (h : XLe e e') (g : FuncId) (args : List Vl) : OLe (pureI P A e g args) (pureI P A e' g args) := by
  unfold pureI
  split
  · exact OLe.refl _
  · exact OLe.bind (runI_mono h _ _ _ _) fun _ => OLe.refl _
theorem runH_mono {e e' : Ex} (h : ∀ ro, XLe (e ro) (e' ro)) (g : FuncId) (vs : List Vl) (hp : Nat → Ob) (nx : Nat) : OLe (runH P A e g vs hp nx) (runH P A e' g vs hp nx) := by
  unfold runH
  split
  · exact OLe.refl _
  · exact runI_mono (h _) _ _ _ _
theorem callF_mono {e e' : Ex} (h : ∀ ro, XLe (e ro) (e' ro)) (g : FuncId) (args : List Arg) (m : Mem) : OLe (callF P A e g args m) (callF P A e' g args m) := by
  unfold callF
  split
  · exact OLe.bind (OLe.refl _) fun _ => OLe.map (runH_mono h _ _ _ _)
  · exact OLe.bind (OLe.refl _) fun _ => OLe.bind (pureI_mono (h _) _ _) fun _ => OLe.refl _
theorem roundI_mono {e e' : Ex} (h : ∀ ro, XLe (e ro) (e' ro)) (k : Nat) (vs : List Vl) (m : Mem) : OLe (roundI e k vs m) (roundI e' k vs m) := by
  unfold roundI
  split
  · split
    · refine OLe.bind (h _ _ _ _) fun r => ?_
      split
      · exact OLe.bind (h _ _ _ _) fun _ => OLe.refl _
      · exact OLe.refl _
    · exact OLe.refl _
  · exact OLe.refl _
theorem callI_mono {e e' : Ex} (h : ∀ ro, XLe (e ro) (e' ro)) : CLe (callI P A e) (callI P A e') := fun c as m => by
  unfold callI
  split
  · exact callF_mono h _ _ _
  · exact OLe.bind (OLe.refl _) fun _ => roundI_mono h _ _ _
  · exact OLe.refl _
theorem exec_mono1 : ∀ (k : Nat) (ro : Option Nat), XLe (exec P A k ro) (exec P A (k + 1) ro)
  | 0, _ => fun _ _ _ => OLe.zero _
  | k + 1, ro => fun f c s => by
    have ih := exec_mono1 k
    have hc := callI_mono (P := P) (A := A) ih
    unfold exec
    cases c <;> dsimp only <;> try exact OLe.refl _
    · exact OLe.map (regionI_mono hc _ _ _ _ _)
    · refine OLe.bind (ih _ _ _ _) fun r => ?_
      split
      · exact ih _ _ _ _
      · exact OLe.refl _
    · split
      · exact ih _ _ _ _
      · exact OLe.refl _
    · exact OLe.map (ih _ _ _ _)
    · refine OLe.bind (ih _ _ _ _) fun r => ?_
      split
      · exact ih _ _ _ _
      · exact OLe.refl _
    · apply OLe.ite
      split
      · exact OLe.bind (runI_mono (ih _) _ _ _ _) fun _ => OLe.refl _
      · exact OLe.refl _
    · exact ih _ _ _ _
theorem exec_mono {k k' : Nat} (h : k ≤ k') (ro : Option Nat) : XLe (exec P A k ro) (exec P A k' ro) := by
  induction h with
  | refl => exact fun _ _ _ => OLe.refl _
  | step _ ih => exact fun f c s => (ih f c s).trans (exec_mono1 _ _ f c s)
def Ev (P : Program) (A : Ann) (ro : Option Nat) (f : FuncId) (c : Code) (s : FS) (x : XE) (s' : FS) : Prop := ∃ k, exec P A k ro f c s = some (x, s')
def Runs (P : Program) (A : Ann) (g : FuncId) (args : List Vl) (hp : Nat → Ob) (nx : Nat) (v : Vl) (hp' : Nat → Ob) (nx' : Nat) : Prop := ∃ k, runI P A (exec P A k none) g args hp nx = some (v, hp', nx')
def Pures (P : Program) (A : Ann) (g : FuncId) (args : List Vl) (v : Vl) : Prop := ∃ k, pureI P A (exec P A k none) g args = some v
def CallsTo (P : Program) (A : Ann) (c : Vl) (args : List Arg) (m : Mem) (v : Vl) (m' : Mem) : Prop := ∃ k, callI P A (exec P A k) c args m = some (v, m')
def OpsTo (P : Program) (A : Ann) (loc : Nat → Bool) (ops : Array Oper) (base : Nat → Arg) (os : List Oper) (ov : List (Nat × Arg)) (m : Mem) (ov' : List (Nat × Arg)) (m' : Mem) : Prop :=
  ∃ k, runOps P (callI P A (exec P A k)) loc ops base os ov m = some (ov', m')
variable {ro : Option Nat} {f : FuncId} {s s' : FS} {x : XE}
theorem ev_skip : Ev P A ro f .skip s .normal s := ⟨1, rfl⟩
theorem ev_exit {id : Nat} : Ev P A ro f (.exit id) s (.exit id) s := ⟨1, rfl⟩
theorem ev_ret : Ev P A ro f .ret s .ret s := ⟨1, rfl⟩
theorem ev_seq {a b : Code} {s1 : FS} (h : Ev P A ro f a s .normal s1) (k : Ev P A ro f b s1 x s') : Ev P A ro f (.seq a b) s x s' := by
  obtain ⟨k1, h⟩ := h
  obtain ⟨k2, k⟩ := k
  refine ⟨max k1 k2 + 1, ?_⟩
  show (exec P A (max k1 k2) ro f a s).bind _ = _
  rw [exec_mono (Nat.le_max_left _ _) ro f a s _ h]
  exact exec_mono (Nat.le_max_right _ _) ro f b s1 _ k
theorem ev_seq_out {a b : Code} (h : Ev P A ro f a s x s') (hx : x ≠ .normal) : Ev P A ro f (.seq a b) s x s' := by
  obtain ⟨k1, h⟩ := h
  refine ⟨k1 + 1, ?_⟩
  show (exec P A k1 ro f a s).bind _ = _
  rw [h]
  cases x <;> first | rfl | exact absurd rfl hx
theorem ev_cond {c : Operand} {a b : Code} {t : Bool} (hc : (rho (lookOf s.sl) c).vl = .bool t) (h : Ev P A ro f (if t then a else b) s x s') : Ev P A ro f (.cond c a b) s x s' := by
  obtain ⟨k1, h⟩ := h
  refine ⟨k1 + 1, ?_⟩
  simp only [exec, hc]
  exact h
def unblock (id : Nat) : XE → XE
  | .exit j => if j = id then .normal else .exit j
  | x => x
theorem ev_block {id : Nat} {c : Code} (h : Ev P A ro f c s x s') : Ev P A ro f (.block id c) s (unblock id x) s' := by
  obtain ⟨k1, h⟩ := h
  refine ⟨k1 + 1, ?_⟩
  show (exec P A k1 ro f c s).map _ = _
  rw [h]
  cases x with
  | exit j => simp only [Option.map_some, unblock]; split <;> rfl
  | _ => rfl
theorem ev_loop_more {c : Code} {s1 : FS} (h : Ev P A ro f c s .normal s1) (k : Ev P A ro f (.loop c) s1 x s') : Ev P A ro f (.loop c) s x s' := by
  obtain ⟨k1, h⟩ := h
  obtain ⟨k2, k⟩ := k
  refine ⟨max k1 k2 + 1, ?_⟩
  show (exec P A (max k1 k2) ro f c s).bind _ = _
  rw [exec_mono (Nat.le_max_left _ _) ro f c s _ h]
  exact exec_mono (Nat.le_max_right _ _) ro f _ s1 _ k
theorem ev_loop_out {c : Code} (h : Ev P A ro f c s x s') (hx : x ≠ .normal) : Ev P A ro f (.loop c) s x s' := by
  obtain ⟨k1, h⟩ := h
  refine ⟨k1 + 1, ?_⟩
  show (exec P A k1 ro f c s).bind _ = _
  rw [h]
  cases x <;> first | rfl | exact absurd rfl hx
def Wp (P : Program) (A : Ann) (ro : Option Nat) (f : FuncId) (c : Code) (s : FS) (Q : XE → FS → Prop) : Prop := ∃ x s', Ev P A ro f c s x s' ∧ Q x s'
variable {Q : XE → FS → Prop}
theorem Wp.mono {c : Code} {R : XE → FS → Prop} (h : Wp P A ro f c s Q) (k : ∀ x s', Q x s' → R x s') : Wp P A ro f c s R := by
  obtain ⟨x, s', h1, h2⟩ := h
  exact ⟨x, s', h1, k _ _ h2⟩
theorem wp_skip (h : Q .normal s) : Wp P A ro f .skip s Q := ⟨_, _, ev_skip, h⟩
theorem wp_exit {id : Nat} (h : Q (.exit id) s) : Wp P A ro f (.exit id) s Q := ⟨_, _, ev_exit, h⟩
theorem wp_ret (h : Q .ret s) : Wp P A ro f .ret s Q := ⟨_, _, ev_ret, h⟩
theorem wp_seq {a b : Code} (h : Wp P A ro f a s fun x s1 => match x with | .normal => Wp P A ro f b s1 Q | x => Q x s1) : Wp P A ro f (.seq a b) s Q := by
  obtain ⟨x, s', h1, h2⟩ := h
  cases x with
  | normal =>
    obtain ⟨y, s2, h3, h4⟩ := h2
    exact ⟨y, s2, ev_seq h1 h3, h4⟩
  | exit j => exact ⟨_, _, ev_seq_out h1 (by simp), h2⟩
  | ret => exact ⟨_, _, ev_seq_out h1 (by simp), h2⟩
theorem wp_cond {c : Operand} {a b : Code} {t : Bool} (hc : (rho (lookOf s.sl) c).vl = .bool t) (h : Wp P A ro f (if t then a else b) s Q) : Wp P A ro f (.cond c a b) s Q := by
  obtain ⟨x, s', h1, h2⟩ := h
  exact ⟨x, s', ev_cond hc h1, h2⟩
theorem wp_block {id : Nat} {c : Code} (h : Wp P A ro f c s fun x s' => Q (unblock id x) s') : Wp P A ro f (.block id c) s Q := by
  obtain ⟨x, s', h1, h2⟩ := h
  exact ⟨_, s', ev_block h1, h2⟩
theorem wp_loop {c : Code} (h : Wp P A ro f c s fun x s' => match x with | .normal => Wp P A ro f (.loop c) s' Q | x => Q x s') : Wp P A ro f (.loop c) s Q := by
  obtain ⟨x, s', h1, h2⟩ := h
  cases x with
  | normal =>
    obtain ⟨y, s2, h3, h4⟩ := h2
    exact ⟨y, s2, ev_loop_more h1 h3, h4⟩
  | exit j => exact ⟨_, _, ev_loop_out h1 (by simp), h2⟩
  | ret => exact ⟨_, _, ev_loop_out h1 (by simp), h2⟩
theorem wp_loop_inv {c : Code} {ι : Type} (I : ι → FS → Prop) (μ : ι → Nat) (hI : ∀ i s, I i s → Wp P A ro f c s fun x s' => match x with | .normal => ∃ j, I j s' ∧ μ j < μ i | x => Q x s') :
    ∀ (i : ι) (s : FS), I i s → Wp P A ro f (.loop c) s Q := by
  intro i
  generalize hn : μ i = n
  induction n using Nat.strongRecOn generalizing i with
  | _ n ih =>
    intro s h
    subst hn
    refine wp_loop ((hI i s h).mono fun x s' hx => ?_)
    cases x with
    | normal =>
      obtain ⟨j, h1, h2⟩ := hx
      exact ih _ h2 j rfl s' h1
    | exit _ => exact hx
    | ret => exact hx
end
end Go.Idl
