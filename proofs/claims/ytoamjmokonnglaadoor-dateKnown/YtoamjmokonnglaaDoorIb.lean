/- Parts of the own ideal machine over the model (no addresses, no capacities, no tape) and of the proof that it is sound; generic in the program; no conditions. -/
import Derived.Test.YtoamjmokonnglaaDoorIa
import Derived.RangeFuncRecord
import Derived.MapKept
import Derived.RangeFuncLeaves
import Derived.RangeFuncCalls
import Derived.RangeFuncNested
import Derived.Lib.LaidTab
import Derived.Lib.ItoaNum
import Derived.TacticsIn
set_option linter.all false
set_option linter.unusedSectionVars false
set_option linter.unusedSimpArgs false
set_option linter.unusedVariables false
namespace Go.Idl
open Go.RowKit
section
variable {P : Program} {w0 : World} {mu : En} {G : Gh} {look : Nat → Arg} {m : Mem} {nt : Nat} {tm : Array Value} {w : World}
def Gh.row (G : Gh) (id b : Nat) : Gh := { G with bb := upd G.bb id b, key := upd G.key b (some (.id id)) }
theorem step_row_new (R : RR w0 mu G look m nt tm w) (o : Ob) (ob : Obj) : Step G m.hp m.nx w (G.row m.nx w.heap.size) (upd m.hp m.nx o) (m.nx + 1) (w.alloc ob) where
  ok _ h := h
  heap b h := heap_new w _ b (R.okb b h).1
  nxl := Nat.le_succ _
  arr id hid e xs h := ⟨xs, by rwa [upd_ne _ _ (by omega)] at h, Nat.le_refl _, fun _ => rfl⟩
  box id hid c h := ⟨c, by rwa [upd_ne _ _ (by omega)] at h, upd_ne _ _ (by omega)⟩
  rows id hid h := ⟨by rw [upd_ne _ _ (by omega)], upd_ne _ _ (by omega)⟩
theorem RR.newRow {o : Ob} {ob : Obj} (R : RR w0 mu G look m nt tm w) (H : ObR (G.row m.nx w.heap.size) (upd m.hp m.nx o) (m.nx + 1) (w.alloc ob) m.nx o) :
    RR w0 mu (G.row m.nx w.heap.size) look { m with hp := upd m.hp m.nx o, nx := m.nx + 1 } nt tm (w.alloc ob) := by
  have S := step_row_new R o ob
  have hk : ∀ (k : Key) b, G.key b = some k → (w.alloc ob).heap[b]? = w.heap[b]? ∧ (G.row m.nx w.heap.size).key b = some k := fun k b h => by
    have hlt := (R.keyb b k h).1
    exact ⟨heap_new w _ b hlt, by show upd G.key _ _ b = _; rw [upd_ne _ _ (by omega)]; exact h⟩
  exact {
    size := R.size
    slots := fun s => AR.step S (fun _ _ _ _ => rfl) (R.slots s)
    locs := fun s t off c0 h => LocR.step (m' := { m with hp := upd m.hp m.nx o, nx := m.nx + 1 }) S rfl rfl (hk _) (R.locs s t off c0 h)
    objs := fun id hid => by
      show ObR _ (upd m.hp m.nx o) (m.nx + 1) _ id (upd m.hp m.nx o id)
      by_cases hi : id = m.nx
      · subst hi; rw [upd_same]; exact H
      · have hid' : id < m.nx := by have : id < m.nx + 1 := hid; omega
        rw [upd_ne _ _ hi]
        exact ObR.step S rfl (upd_ne _ _ hi) (hk _) (R.objs id hid')
    okb := fun b h => by
      have := R.okb b h
      refine ⟨by simp; omega, ?_⟩
      show upd G.key _ _ b = none; rw [upd_ne _ _ (by omega)]; exact this.2
    keyb := fun b k h => by
      by_cases hb : b = w.heap.size
      · subst hb; exact ⟨by simp, .inl R.grow⟩
      · have h' : upd G.key w.heap.size (some (.id m.nx)) b = some k := h
        rw [upd_ne _ _ hb] at h'
        have := R.keyb b k h'
        exact ⟨by simp; omega, this.2⟩
    os := R.os
    tape := R.tape
    out := R.out
    grow := by have := R.grow; simp; omega
    base := fun b hb hm => by rw [heap_new w _ b (Nat.lt_of_lt_of_le hb R.grow)]; exact R.base b hb hm
    ent := R.ent.trans S
    oks := R.oks
    mks := fun b hb => ⟨(hk _ b (R.mks b hb).1).2, (hk _ b (R.mks b hb).1).1.trans (R.mks b hb).2⟩ }
theorem putObj_other (w : World) (b b' : Nat) (o : Obj) (h : b' ≠ b) : (w.putObj b o).heap[b']? = w.heap[b']? := by
  show (w.heap.setIfInBounds b o)[b']? = _
  rw [Array.getElem?_setIfInBounds, if_neg (fun e => h e.symm)]
theorem putObj_self (w : World) (b : Nat) (o : Obj) (h : b < w.heap.size) : (w.putObj b o).heap[b]? = some o := by
  show (w.heap.setIfInBounds b o)[b]? = _
  rw [Array.getElem?_setIfInBounds, if_pos rfl, if_pos h]
theorem putObj_size (w : World) (b : Nat) (o : Obj) : (w.putObj b o).heap.size = w.heap.size := by
  show (w.heap.setIfInBounds b o).size = _
  simp
theorem RR.putRow {id : Nat} {o : Ob} {ob : Obj} (R : RR w0 mu G look m nt tm w) (hid : id < m.nx) (hkey : G.key (G.bb id) = some (.id id))
    (ho : o = .dead ∨ ((m.hp id).rk = o.rk ∧ o.rk ≠ 0)) (H : Step G m.hp m.nx w G (upd m.hp id o) m.nx (w.putObj (G.bb id) ob) → ObR G (upd m.hp id o) m.nx (w.putObj (G.bb id) ob) id o) :
    RR w0 mu G look { m with hp := upd m.hp id o } nt tm (w.putObj (G.bb id) ob) := by
  have hcase : ∀ e xs, (o = .arr e xs ∨ o = .fro e xs) → False := fun e xs h => by
    rcases ho with ho | ⟨_, ho⟩
    · subst ho; rcases h with h | h <;> cases h
    · rcases h with h | h <;> subst h <;> exact ho rfl
  have S : Step G m.hp m.nx w G (upd m.hp id o) m.nx (w.putObj (G.bb id) ob) := by
    refine ⟨fun _ h => h, fun b' h => putObj_other w _ b' _ (fun e => by subst e; have := (R.okb _ h).2; rw [hkey] at this; cases this), Nat.le_refl _, fun i _ e xs h => ?_, fun i _ c h => ?_, fun i _ h => ?_⟩
    · by_cases hi : i = id
      · subst hi; rw [upd_same] at h; exact (hcase e xs h).elim
      · rw [upd_ne _ _ hi] at h; exact ⟨xs, h, Nat.le_refl _, fun _ => rfl⟩
    · by_cases hi : i = id
      · subst hi; rw [upd_same] at h
        rcases ho with ho | ⟨_, ho⟩
        · rw [ho] at h; cases h
        · subst h; exact absurd rfl ho
      · rw [upd_ne _ _ hi] at h; exact ⟨c, h, rfl⟩
    · by_cases hi : i = id
      · subst hi; rw [upd_same] at h ⊢
        rcases ho with ho | ⟨ho, _⟩
        · rw [ho] at h; exact absurd rfl h
        · exact ⟨ho, rfl⟩
      · rw [upd_ne _ _ hi]; exact ⟨rfl, rfl⟩
  have hk : ∀ (k : Key), k ≠ .id id → ∀ b', G.key b' = some k → (w.putObj (G.bb id) ob).heap[b']? = w.heap[b']? ∧ G.key b' = some k := fun k hk b' h =>
    ⟨putObj_other w _ b' _ (fun e => by subst e; rw [hkey] at h; exact hk (Option.some.inj h).symm), h⟩
  exact {
    size := R.size
    slots := fun s => AR.step S (fun _ _ _ _ => rfl) (R.slots s)
    locs := fun s t off c0 h => LocR.step (m' := { m with hp := upd m.hp id o }) S rfl rfl (hk _ (by simp)) (R.locs s t off c0 h)
    objs := fun i hi => by
      show ObR _ (upd m.hp id o) m.nx _ i (upd m.hp id o i)
      by_cases hii : i = id
      · subst hii; rw [upd_same]; exact H S
      · rw [upd_ne _ _ hii]; exact ObR.step S rfl rfl (hk _ (by simpa using hii)) (R.objs i hi)
    okb := fun b h => by rw [putObj_size]; exact R.okb b h
    keyb := fun b k h => by rw [putObj_size]; exact R.keyb b k h
    os := R.os
    tape := R.tape
    out := R.out
    grow := by rw [putObj_size]; exact R.grow
    base := fun b' hb' hm => by
      rw [putObj_other w _ b' _ (fun e => by
        subst e
        rcases (R.keyb _ _ hkey).2 with h | h
        · omega
        · exact hm h)]
      exact R.base b' hb' hm
    ent := R.ent.trans S
    oks := R.oks
    mks := fun b hb => ⟨(R.mks b hb).1, (hk .mark (by simp) b (R.mks b hb).1).1.trans (R.mks b hb).2⟩ }
theorem key_is {p : TypeId} {kk : KK} {k : Vl} {v : Value} {hp : Nat → Ob} {nx : Nat} (h : kkOf P p = some kk) (hk : keyOk kk k = true) (hv : VR G hp nx w k v) :
    ∃ d, P.underlying p = some d ∧ MapKept.IsKey d v := by
  unfold kkOf at h
  split at h <;> cases h
  · rename_i hu
    cases k <;> simp only [keyOk, Bool.false_eq_true] at hk
    cases hv; exact ⟨_, hu, trivial⟩
  · rename_i kd hu
    cases k <;> simp only [keyOk, Bool.false_eq_true, decide_eq_true_eq] at hk
    cases hv; exact ⟨_, hu, hk.symm⟩
  · rename_i hu
    cases k <;> simp only [keyOk, Bool.false_eq_true] at hk
    cases hv; exact ⟨_, hu, trivial⟩
theorem same_rel {p : TypeId} {kk : KK} {k k' : Vl} {v v' : Value} {d : TypeDesc} {hp : Nat → Ob} {nx : Nat} (h : kkOf P p = some kk) (hd : P.underlying p = some d) (hk : keyOk kk k = true) (hk' : keyOk kk k' = true)
    (hv : VR G hp nx w k v) (hv' : VR G hp nx w k' v') : Instr.sameNow d v v' = some (eqKey k k') ∧ (eqKey k k' = true → v = v') := by
  unfold kkOf at h
  rw [hd] at h
  cases d <;> simp only [reduceCtorEq] at h <;> cases h
  all_goals
    cases k <;> simp only [keyOk, Bool.false_eq_true, decide_eq_true_eq] at hk
    cases k' <;> simp only [keyOk, Bool.false_eq_true, decide_eq_true_eq] at hk'
    cases hv; cases hv'
  · exact ⟨rfl, fun h => by simp only [eqKey, beq_iff_eq] at h; rw [h]⟩
  · subst hk; subst hk'
    exact ⟨by simp [Instr.sameNow, eqKey], fun h => by simp only [eqKey, beq_iff_eq] at h; rw [h]⟩
  · rename_i a b
    have e : (a == b) = decide (a.data = b.data) := by
      rw [Bool.eq_iff_iff, MapKept.bytes_beq, decide_eq_true_eq]
      cases a; cases b; simp
    refine ⟨by simp [Instr.sameNow, eqKey, e], fun h => ?_⟩
    simp only [eqKey] at h
    rw [← e, MapKept.bytes_beq] at h
    rw [h]
theorem find_rel {p : TypeId} {kk : KK} {k : Vl} {v : Value} {d : TypeDesc} {hp : Nat → Ob} {nx : Nat} (h : kkOf P p = some kk) (hd : P.underlying p = some d) (hk : keyOk kk k = true) (hv : VR G hp nx w k v) :
    ∀ {es : List (Vl × Vl)} {l : List MapEntry} (i : Nat), MR G hp nx w kk es l →
      (findI k es = none ∧ Instr.findNow d v l i = some none) ∨
      ∃ y j e, findI k es = some y ∧ l[j]? = some e ∧ Instr.findNow d v l i = some (some (i + j, e.val)) ∧ VR G hp nx w y e.val ∧ e.key = v
  | _, _, i, .nil => .inl ⟨rfl, rfl⟩
  | _, _, i, .cons (k := k') (v := y) (e := e) h1 h2 h3 h4 => by
    obtain ⟨q1, q2⟩ := same_rel h hd hk h2 hv h1
    by_cases he : eqKey k k' = true
    · refine .inr ⟨y, 0, e, by simp [findI, he], rfl, ?_, h3, (q2 he).symm⟩
      simp [Instr.findNow, q1, he]
    · have he : eqKey k k' = false := by simpa using he
      rcases find_rel h hd hk hv (i + 1) h4 with ⟨a1, a2⟩ | ⟨z, j, u, a1, a2, a3, a4, a5⟩
      · exact .inl ⟨by simp [findI, he, a1], by simp [Instr.findNow, q1, he, a2]⟩
      · refine .inr ⟨z, j + 1, u, by simp [findI, he, a1], by simpa using a2, ?_, a4, a5⟩
        simp [Instr.findNow, q1, he, a3]; omega
end
end Go.Idl
namespace Go.Idl
open Go.RowKit
section
variable {P : Program} {w0 : World} {mu : En} {G : Gh} {look : Nat → Arg} {m : Mem} {nt : Nat} {w : World}
variable {a : Act} {d : Option Tmp} {o : Oper} {g : Arg} {m' : Mem}
theorem set_rel {p : TypeId} {kk : KK} {k y : Vl} {v u : Value} {d : TypeDesc} {hp : Nat → Ob} {nx : Nat} (h : kkOf P p = some kk) (hd : P.underlying p = some d) (hk : keyOk kk k = true) (hv : VR G hp nx w k v) (hy : VR G hp nx w y u) (b : Nat) :
    ∀ {es : List (Vl × Vl)} {l : List MapEntry} (i : Nat), MR G hp nx w kk es l →
      (Instr.findNow d v l i = some none ∧ MR G hp nx w kk (setI k y es) (l ++ [{ key := v, val := u, born := b }])) ∨
      ∃ j e, Instr.findNow d v l i = some (some (i + j, e.val)) ∧ l[j]? = some e ∧ e.key = v ∧ MR G hp nx w kk (setI k y es) (l.modify j fun e => { e with key := v, val := u })
  | _, _, i, .nil => .inl ⟨rfl, .cons hv hk hy .nil⟩
  | _, _, i, .cons (k := k') (v := z) (e := e) h1 h2 h3 h4 => by
    obtain ⟨q1, q2⟩ := same_rel h hd hk h2 hv h1
    by_cases he : eqKey k k' = true
    · refine .inr ⟨0, e, ?_, rfl, (q2 he).symm, ?_⟩
      · simp [Instr.findNow, q1, he]
      · simp only [setI, he, if_true, List.modify_cons, ↓reduceIte]
        refine .cons ?_ h2 hy h4
        show VR G hp nx w k' v
        rw [q2 he]; exact h1
    · have he : eqKey k k' = false := by simpa using he
      rcases set_rel h hd hk hv hy b (i + 1) h4 with ⟨a1, a2⟩ | ⟨j, x, a1, a2, a3, a4⟩
      · refine .inl ⟨by simp [Instr.findNow, q1, he, a1], ?_⟩
        simp only [setI, he, Bool.false_eq_true, if_false, List.cons_append]
        exact .cons h1 h2 h3 a2
      · refine .inr ⟨j + 1, x, ?_, by simpa using a2, a3, ?_⟩
        · simp [Instr.findNow, q1, he, a1]; omega
        · simp only [setI, he, Bool.false_eq_true, if_false, List.modify_succ_cons]
          exact .cons h1 h2 h3 a4
theorem td_map {t : TypeId} {kk : Option KK} {ez : Vl} (h : (tdOf P t).k = .map kk ez) : ∃ p q, P.underlying t = some (.map p q) ∧ kk = kkOf P p ∧ ez = zeroOfT P q := by
  have e := td_kind (P := P) (t := t)
  rw [h] at e
  exact e
theorem did_makeMap {t : TypeId} {kk : KK} {ez : Vl} (hd : ∀ t, d = some t → t < nt) (R : RR w0 mu G look m nt a.tmps w) (ho : o.op = .makeMap t none) (_hk : (tdOf P t).k = .map (some kk) ez) :
    Did P w0 mu look { m with hp := upd m.hp m.nx (.map kk []), nx := m.nx + 1 } nt a w d (.v (.mp m.nx)) ((execOp a.eval o).run P w) := by
  have R' := R.newRow (o := .map kk []) (ob := .map #[] 0) ⟨#[], 0, by show (w.alloc _).heap[upd G.bb m.nx w.heap.size m.nx]? = _; rw [upd_same]; exact heap_self w _,
    by show upd G.key _ _ (upd G.bb m.nx w.heap.size m.nx) = _; rw [upd_same, upd_same], .nil⟩
  refine did_value (v := .map (some w.heap.size)) hd ?_ R' (.mp (Nat.lt_succ_self _) fun _ => ?_) (fun t off c0 e => by cases e)
  · simp [execOp, ho, Instr.makeMap]
  · show _ = upd G.bb m.nx w.heap.size m.nx; rw [upd_same]
theorem did_mapUpdate {t : TypeId} {x i y : Operand} {kk : KK} {ez : Vl} {id : Nat} {es : List (Vl × Vl)} (hd : ∀ t, d = some t → t < nt) (R : RR w0 mu G look m nt a.tmps w) (ho : o.op = .mapUpdate t x i y)
    (hk : (tdOf P t).k = .map (some kk) ez) (hx : (rho look x).vl = .mp id) (he : m.hp id = .map kk es) (hi : keyOk kk (rho look i).vl = true) :
    Did P w0 mu look { m with hp := upd m.hp id (.map kk (setI (rho look i).vl (rho look y).vl es)) } nt a w d (.v .undef) ((execOp a.eval o).run P w) := by
  obtain ⟨p, q, hu, hkk, -⟩ := td_map hk
  have hv := R.val x
  rw [hx] at hv
  generalize hxe : a.eval x = vx at hv
  cases hv with
  | mp h1 h2 =>
  rename_i b
  have hb := h2 (by rw [he]; rfl)
  subst hb
  have hO := R.objs id h1
  rw [he] at hO
  obtain ⟨ents, clock, o1, o2, o3⟩ := hO
  obtain ⟨dd, hdd, hkey⟩ := key_is hkk.symm hi (R.val i)
  have hs := set_rel (u := a.eval y) hkk.symm hdd hi (R.val i) (R.val y) clock 0 o3
  have hfin : ∀ (ents' : Array MapEntry) (clock' : Nat), MR G m.hp m.nx w kk (setI (rho look i).vl (rho look y).vl es) ents'.toList →
      (execOp a.eval o).run P w = .ok .skip (w.putObj (G.bb id) (.map ents' clock')) →
      Did P w0 mu look { m with hp := upd m.hp id (.map kk (setI (rho look i).vl (rho look y).vl es)) } nt a w d (.v .undef) ((execOp a.eval o).run P w) := fun ents' clock' hM hrun => by
    refine did_skip hd hrun (R.putRow (ob := .map ents' clock') h1 o2 (.inr ⟨by rw [he]; rfl, by simp [Ob.rk]⟩) fun S => ?_)
    exact ⟨ents', clock', putObj_self _ _ _ (R.keyb _ _ o2).1, o2, hM.step S⟩
  rcases hs with ⟨a1, a2⟩ | ⟨j, e, a1, a2, a3, a4⟩
  · refine hfin (ents.push { key := a.eval i, val := a.eval y, born := clock }) (clock + 1) (by simpa using a2) ?_
    simp [execOp, ho, hxe, Instr.mapUpdate, run_underlying hu, MapKept.run_getObj_map o1, MapKept.run_checkKey hdd hkey, MapKept.run_findKey hdd a1, MapKept.run_setObj_map _ o1]
    rfl
  · have hj : ents[j]? = some e := by simpa using a2
    refine hfin (ents.modify j fun e => { e with key := a.eval i, val := a.eval y }) clock (by simpa [Array.toList_modify] using a4) ?_
    simp [execOp, ho, hxe, Instr.mapUpdate, run_underlying hu, MapKept.run_getObj_map o1, MapKept.run_checkKey hdd hkey, MapKept.run_findKey hdd a1, MapKept.run_setObj_map _ o1, hj, a3, MapKept.run_keyThatStays hkey]
    rfl
theorem zero_of {el : TypeId} (h : (zeroOfT P el).undef? = false) : ∃ i z, P.info? el = some i ∧ i.zero = some z ∧ zeroOfT P el = ofConst z := by
  unfold zeroOfT at h ⊢
  cases hi : P.info? el with
  | none => rw [hi] at h; simp [Vl.undef?] at h
  | some i =>
    rw [hi] at h
    cases hz : i.zero with
    | none => simp [hz, Vl.undef?] at h
    | some z => exact ⟨i, z, rfl, hz, by simp [hz]⟩
theorem did_lookup {t : TypeId} {x i : Operand} {ok : Bool} {kk : KK} {ez y : Vl} {es : List (Vl × Vl)} (hd : ∀ t, d = some t → t < nt) (R : RR w0 mu G look m nt a.tmps w) (ho : o.op = .lookup t x i ok)
    (hk : (tdOf P t).k = .map (some kk) ez) (hx : ((rho look x).vl = .nilm ∧ es = []) ∨ ∃ id, (rho look x).vl = .mp id ∧ m.hp id = .map kk es) (hi : keyOk kk (rho look i).vl = true) (hz : ez.undef? = false)
    (hy : y = (match findI (rho look i).vl es with | some v => (if ok then .tup [v, .bool true] else v) | none => if ok then .tup [ez, .bool false] else ez)) :
    Did P w0 mu look m nt a w d (.v y) ((execOp a.eval o).run P w) := by
  obtain ⟨p, q, hu, hkk, rfl⟩ := td_map hk
  obtain ⟨ti, z, hti, hzi, hze⟩ := zero_of hz
  obtain ⟨dd, hdd, hkey⟩ := key_is hkk.symm hi (R.val i)
  have hzr : VR G m.hp m.nx w (zeroOfT P q) z := by rw [hze]; exact ofConst_rel _ _ _ _ _
  have hent : ∃ ents : Array MapEntry, MR G m.hp m.nx w kk es ents.toList ∧ ((a.eval x = .map none ∧ ents = #[]) ∨ ∃ b clock, a.eval x = .map (some b) ∧ w.heap[b]? = some (.map ents clock)) := by
    rcases hx with ⟨hx, rfl⟩ | ⟨id, hx, he⟩
    · have hv := R.val x
      rw [hx] at hv
      generalize hxe : a.eval x = vx at hv
      cases hv
      exact ⟨#[], .nil, .inl ⟨rfl, rfl⟩⟩
    · have hv := R.val x
      rw [hx] at hv
      generalize hxe : a.eval x = vx at hv
      cases hv with
      | mp h1 h2 =>
      have hb := h2 (by rw [he]; rfl)
      subst hb
      have hO := R.objs id h1
      rw [he] at hO
      obtain ⟨ents, clock, o1, o2, o3⟩ := hO
      exact ⟨ents, o3, .inr ⟨_, clock, rfl, o1⟩⟩
  obtain ⟨ents, hM, hev⟩ := hent
  rcases find_rel hkk.symm hdd hi (R.val i) 0 hM with ⟨a1, a2⟩ | ⟨z', j, e, a1, a2, a3, a4, a5⟩
  · rw [a1] at hy
    subst hy
    refine did_same hd R (v := if ok then .tuple #[z, .bool false] else z) ?_ ?_
    · rcases hev with ⟨h1, rfl⟩ | ⟨b, clock, h1, h2⟩
      · simp [execOp, ho, h1, Instr.lookup, run_underlying hu, MapKept.run_checkKey hdd hkey, MapKept.run_findKey hdd a2, zeroValue, typeInfo, hti, hzi]
      · simp [execOp, ho, h1, Instr.lookup, run_underlying hu, MapKept.run_getObj_map h2, MapKept.run_checkKey hdd hkey, MapKept.run_findKey hdd a2, zeroValue, typeInfo, hti, hzi]
    · cases ok
      · exact hzr
      · exact .tup (vs := [z, .bool false]) (.cons hzr (.cons (.bool _) .nil))
  · rw [a1] at hy
    subst hy
    refine did_same hd R (v := if ok then .tuple #[e.val, .bool true] else e.val) ?_ ?_
    · rcases hev with ⟨h1, rfl⟩ | ⟨b, clock, h1, h2⟩
      · simp at a2
      · simp [execOp, ho, h1, Instr.lookup, run_underlying hu, MapKept.run_getObj_map h2, MapKept.run_checkKey hdd hkey, MapKept.run_findKey hdd a3]
    · cases ok
      · exact a4
      · exact .tup (vs := [e.val, .bool true]) (.cons a4 (.cons (.bool _) .nil))
end
end Go.Idl
namespace Go.Idl
open Go.RowKit
section
variable {P : Program} {w0 : World} {mu : En} {G : Gh} {look : Nat → Arg} {m : Mem} {nt : Nat} {w : World}
variable {a : Act} {d : Option Tmp} {o : Oper} {g : Arg} {m' : Mem} {hp : Nat → Ob} {nx : Nat}
def allocOp : Op → Bool
  | .alloc _ | .box .. => true
  | _ => false
theorem evalV_sound (hd : ∀ t, d = some t → t < nt) (R : RR w0 mu G look m nt a.tmps w)
    (hfree : allocOp o.op = true → ∀ s, d = some s → (∀ s' t off c0, look s' = .pl t off c0 → t ≠ s) ∧ m.lc.lookup s = none)
    (h : evalV P d o.op (rho look) m = some (g, m')) : Did P w0 mu look m' nt a w d g ((execOp a.eval o).run P w) := by
  generalize ho : o.op = op at h hfree
  cases op <;> simp only [evalV, reduceCtorEq] at h
  case move x => cases h; exact did_move hd R (.inl ho)
  case assign x => cases h; exact did_move hd R (.inr ho)
  case pick c x y =>
    split at h
    · rename_i t hc
      cases h
      exact did_pick hd R ho hc
    · cases h
  case alloc t =>
    split at h
    case isFalse => cases h
    rename_i hc
    simp only [Bool.and_eq_true, Bool.not_eq_true'] at hc
    cases d with
    | none => cases h
    | some s =>
      cases h
      obtain ⟨h1, h2⟩ := hfree rfl s rfl
      exact did_alloc (hd s rfl) R h1 h2 ho hc.1.1 hc.1.2
  case box t x =>
    split at h
    case isFalse => cases h
    rename_i hc
    simp only [Bool.and_eq_true, Bool.not_eq_true'] at hc
    cases d with
    | none => cases h
    | some s =>
      cases h
      obtain ⟨h1, h2⟩ := hfree rfl s rfl
      exact did_box (hd s rfl) R h1 h2 ho hc.1
  case build t parts =>
    split at h
    case h_2 => cases h
    rename_i z hz
    obtain ⟨hc, h⟩ := Option.ite_none_right_eq_some.1 h
    rw [Bool.and_eq_true] at hc
    rw [Option.map_eq_some_iff] at h
    obtain ⟨cs, h1, h2⟩ := h
    cases h2
    refine did_build hd R ho hz hc.1 h1 ?_
    have := hc.2
    split at this
    · exact .inl ⟨_, by assumption⟩
    · exact .inr ⟨_, _, _, by assumption, by simpa using this⟩
    · cases this
  case buildSlice t len parts =>
    split at h
    case h_2 => cases h
    rename_i esz eb z hk
    split at h
    case isFalse => cases h
    rename_i hc
    simp only [Bool.and_eq_true, Bool.not_eq_true', decide_eq_true_eq, beq_iff_eq] at hc
    rw [Option.map_eq_some_iff] at h
    obtain ⟨l, h1, h2⟩ := h
    cases h2
    exact did_buildSlice hd R ho hk hc.1.1.1 hc.1.1.2 hc.1.2 hc.2 h1
  case load t x =>
    split at h
    case isFalse => cases h
    rename_i hc
    rw [Option.map_eq_some_iff] at h
    obtain ⟨l, h1, h2⟩ := h
    cases h2
    exact did_load hd R ho hc h1
  case store t x y =>
    split at h
    case isFalse => cases h
    rename_i hc
    simp only [Bool.and_eq_true, Bool.not_eq_true', beq_iff_eq] at hc
    rw [Option.map_eq_some_iff] at h
    obtain ⟨l, h1, h2⟩ := h
    cases h2
    exact did_store hd R ho hc.1.1 hc.1.2 hc.2 h1
  case nilCheck x =>
    split at h <;> first | cases h | skip
    · rename_i hx; rw [← hx]; exact did_nilCheck hd R ho (.inl ⟨_, _, _, hx⟩)
    · rename_i hx; rw [← hx]; exact did_nilCheck hd R ho (.inr (.inl ⟨_, _, hx⟩))
    · rename_i hx; rw [← hx]; exact did_nilCheck hd R ho (.inr (.inr (.inl ⟨_, _, _, _, hx⟩)))
    · rename_i hx; rw [← hx]; exact did_nilCheck hd R ho (.inr (.inr (.inr (.inl ⟨_, _, hx⟩))))
    · rename_i hx; rw [← hx]; exact did_nilCheck hd R ho (.inr (.inr (.inr (.inr (.inl ⟨_, _, _, hx⟩)))))
    · rename_i hx; rw [← hx]; exact did_nilCheck hd R ho (.inr (.inr (.inr (.inr (.inr ⟨_, hx⟩)))))
  case binOp op t x y yt =>
    split at h
    · rename_i hb; cases h; exact did_binOp hd R ho (.inl ⟨_, hb, .inl ⟨rfl, rfl⟩⟩)
    · rename_i hb; cases h; exact did_binOp hd R ho (.inl ⟨_, hb, .inr ⟨rfl, rfl⟩⟩)
    · rw [Option.map_eq_some_iff] at h
      obtain ⟨l, h1, h2⟩ := h
      cases h2
      exact did_binOp hd R ho (.inr h1)
  case unOp op t x =>
    split at h
    · rename_i hb; cases h; exact did_unOp hd R ho (.inl ⟨rfl, _, hb, rfl⟩)
    · rename_i hb; cases h; exact did_unOp hd R ho (.inr ⟨rfl, _, _, hb, rfl⟩)
    · cases h
  case convert s t x =>
    split at h
    · rename_i h1 h2 h3; cases h; exact did_convertInt hd R ho h1 h2 h3
    · rename_i h1 h2 h3; cases h; exact did_convertStr hd R ho h1 h2 h3
    · cases h
  case makeInterface t x =>
    split at h
    · cases h
    · cases h
    · rename_i h1 h2
      split at h
      · cases h
      · cases h; exact did_makeInterface hd R ho h1 h2
  case typeAssert x u t ok =>
    split at h
    · cases h
    · cases h
    · rename_i h1 h2
      split at h
      · rename_i h3
        split at h
        · rename_i e
          subst e
          cases h
          exact did_typeAssert hd R ho h1 h2 (.inl ⟨_, h3, rfl⟩)
        · rename_i e
          split at h
          case isFalse => cases h
          rename_i hc
          cases h
          simp only [Bool.and_eq_true, Bool.not_eq_true'] at hc
          exact did_typeAssert hd R ho h1 h2 (.inr ⟨.inl ⟨_, _, h3, e⟩, hc.1.1, hc.1.2, hc.2, rfl⟩)
      · rename_i h3
        split at h
        case isFalse => cases h
        rename_i hc
        cases h
        simp only [Bool.and_eq_true, Bool.not_eq_true'] at hc
        exact did_typeAssert hd R ho h1 h2 (.inr ⟨.inr h3, hc.1.1, hc.1.2, hc.2, rfl⟩)
      · cases h
  case makeFunc f first cap => cases h; exact did_makeFunc hd R ho
  case makeSlice t x y =>
    split at h
    · rename_i h1 h2 h3
      split at h
      case isFalse => cases h
      rename_i hc
      simp only [Bool.and_eq_true, Bool.not_eq_true', decide_eq_true_eq, beq_iff_eq] at hc
      obtain ⟨⟨⟨⟨⟨⟨c1, rfl⟩, c3⟩, c4⟩, c5⟩, c6⟩, c7⟩ := hc
      cases h
      exact did_makeSlice hd R ho h1 h2 h3 c1 c3 c4 c5 c6 c7
    · cases h
  case slice t x lo hi mx =>
    have h' : evalV P d (.slice t x lo hi mx) (rho look) m = some (g, m') := by
      simpa only [evalV] using h
    have : ∃ y, g = .v y := by
      clear h'
      split at h
      · split at h
        · rw [Option.map_eq_some_iff] at h
          obtain ⟨l, h1, h2⟩ := h
          cases h2
          exact ⟨_, rfl⟩
        · cases h
      · split at h
        · cases h
        · obtain ⟨xs, _, h⟩ := Option.bind_eq_some_iff.1 h
          split at h
          · rw [Option.map_eq_some_iff] at h
            obtain ⟨l, h1, h2⟩ := h
            cases h2
            exact ⟨_, rfl⟩
          · obtain ⟨mi, _, h⟩ := Option.bind_eq_some_iff.1 h
            split at h
            · split at h
              · rw [Option.map_eq_some_iff] at h
                obtain ⟨l, h1, h2⟩ := h
                cases h2
                exact ⟨_, rfl⟩
              · cases h
            · cases h
      · cases h
    obtain ⟨y, rfl⟩ := this
    exact did_slice hd R ho h'
  case fieldAddr t x f =>
    split at h
    case h_2 => cases h
    rename_i fs hk
    obtain ⟨q, h1, h⟩ := Option.bind_eq_some_iff.1 h
    rw [Option.map_eq_some_iff] at h
    obtain ⟨l, h2, h3⟩ := h
    cases h3
    exact did_fieldAddr hd R ho hk h1 h2
  case field t x f =>
    split at h
    case h_2 => cases h
    rename_i fs cs hk hx
    obtain ⟨q, h1, h⟩ := Option.bind_eq_some_iff.1 h
    rw [Option.map_eq_some_iff] at h
    obtain ⟨l, h2, h3⟩ := h
    cases h3
    exact did_field hd R ho hk hx h1 h2
  case indexAddr t x y =>
    split at h
    · rename_i h1 h2
      split at h
      case isFalse => cases h
      rename_i hc
      rw [Option.map_eq_some_iff] at h
      obtain ⟨l, h3, h4⟩ := h
      cases h4
      exact did_indexArr hd R ho h1 h2 hc.1 hc.2.1 h3 hc.2.2
    · rename_i h1 h2
      split at h
      · rename_i h3
        split at h
        case isFalse => cases h
        rename_i hc
        cases h
        obtain ⟨rfl, c2, c3, c4⟩ := hc
        exact did_indexLst hd R ho h1 h2 h3 c3 c4 c2
      · rename_i h3
        split at h
        case isFalse => cases h
        rename_i hc
        split at h
        · rename_i ho1
          split at h
          case isFalse => cases h
          rename_i hc2
          cases h
          obtain ⟨rfl, e2⟩ := hc2
          exact did_indexOwn hd R ho h1 h2 h3 hc.1 hc.2.1 hc.2.2 (.inl ho1) e2
        · rename_i ho1
          split at h
          case isFalse => cases h
          rename_i hc2
          cases h
          obtain ⟨rfl, e2⟩ := hc2
          exact did_indexOwn hd R ho h1 h2 h3 hc.1 hc.2.1 hc.2.2 (.inr ho1) e2
        · cases h
      · cases h
    · cases h
  case index t x y =>
    split at h
    · rename_i h1 h2 h3
      split at h
      case isFalse => cases h
      rename_i hc
      rw [Option.map_eq_some_iff] at h
      obtain ⟨l, h4, h5⟩ := h
      cases h5
      exact did_indexVal hd R ho h1 h2 h3 hc h4
    · rename_i h1 h2 h3
      split at h
      case isFalse => cases h
      rename_i hc
      cases h
      exact did_indexStr hd R ho h1 h2 h3 hc
    · cases h
  case makeMap t r =>
    split at h
    · rename_i h1
      cases h
      exact did_makeMap hd R ho h1
    · cases h
  case mapUpdate t x i y =>
    split at h
    · rename_i h1 h2
      split at h
      · rename_i h3
        split at h
        case isFalse => cases h
        rename_i hc
        simp only [Bool.and_eq_true, decide_eq_true_eq] at hc
        obtain ⟨c1, rfl⟩ := hc
        cases h
        exact did_mapUpdate hd R ho h1 h2 h3 c1
      · cases h
    · cases h
  case lookup t x i ok =>
    split at h
    case h_2 => cases h
    rename_i kk ez h1
    split at h
    case isFalse => cases h
    rename_i hc
    simp only [Bool.and_eq_true, Bool.not_eq_true'] at hc
    rw [Option.map_eq_some_iff] at h
    obtain ⟨es, h2, h3⟩ := h
    have hx : ((rho look x).vl = .nilm ∧ es = []) ∨ ∃ id, (rho look x).vl = .mp id ∧ m.hp id = .map kk es := by
      split at h2
      · rename_i hx; cases h2; exact .inl ⟨hx, rfl⟩
      · rename_i id hx
        split at h2
        · rename_i kk' es' he
          split at h2
          · rename_i hkk; subst hkk; cases h2; exact .inr ⟨id, hx, he⟩
          · cases h2
        · cases h2
      · cases h2
    split at h3
    · rename_i v hf
      cases h3
      exact did_lookup hd R ho h1 hx hc.1 hc.2 (by rw [hf])
    · rename_i hf
      cases h3
      exact did_lookup hd R ho h1 hx hc.1 hc.2 (by rw [hf])
  case extract x i =>
    split at h
    · rename_i vs h1
      rw [Option.map_eq_some_iff] at h
      obtain ⟨l, h2, h3⟩ := h
      cases h3
      exact did_extract hd R ho h1 h2
    · cases h
  case call c =>
    obtain ⟨callee, as, ts⟩ := c
    cases callee with
    | builtin b =>
      simp only [evalV] at h
      rw [Option.map_eq_some_iff] at h
      obtain ⟨l, h2, h3⟩ := h
      cases h3
      exact builtin_run hd R ho h2
    | _ => simp [evalV] at h
end
end Go.Idl
namespace Go.Idl
open Go.RowKit
section
variable {P : Program} {w0 : World} {mu : En} {G : Gh} {look : Nat → Arg} {m : Mem} {nt : Nat} {tm : Array Value} {w : World}
def cutHp (m : Mem) (id e k : Nat) (xs : List Vl) : Mem := { m with hp := upd (upd m.hp id .dead) m.nx (.arr e (xs.take k)), nx := m.nx + 1 }
def cutKey (id n : Nat) : Option Key → Option Key
  | some (.id i) => if i = id then some (.id n) else some (.id i)
  | x => x
theorem RR.cutArr {id e k c : Nat} {xs : List Vl} {a : Option Addr} (R : RR w0 mu G look m nt tm w) (hid : id < m.nx) (ho : m.hp id = .arr e xs) (hk : k ≤ xs.length) (hsv : G.sv id = .slice a xs.length c) :
    ∃ G', RR w0 mu G' look (cutHp m id e k xs) nt tm w ∧ VR G' (upd (upd m.hp id .dead) m.nx (.arr e (xs.take k))) (m.nx + 1) w (.own m.nx k) (.slice a k c) := by
  have hO := R.objs id hid
  rw [ho] at hO
  obtain ⟨he, a', c', e1, hc, hcm, hb⟩ := hO
  rw [hsv] at e1
  simp only [Value.slice.injEq, true_and] at e1
  obtain ⟨rfl, rfl⟩ := e1
  let hp' : Nat → Ob := upd (upd m.hp id .dead) m.nx (.arr e (xs.take k))
  let G' : Gh := { G with sv := upd G.sv m.nx (.slice a k c), key := fun b => cutKey id m.nx (G.key b) }
  have hpn : hp' m.nx = .arr e (xs.take k) := upd_same _ _ _
  have hpd : hp' id = .dead := by show upd _ _ _ id = _; rw [upd_ne _ _ (by omega), upd_same]
  have hpo : ∀ i, i < m.nx → i ≠ id → hp' i = m.hp i := fun i h1 h2 => by show upd _ _ _ i = _; rw [upd_ne _ _ (by omega), upd_ne _ _ h2]
  have hcase : ∀ i, i < m.nx → hp' i = .dead ∨ (i ≠ id ∧ hp' i = m.hp i) := fun i h => by
    by_cases hi : i = id
    · subst hi; exact .inl hpd
    · exact .inr ⟨hi, hpo i h hi⟩
  have S : Step G m.hp m.nx w G' hp' (m.nx + 1) w := by
    refine ⟨fun b h => h, fun _ _ => rfl, Nat.le_succ _, fun i hi e xs h => ?_, fun i hi c h => ?_, fun i hi h => ?_⟩
    · rcases hcase i hi with h1 | ⟨_, h1⟩
      · rw [h1] at h; rcases h with h | h <;> cases h
      · rw [h1] at h; exact ⟨xs, h, Nat.le_refl _, fun _ => upd_ne _ _ (by omega)⟩
    · rcases hcase i hi with h1 | ⟨_, h1⟩
      · rw [h1] at h; cases h
      · rw [h1] at h; exact ⟨c, h, rfl⟩
    · rcases hcase i hi with h1 | ⟨_, h1⟩
      · rw [h1] at h; exact absurd rfl h
      · rw [h1]; exact ⟨rfl, rfl⟩
  have hkk : ∀ (q : Key), q ≠ .id id → ∀ b, G.key b = some q → w.heap[b]? = w.heap[b]? ∧ G'.key b = some q := fun q hq b h => by
    refine ⟨rfl, ?_⟩
    show cutKey id m.nx (G.key b) = some q
    rw [h]
    cases q with
    | id i => exact if_neg (fun e => hq (by rw [e]))
    | _ => rfl
  have hkn : ∀ b, G.key b = none → G'.key b = none := fun b h => by
    show cutKey id m.nx (G.key b) = none
    rw [h]; rfl
  have hkid : ∀ b, G.key b = some (.id id) → G'.key b = some (.id m.nx) := fun b h => by
    show cutKey id m.nx (G.key b) = _
    rw [h]; exact if_pos rfl
  have hkb : ∀ b q, G'.key b = some q → ∃ q', G.key b = some q' := fun b q h => by
    cases hg : G.key b with
    | none => rw [hkn b hg] at h; cases h
    | some q' => exact ⟨q', rfl⟩
  refine ⟨G', {
    size := R.size
    slots := fun s => AR.step S (fun _ _ _ _ => rfl) (R.slots s)
    locs := fun s t off c0 h => LocR.step (m' := cutHp m id e k xs) S rfl rfl (hkk _ (by simp)) (R.locs s t off c0 h)
    objs := fun i hi => ?_
    okb := fun b h => ⟨(R.okb b h).1, hkn b (R.okb b h).2⟩
    keyb := fun b q h => by
      obtain ⟨q', h'⟩ := hkb b q h
      exact R.keyb b q' h'
    os := R.os
    tape := R.tape
    out := R.out
    grow := R.grow
    base := R.base
    ent := R.ent.trans S
    oks := R.oks
    mks := fun b hb => ⟨(hkk _ (by simp) b (R.mks b hb).1).2, (R.mks b hb).2⟩ }, ?_⟩
  · show ObR G' hp' (m.nx + 1) w i (hp' i)
    by_cases hin : i = m.nx
    · subst hin
      rw [hpn]
      refine ⟨he, a, c, ?_, ?_, hcm, ?_⟩
      · show upd G.sv m.nx _ m.nx = _; rw [upd_same, List.length_take, Nat.min_eq_left hk]
      · rw [List.length_take]; omega
      · rcases hb with h | ⟨b, cur, elem, h1, h2, h3, h4, h5⟩
        · exact .inl h
        · refine .inr ⟨b, cur, elem, h1, hkid b h2, h3, h4, fun j x hx => ?_⟩
          rw [List.getElem?_take] at hx
          split at hx
          · obtain ⟨vs, g1, g2, g3⟩ := h5 j x hx
            exact ⟨vs, g1.step S, g2, g3⟩
          · cases hx
    · have hid' : i < m.nx := by have : i < m.nx + 1 := hi; omega
      rcases hcase i hid' with h1 | ⟨hne, h1⟩
      · rw [h1]; trivial
      · rw [h1]; exact ObR.step S (upd_ne _ _ (by omega)) rfl (hkk _ (by simpa using hne)) (R.objs i hid')
  · refine .own (Nat.lt_succ_self _) (by omega) (fun e' xs' h => ?_) (fun h => ?_)
    · rw [upd_same] at h
      rcases h with h | h
      · cases h; exact ⟨by rw [List.length_take]; omega, fun _ => upd_same _ _ _⟩
      · cases h
    · rcases hb with h0 | ⟨b, cur, elem, h1, _⟩
      · omega
      · rw [h1]; rfl
variable {a : Act} {d : Option Tmp} {o : Oper}
theorem did_cut {t : TypeId} {x hi : Operand} {id n e : Nat} {k : IntKind} {h : Int} {xs : List Vl} {eb : Nat} {ez : Vl} (hd : ∀ t, d = some t → t < nt) (R : RR w0 mu G look m nt a.tmps w) (ho : o.op = .slice t x none (some hi) none)
    (hk : (tdOf P t).k = .slice e eb ez) (hx : (rho look x).vl = .own id n) (hob : m.hp id = .arr e xs) (hn : xs.length = n) (hi' : (rho look hi).vl = .int k h) (h0 : 0 ≤ h) (h1 : h ≤ n) :
    Did P w0 mu look (cutHp m id e h.toNat xs) nt a w d (.v (.own m.nx h.toNat)) ((execOp a.eval o).run P w) := by
  obtain ⟨el, hu, hes, -, -⟩ := td_slice hk
  have hv := R.val x
  rw [hx] at hv
  generalize hxe : a.eval x = vx at hv
  cases hv with
  | own g1 g2 g3 g4 =>
  rename_i ad c
  have hsv := (g3 _ _ (.inl hob)).2 hn.symm
  subst hn
  have hO := R.objs id g1
  rw [hob] at hO
  have he0 := hO.1
  obtain ⟨ie, hie⟩ : ∃ i, P.info? el = some i := by
    cases hq : P.info? el with
    | none => rw [hes] at he0; simp [sizeOfT, hq] at he0
    | some i => exact ⟨i, rfl⟩
  obtain ⟨H, rfl⟩ := Int.eq_ofNat_of_zero_le h0
  have hle : H ≤ xs.length := by omega
  obtain ⟨G', R', hV⟩ := R.cutArr (k := H) g1 hob hle hsv
  have hh := int_val R hi'
  have hcut : cutV xs.length ((none : Option Operand).map fun x => (rho look x).vl) ((some hi).map fun x => (rho look x).vl) = some (0, H) := by
    simp [cutV, hi', intOf?, hle]
  obtain ⟨q1, q2, q3⟩ := cut_run (P := P) (isSlice := true) R g2 hcut
  simp only [Option.map_some, Option.map_none] at q1
  refine did_value hd (v := .slice ad H c) ?_ R' hV (fun t off c0 e => by cases e)
  simp [execOp, ho, Instr.sliceAt, run_underlying hu, Instr.slice, hxe, q1, run_size hie]
  intro hc0
  cases ad <;> simp [Addr.add]
end
end Go.Idl
namespace Go.Idl
mutual
def Vl.closed : Vl → Bool
  | .own .. | .ep .. | .bp .. | .mp _ | .yld _ | .loc _ => false
  | .agg cs | .tup cs => closedL cs
  | .lst _ xs _ => closedL xs
  | .fp b _ => b.closed
  | .fn _ a b => closedL a && closedL b
  | .ifc _ v => v.closed
  | _ => true
def closedL : List Vl → Bool
  | [] => true
  | x :: xs => x.closed && closedL xs
end
mutual
def Vl.flat : Vl → Bool
  | .int .. | .bool _ | .str _ | .nils | .nilp | .nilf | .nili | .nilm => true
  | .agg cs | .tup cs => flatL cs
  | .ifc _ v => v.flat
  | _ => false
def flatL : List Vl → Bool
  | [] => true
  | x :: xs => x.flat && flatL xs
end
def closedV (x : Vl) : Option (Vl × List Nat) := if x.closed then some (x, []) else none
def mapR (f : Vl → Option (Vl × List Nat)) : List Vl → Option (List Vl × List Nat)
  | [] => some ([], [])
  | x :: xs => (f x).bind fun r => (mapR f xs).map fun s => (r.1 :: s.1, r.2 ++ s.2)
mutual
def reifyF (inn : Vl → Option (Vl × List Nat)) (hp : Nat → Ob) : Vl → Option (Vl × List Nat)
  | .own id n => match hp id with
    | .arr e xs | .fro e xs => if xs.length = n then (mapR inn xs).map fun r => (.lst e r.1 false, id :: r.2) else none
    | _ => none
  | .ep id n i off => match hp id with
    | .arr _ xs | .fro _ xs => if xs.length = n then (xs[i]?).bind fun x => (inn x).map fun r => (.fp r.1 off, id :: r.2) else none
    | _ => none
  | .bp id off => match hp id with
    | .box c => (inn c).map fun r => (.fp r.1 off, id :: r.2)
    | _ => none
  | .agg cs => (reifyL inn hp cs).map fun r => (.agg r.1, r.2)
  | .tup cs => (reifyL inn hp cs).map fun r => (.tup r.1, r.2)
  | .fn f a b => (reifyL inn hp a).bind fun r => (reifyL inn hp b).map fun s => (.fn f r.1 s.1, r.2 ++ s.2)
  | .ifc t v => (reifyF inn hp v).map fun r => (.ifc t r.1, r.2)
  | .lst e xs x => if closedL xs then some (.lst e xs x, []) else none
  | .fp b off => if b.closed then some (.fp b off, []) else none
  | .mp _ | .yld _ | .loc _ => none
  | v => some (v, [])
def reifyL (inn : Vl → Option (Vl × List Nat)) (hp : Nat → Ob) : List Vl → Option (List Vl × List Nat)
  | [] => some ([], [])
  | x :: xs => (reifyF inn hp x).bind fun r => (reifyL inn hp xs).map fun s => (r.1 :: s.1, r.2 ++ s.2)
end
def reify (hp : Nat → Ob) : Vl → Option (Vl × List Nat) := reifyF (reifyF (reifyF closedV hp) hp) hp
def reifyA (m : Mem) : Arg → Option (Vl × List Nat × Bool)
  | .v x => (reify m.hp x).map fun r => (r.1, r.2, false)
  | .pl t off c0 => (reify m.hp ((m.lc.lookup t).getD c0)).map fun r => (.fp r.1 off, r.2, true)
def reifyAs (m : Mem) : List Arg → Option (List Vl × List Nat × Bool)
  | [] => some ([], [], false)
  | x :: xs => (reifyA m x).bind fun r => (reifyAs m xs).map fun s => (r.1 :: s.1, r.2.1 ++ s.2.1, r.2.2 || s.2.2)
def froOb : Ob → Ob
  | .arr e xs | .fro e xs => .fro e xs
  | _ => .dead
def killHp (ks : List Nat) (hp : Nat → Ob) : Nat → Ob := ks.foldl (fun hp k => upd hp k (froOb (hp k))) hp
inductive Gho where
  | own (s e : Nat)
  | ownF (s off e : Nat)
  | lst (s e : Nat)
  | frz (s : Nat)
inductive BK where
  | ws | wb | str
structure Ann where
  loc : FuncId → Nat → Bool
  keep : FuncId → Nat → List Nat
  gho : FuncId → Nat → List Gho
  fin : FuncId → List Gho
  heap : FuncId → Bool
  ext : FuncId → Option (List Vl → Option Vl)
  bld : FuncId → Option (BK × TypeId × TypeId) := fun _ => none
structure FS where
  sl : List (Nat × Vl)
  hp : Nat → Ob
  nx : Nat
def setS (sl : List (Nat × Vl)) (t : Nat) (v : Vl) : List (Nat × Vl) := (t, v) :: sl.filter (·.1 != t)
def Vl.frz? : Vl → Bool
  | .own .. | .agg _ | .tup _ => true
  | _ => false
def Gho.run (s : FS) : Gho → Option FS
  | .own t e => match s.sl.lookup t with
    | some .nils => if 0 < e then some { sl := setS s.sl t (.own s.nx 0), hp := upd s.hp s.nx (.arr e []), nx := s.nx + 1 } else none
    | _ => none
  | .ownF t off e => match s.sl.lookup t with
    | some (.loc (.agg cs)) => match cs[off]? with
      | some .nils => if 0 < e then some { sl := setS s.sl t (.loc (.agg (cs.set off (.own s.nx 0)))), hp := upd s.hp s.nx (.arr e []), nx := s.nx + 1 } else none
      | _ => none
    | _ => none
  | .lst t e => match s.sl.lookup t with
    | some .nils => some { s with sl := setS s.sl t (.lst e [] false) }
    | some (.lst e' xs _) => if e' = e then some { s with sl := setS s.sl t (.lst e xs false) } else none
    | some (.own id n) => (reify s.hp (.own id n)).map fun r => { s with sl := setS s.sl t r.1, hp := killHp r.2 s.hp }
    | _ => none
  | .frz t => match s.sl.lookup t with
    | some (.loc c) => match reify s.hp c with
      | some r => some { s with sl := setS s.sl t (.loc r.1), hp := killHp r.2 s.hp }
      | none => some s
    | some v => if v.frz? then
        match reify s.hp v with
        | some r => some { s with sl := setS s.sl t r.1, hp := killHp r.2 s.hp }
        | none => some s
      else some s
    | none => some s
def ghosts : List Gho → FS → Option FS
  | [], s => some s
  | g :: gs, s => (g.run s).bind (ghosts gs)
def ovLook (base : Nat → Arg) (ov : List (Nat × Arg)) (t : Nat) : Arg := (ov.lookup t).getD (base t)
def ovPut (d : Option Tmp) (g : Arg) (ov : List (Nat × Arg)) : List (Nat × Arg) := match d with | some d => (d, g) :: ov | none => ov
def wantedI (ops : Array Oper) (look : Nat → Arg) (o : Oper) : Option Bool :=
  match o.guard with
  | none => some true
  | some (j, want) => match (ops[j]?).bind (·.dst) with
    | some s => match look s with
      | .v (.bool b) => some (b == want)
      | .v (.tup _) => some false
      | _ => none
    | none => none
abbrev Caller := Vl → List Arg → Mem → Option (Vl × Mem)
def newBox (z : Vl) (m : Mem) : Option (Arg × Mem) := if z.undef? then none else some (.v (.bp m.nx 0), { m with hp := upd m.hp m.nx (.box z), nx := m.nx + 1 })
def newBld (t e : TypeId) (m : Mem) : Option (Arg × Mem) := some (.v (.bp m.nx 0), { m with hp := upd m.hp m.nx (.bld t e []), nx := m.nx + 1 })
def bldRun (k : BK × TypeId × TypeId) (vs : List Vl) (hp : Nat → Ob) (nx : Nat) : Option (Vl × (Nat → Ob) × Nat) :=
  match vs with
  | .bp id 0 :: rest => match hp id with
    | .bld t e l => if t = k.2.1 ∧ e = k.2.2 then
        match k.1, rest with
        | .ws, [.str s] => if l.length + s.size ≤ 140737488355328 then some (.tup [.int .i64 s.size, .nili], upd hp id (.bld t e (l ++ s.data.toList)), nx) else none
        | .wb, [.int .u8 c] => if l.length + 1 ≤ 140737488355328 ∧ 0 ≤ c ∧ c < 256 then some (.nili, upd hp id (.bld t e (l ++ [UInt8.ofNat c.toNat])), nx) else none
        | .str, [] => some (.str ⟨l.toArray⟩, upd hp id .dead, nx)
        | _, _ => none
      else none
    | _ => none
  | _ => none
def cutI (P : Program) (t : TypeId) (lo : Option Operand) (hi : Option Vl) (mx : Option Operand) (x : Vl) (m : Mem) : Option (Arg × Mem) :=
  match lo, hi, mx, (tdOf P t).k, x with
  | none, some (.int _ h), none, .slice esz _ _, .own id n => match m.hp id with
    | .arr e xs => if xs.length = n ∧ e = esz ∧ 0 ≤ h ∧ h ≤ n then some (.v (.own m.nx h.toNat), cutHp m id e h.toNat xs) else none
    | _ => none
  | _, _, _, _, _ => none
def methI (P : Program) (t : TypeId) (name : String) : Option FuncId :=
  (P.info? t).bind fun i => (i.methods.find? (·.name == name)).bind fun q =>
    if q.path.toList.isEmpty then match q.func, P.underlying t with
      | some (f, true), some (.pointer _) => some f
      | some (f, false), some (.pointer _) => none
      | some (f, false), some _ => some f
      | _, _ => none
    else none
def opI (P : Program) (call : Caller) (loc : Nat → Bool) (o : Oper) (ρ : Operand → Arg) (m : Mem) : Option (Arg × Mem) :=
  match o.op with
  | .alloc t => if (o.dst.map loc).getD false then evalV P o.dst o.op ρ m else
      if (tdOf P t).ok && (tdOf P t).zero.size == (tdOf P t).size then (match (tdOf P t).bld with | some e => newBld t e m | none => newBox (tdOf P t).zero m) else none
  | .box t x => if (o.dst.map loc).getD false then evalV P o.dst o.op ρ m else
      if (ρ x).vl.size == (tdOf P t).size then newBox (ρ x).vl m else none
  | .buildSlice t len parts => if (o.dst.map loc).getD false then
      match (tdOf P t).k with
      | .slice esz _ z =>
        if !z.undef? && z.size == esz && decide (0 < esz) && decide (len * esz ≤ 16777216) then (litElems z len (parts.toList.map fun p => (p.1, (ρ p.2).vl))).map fun l =>
          (.v (.own m.nx len), { m with hp := upd m.hp m.nx (.arr esz l), nx := m.nx + 1 }) else none
      | _ => none
      else evalV P o.dst o.op ρ m
  | .slice t x lo hi mx => if (o.dst.map loc).getD false then cutI P t lo (hi.map fun y => (ρ y).vl) mx (ρ x).vl m else evalV P o.dst o.op ρ m
  | .call { callee := .value fo, args := as, .. } => (call (ρ fo).vl (as.toList.map ρ) m).map fun r => (.v r.1, r.2)
  | .call { callee := .invoke ro name, args := as, .. } => match (ρ ro).vl with
    | .ifc t v => (methI P t name).bind fun g => (call (.fn (.func g) [v] []) (as.toList.map ρ) m).map fun r => (.v r.1, r.2)
    | _ => none
  | _ => evalV P o.dst o.op ρ m
def runOps (P : Program) (call : Caller) (loc : Nat → Bool) (ops : Array Oper) (base : Nat → Arg) : List Oper → List (Nat × Arg) → Mem → Option (List (Nat × Arg) × Mem)
  | [], ov, m => some (ov, m)
  | o :: os, ov, m =>
    match wantedI ops (ovLook base ov) o with
    | none => none
    | some false => runOps P call loc ops base os (ovPut o.dst (.v (.tup [])) ov) m
    | some true => (opI P call loc o (rho (ovLook base ov)) m).bind fun r => runOps P call loc ops base os (ovPut o.dst r.1 ov) r.2
structure TR where
  o : Oper
  ov : List (Nat × Arg)
  m : Mem
  ran : Bool
  g : Arg
  m' : Mem
def traceOps (P : Program) (call : Caller) (loc : Nat → Bool) (ops : Array Oper) (base : Nat → Arg) : List Oper → List (Nat × Arg) → Mem → Option (List TR × List (Nat × Arg) × Mem)
  | [], ov, m => some ([], ov, m)
  | o :: os, ov, m =>
    match wantedI ops (ovLook base ov) o with
    | none => none
    | some false => (traceOps P call loc ops base os (ovPut o.dst (.v (.tup [])) ov) m).map fun r => (⟨o, ov, m, false, .v (.tup []), m⟩ :: r.1, r.2)
    | some true => (opI P call loc o (rho (ovLook base ov)) m).bind fun q =>
      (traceOps P call loc ops base os (ovPut o.dst q.1 ov) q.2).map fun r => (⟨o, ov, m, true, q.1, q.2⟩ :: r.1, r.2)
mutual
def eqVl : Vl → Vl → Bool
  | .int k n, .int k' n' => k == k' && n == n'
  | .bool b, .bool b' => b == b'
  | .str s, .str s' => decide (s.data = s'.data)
  | .agg a, .agg b | .tup a, .tup b => eqVls a b
  | .nils, .nils | .nilp, .nilp | .nilf, .nilf | .nili, .nili | .nilm, .nilm => true
  | .lst e xs x, .lst e' ys y => e == e' && eqVls xs ys && x == y
  | .own i n, .own j k => i == j && n == k
  | .fp b o, .fp c q => eqVl b c && o == q
  | .ep a b c d, .ep a' b' c' d' => a == a' && b == b' && c == c' && d == d'
  | .bp a b, .bp a' b' => a == a' && b == b'
  | .yld a, .yld b | .mp a, .mp b => a == b
  | .ifc t v, .ifc t' v' => t == t' && eqVl v v'
  | .loc v, .loc v' => eqVl v v'
  | .fn f a b, .fn f' a' b' => decide (f = f') && eqVls a a' && eqVls b b'
  | .undef, .undef => true
  | _, _ => false
def eqVls : List Vl → List Vl → Bool
  | [], [] => true
  | x :: xs, y :: ys => eqVl x y && eqVls xs ys
  | _, _ => false
end
def eqArg : Arg → Arg → Bool
  | .v x, .v y => eqVl x y
  | .pl t o c, .pl t' o' c' => t == t' && o == o' && eqVl c c'
  | _, _ => false
def effectI (loc : Nat → Bool) (o : Oper) : Bool :=
  match o.op with
  | .alloc _ | .box .. => !(o.dst.map loc).getD false
  | .buildSlice .. | .slice .. => (o.dst.map loc).getD false
  | op => effectOp op
def looksI (ops : Array Oper) (o : Oper) : List Nat :=
  (o.op.operands.toList.filterMap fun | .tmp t => some t | _ => none) ++
  (match o.guard with | some (j, _) => ((ops[j]?).bind (·.dst)).toList | none => [])
def orderedI (b : Array Nat) (i j : Nat) : Bool := (b.getD j 0).testBit i
def clash (x y : Oper) (lx ly : List Nat) : Bool :=
  match x.dst, y.dst with
  | some s, some t => s == t || ly.contains s || lx.contains t
  | some s, none => ly.contains s
  | none, some t => lx.contains t
  | none, none => false
def staticOk (loc : Nat → Bool) (ops : Array Oper) : Bool :=
  let b := Region.before ops
  let l := ops.toList.zipIdx
  l.all fun (o, j) =>
    o.after.all (fun e => !Region.binds .any e || decide (e.on < j)) &&
    l.all fun (o', i) => !decide (i < j) || orderedI b i j ||
      (!(effectI loc o && effectI loc o') && !clash o' o (looksI ops o') (looksI ops o))
def loosePairs (loc : Nat → Bool) (ops : Array Oper) : List (Nat × Nat) :=
  let b := Region.before ops
  let l := ops.toList.zipIdx
  l.flatMap fun (o, i) => if readsOp o.op && !effectI loc o then l.filterMap fun (o', j) =>
    if effectI loc o' && i != j && !orderedI b i j && !orderedI b j i then some (i, j) else none else []
def looseOk (P : Program) (base : Nat → Arg) (tr : List TR) (p : Nat × Nat) : Bool :=
  match tr[p.1]?, tr[p.2]? with
  | some x, some y => !x.ran ||
    (match evalV P x.o.dst x.o.op (rho (ovLook base x.ov)) (if p.2 < p.1 then y.m else y.m') with
      | some (g, _) => eqArg g x.g
      | none => false)
  | _, _ => false
def allocDsts (ops : Array Oper) : List Nat := ops.toList.filterMap fun o => if allocOp o.op then o.dst else none
def nodupI : List Nat → Bool
  | [] => true
  | x :: xs => !xs.contains x && nodupI xs
def keepS (kp : List Nat) (look : Nat → Arg) (m : Mem) : List (Nat × Vl) :=
  kp.filterMap fun s => match look s with
    | .v x => some (s, x)
    | .pl t off c0 => if t = s ∧ off = 0 then some (s, .loc ((m.lc.lookup t).getD c0)) else none
def regionI (P : Program) (A : Ann) (call : Caller) (f id : Nat) (ops : Array Oper) (draw : Bool) (s : FS) : Option FS :=
  (ghosts (A.gho f id) s).bind fun s =>
  let ds := allocDsts ops
  let base := lookOf (s.sl.filter fun p => !ds.contains p.1)
  let m : Mem := { lc := [], hp := s.hp, nx := s.nx }
  if !nodupI ds then none else
  if draw then
    if staticOk (A.loc f) ops then
      (traceOps P call (A.loc f) ops base ops.toList [] m).bind fun r =>
        if (loosePairs (A.loc f) ops).all (looseOk P base r.1) then
          some { sl := keepS (A.keep f id) (ovLook base r.2.1) r.2.2, hp := r.2.2.hp, nx := r.2.2.nx } else none
    else none
  else (runOps P call (A.loc f) ops base ops.toList [] m).map fun r =>
    { sl := keepS (A.keep f id) (ovLook base r.1) r.2, hp := r.2.hp, nx := r.2.nx }
def zipS : Nat → List Vl → List (Nat × Vl)
  | _, [] => []
  | i, x :: xs => (i, x) :: zipS (i + 1) xs
def resultI (P : Program) (s : FS) : ResultVar → Option Vl
  | .tmp t => match lookOf s.sl t with
    | .v x => some x
    | _ => none
  | .cell a t => if (tdOf P t).ok then Mem.read { lc := [], hp := s.hp, nx := s.nx } (tdOf P t).agg (tdOf P t).size (lookOf s.sl a) else none
def tupled : List Vl → Vl
  | [x] => x
  | xs => .tup xs
def mapO {α β : Type} (f : α → Option β) : List α → Option (List β)
  | [] => some []
  | x :: xs => (f x).bind fun y => (mapO f xs).map (y :: ·)
def runI (P : Program) (A : Ann) (ex : FuncId → Code → FS → Option (XE × FS)) (g : FuncId) (args : List Vl) (hp : Nat → Ob) (nx : Nat) : Option (Vl × (Nat → Ob) × Nat) :=
  (P.funcs[g]?).bind fun fn => (fn.body).bind fun c => (ex g c { sl := zipS 0 args, hp := hp, nx := nx }).bind fun r =>
    match r.1 with
    | .exit _ => none
    | _ => (ghosts (A.fin g) r.2).bind fun s => (mapO (resultI P s) fn.results.toList).map fun vs => (tupled vs, s.hp, s.nx)
def noHeap : Nat → Ob := fun _ => .dead
def pureI (P : Program) (A : Ann) (ex : FuncId → Code → FS → Option (XE × FS)) (g : FuncId) (args : List Vl) : Option Vl :=
  match A.ext g with
  | some h => h args
  | none => (runI P A ex g args noHeap 0).bind fun r => (reify r.2.1 r.1).map (·.1)
def argV : Arg → Option Vl
  | .v x => some x
  | _ => none
abbrev Ex := Option Nat → FuncId → Code → FS → Option (XE × FS)
def runH (P : Program) (A : Ann) (ex : Ex) (g : FuncId) (vs : List Vl) (hp : Nat → Ob) (nx : Nat) : Option (Vl × (Nat → Ob) × Nat) :=
  match A.bld g with
  | some k => bldRun k vs hp nx
  | none => runI P A (ex none) g vs hp nx
def callF (P : Program) (A : Ann) (ex : Ex) (g : FuncId) (args : List Arg) (m : Mem) : Option (Vl × Mem) :=
  if A.heap g then
    (mapO argV args).bind fun vs => (runH P A ex g vs m.hp m.nx).map fun r => (r.1, { m with hp := r.2.1, nx := r.2.2 })
  else
    (reifyAs m args).bind fun r => (pureI P A (ex none) g r.1).bind fun v =>
      if v.flat then some (v, m) else if !r.2.2 && v.closed then some (v, { m with hp := killHp r.2.1 m.hp }) else none
def setPs : List (Nat × Vl) → List Nat → List Vl → List (Nat × Vl)
  | sl, p :: ps, v :: vs => setPs (setS sl p v) ps vs
  | sl, _, _ => sl
def noLocV : Vl → Vl
  | .loc _ => .undef
  | v => v
def noLoc : List (Nat × Vl) → List (Nat × Vl)
  | [] => []
  | (k, v) :: l => (k, noLocV v) :: noLoc l
def roundI (ex : Ex) (k : Nat) (vs : List Vl) (m : Mem) : Option (Vl × Mem) :=
  match m.hp k with
  | .loop f sl ps asg bd .ready =>
    if vs.length = ps.length then
      (ex (some k) f asg { sl := setPs sl ps vs, hp := m.hp, nx := m.nx }).bind fun r => match r.1, r.2.hp k with
        | .normal, .loop f sl ps asg bd' .ready =>
          (ex (some k) f bd { r.2 with hp := upd r.2.hp k (.loop f sl ps asg bd' .busy) }).bind fun q => match q.2.hp k with
            | .loop f sl ps asg bd .busy => some (.bool (q.1 == .normal),
                { m with hp := upd q.2.hp k (.loop f sl ps asg bd (match q.1 with | .normal => .ready | e => .done e)), nx := q.2.nx })
            | _ => none
        | _, _ => none
    else none
  | _ => none
def callI (P : Program) (A : Ann) (ex : Ex) : Caller := fun c args m =>
  match c with
  | .fn (.func g) first cap => callF P A ex g (first.map .v ++ args ++ cap.map .v) m
  | .yld k => (mapO argV args).bind fun vs => roundI ex k vs m
  | _ => none
def exec (P : Program) (A : Ann) : Nat → Option Nat → FuncId → Code → FS → Option (XE × FS)
  | 0, _, _, _, _ => none
  | n + 1, ro, f, c, s =>
    match c with
    | .skip | .label _ => some (.normal, s)
    | .scope c => exec P A n ro f c s
    | .region id ops draw => (regionI P A (callI P A (exec P A n)) f id ops draw s).map fun s => (.normal, s)
    | .seq a b => (exec P A n ro f a s).bind fun r => match r.1 with
      | .normal => exec P A n ro f b r.2
      | _ => some r
    | .cond c x y => match (rho (lookOf s.sl) c).vl with
      | .bool t => exec P A n ro f (if t then x else y) s
      | _ => none
    | .block id c => (exec P A n ro f c s).map fun r => match r.1 with
      | .exit j => if j = id then (.normal, r.2) else r
      | _ => r
    | .loop body => (exec P A n ro f body s).bind fun r => match r.1 with
      | .normal => exec P A n ro f (.loop body) r.2
      | _ => some r
    | .rangeFunc g ps asg bd =>
      if (match ro with | none => true | some k => (s.hp k).rk == 1) then
        match (rho (lookOf s.sl) g).vl with
        | .fn (.func h) first cap =>
          (runI P A (exec P A n none) h (first ++ [.yld s.nx] ++ cap) (upd s.hp s.nx (.loop f (noLoc s.sl) ps.toList asg bd .ready)) (s.nx + 1)).bind fun r =>
            match r.2.1 s.nx with
            | .loop _ _ _ _ _ .ready => some (.normal, { s with hp := upd r.2.1 s.nx .dead, nx := r.2.2 })
            | .loop _ _ _ _ _ (.done e) => some (e, { s with hp := upd r.2.1 s.nx .dead, nx := r.2.2 })
            | _ => none
        | _ => none
      else none
    | .exit id => some (.exit id, s)
    | .ret => some (.ret, s)
    | _ => none
end Go.Idl
namespace Go.Idl
open Go.RowKit
section
variable {P : Program} {w0 : World} {mu : En} {G : Gh} {look : Nat → Arg} {m : Mem} {nt : Nat} {tm : Array Value} {w : World}
def HH (w0 : World) (mu : En) (G : Gh) (hp : Nat → Ob) (nx : Nat) (w : World) : Prop := RR w0 mu G (fun _ => .v .undef) { lc := [], hp := hp, nx := nx } 0 #[] w
theorem RR.heap (R : RR w0 mu G look m nt tm w) : HH w0 mu G m.hp m.nx w :=
  ⟨rfl, fun _ => .undef _, fun _ _ _ _ h => (by cases h), R.objs, R.okb, R.keyb, R.os, R.tape, R.out, R.grow, R.base, R.ent, R.oks, R.mks⟩
def idKey : Option Key → Option Key
  | some (.id i) => some (.id i)
  | _ => none
def Gh.ids (G : Gh) : Gh := { G with key := fun b => idKey (G.key b) }
theorem idKey_some {k : Option Key} {q : Key} (h : idKey k = some q) : k = some q ∧ ∃ i, q = .id i := by
  unfold idKey at h
  split at h
  · cases h; exact ⟨rfl, _, rfl⟩
  · cases h
def enOf (G : Gh) (m : Mem) : En := { G := G.ids, hp := m.hp, nx := m.nx, dfs := [] }
theorem may_of {G : Gh} {m : Mem} {b : Nat} : (enOf G m).may b ↔ ∃ i, G.key b = some (.id i) := by
  constructor
  · rintro ⟨i, h⟩; exact ⟨i, (idKey_some h).1⟩
  · rintro ⟨i, h⟩; exact ⟨i, by show idKey (G.key b) = _; rw [h]; rfl⟩
theorem step_key (G G' : Gh) {hp : Nat → Ob} {nx : Nat} {w : World} (h1 : G'.ok = G.ok) (h2 : G'.sv = G.sv) (h3 : G'.bb = G.bb) : Step G hp nx w G' hp nx w :=
  ⟨fun b h => by rw [h1]; exact h, fun _ _ => rfl, Nat.le_refl _, fun _ _ _ xs h => ⟨xs, h, Nat.le_refl _, fun _ => by rw [h2]⟩, fun _ _ c h => ⟨c, h, by rw [h3]⟩, fun _ _ _ => ⟨rfl, by rw [h3]⟩⟩
theorem RR.enter (R : RR w0 mu G look m nt tm w) : HH w (enOf G m) G.ids m.hp m.nx w where
  size := rfl
  slots _ := .undef _
  locs _ _ _ _ h := by cases h
  objs id hid := ObR.step (step_key G G.ids rfl rfl rfl) rfl rfl (fun b h => ⟨rfl, by show idKey (G.key b) = _; rw [h]; rfl⟩) (R.objs id hid)
  okb b h := ⟨(R.okb b h).1, by show idKey (G.key b) = _; rw [(R.okb b h).2]; rfl⟩
  keyb b k h := by
    obtain ⟨h1, i, rfl⟩ := idKey_some h
    exact ⟨(R.keyb b _ h1).1, .inr (may_of.2 ⟨i, h1⟩)⟩
  os := rfl
  tape := rfl
  out := rfl
  grow := Nat.le_refl _
  base _ _ _ := rfl
  ent := Step.refl _ _ _ _
  oks b h := .inr (.inr h)
  mks b h := by cases h
def joinKey : Option Key → Option Key → Option Key
  | some (.loc t), _ => some (.loc t)
  | some .mark, _ => some .mark
  | _, k => k
def Gh.join (G G' : Gh) : Gh := { G' with lb := G.lb, key := fun b => joinKey (G.key b) (G'.key b) }
theorem join_key {G G' : Gh} {b : Nat} (h : ∀ k, G.key b = some k → ∃ i, k = .id i) : (G.join G').key b = G'.key b := by
  show joinKey (G.key b) (G'.key b) = _
  cases hk : G.key b with
  | none => rfl
  | some k => obtain ⟨i, rfl⟩ := h k hk; rfl
theorem RR.leave {G' : Gh} {hp' : Nat → Ob} {nx' : Nat} {w' : World} (R : RR w0 mu G look m nt tm w) (H : HH w (enOf G m) G' hp' nx' w') :
    RR w0 mu (G.join G') look { m with hp := hp', nx := nx' } nt tm w' ∧ (∀ x v, VR G' hp' nx' w' x v → VR (G.join G') hp' nx' w' x v) := by
  have J : Step G' hp' nx' w' (G.join G') hp' nx' w' := step_key _ _ rfl rfl rfl
  have S0 : Step G m.hp m.nx w G' hp' nx' w' := (step_key G G.ids rfl rfl rfl).trans H.ent
  have S : Step G m.hp m.nx w (G.join G') hp' nx' w' := S0.trans J
  have hsame : ∀ b, b < w.heap.size → (∀ i, G.key b ≠ some (.id i)) → w'.heap[b]? = w.heap[b]? := fun b hb hn => H.base b hb (fun h => by obtain ⟨i, hi⟩ := may_of.1 h; exact hn i hi)
  have hold : ∀ b k, G.key b = some k → (∀ i, k ≠ .id i) → w'.heap[b]? = w.heap[b]? ∧ (G.join G').key b = some k := fun b k hk hn => by
    refine ⟨hsame b (R.keyb b k hk).1 (fun i h => by rw [hk] at h; exact hn i (Option.some.inj h)), ?_⟩
    show joinKey (G.key b) (G'.key b) = _
    rw [hk]
    cases k with
    | loc t => rfl
    | mark => rfl
    | id i => exact absurd rfl (hn i)
  have hid : ∀ b, (w.heap.size ≤ b ∨ (enOf G m).may b) → (∀ k, G.key b = some k → ∃ i, k = .id i) := fun b h k hk => by
    rcases h with h | h
    · have := (R.keyb b k hk).1; omega
    · obtain ⟨i, hi⟩ := may_of.1 h
      rw [hi] at hk; exact ⟨i, (Option.some.inj hk).symm⟩
  have hent : ∀ b, (w.heap.size ≤ b ∨ (enOf G m).may b) → w0.heap.size ≤ b ∨ mu.may b := fun b h => by
    rcases h with h | h
    · exact .inl (Nat.le_trans R.grow h)
    · obtain ⟨i, hi⟩ := may_of.1 h; exact (R.keyb b _ hi).2
  refine ⟨{
    size := R.size
    slots := fun s => AR.step S (fun _ _ _ _ => rfl) (R.slots s)
    locs := fun s t off c0 h => LocR.step (m' := { m with hp := hp', nx := nx' }) S rfl rfl (fun b hb => hold b _ hb (by simp)) (R.locs s t off c0 h)
    objs := fun id hidn => ObR.step J rfl rfl (fun b hb => ⟨rfl, by rw [join_key (hid b (H.keyb b _ hb).2)]; exact hb⟩) (H.objs id hidn)
    okb := fun b h => ?_
    keyb := fun b k h => ?_
    os := H.os.trans R.os
    tape := H.tape.trans R.tape
    out := H.out.trans R.out
    grow := Nat.le_trans R.grow H.grow
    base := fun b hb hm => ?_
    ent := R.ent.trans S
    oks := fun b h => ?_
    mks := fun b hb => ?_ }, fun x v h => h.step J⟩
  · have hb := H.okb b h
    refine ⟨hb.1, ?_⟩
    rw [join_key (fun k hk => ?_)]
    · exact hb.2
    · rcases H.oks b h with h1 | h1 | h1
      · exact hid b (.inl h1) k hk
      · exact hid b (.inr h1) k hk
      · have := (R.okb b h1).2; rw [this] at hk; cases hk
  · by_cases hc : ∃ i, G.key b = some (.id i) ∨ G.key b = none
    · have hk : (G.join G').key b = G'.key b := join_key (fun k hk => by
        obtain ⟨i, h1 | h1⟩ := hc
        · rw [h1] at hk; exact ⟨i, (Option.some.inj hk).symm⟩
        · rw [h1] at hk; cases hk)
      rw [hk] at h
      obtain ⟨h1, h2⟩ := H.keyb b k h
      exact ⟨h1, hent b h2⟩
    · cases hk : G.key b with
      | none => exact absurd ⟨0, .inr hk⟩ hc
      | some q =>
        have h2 := R.keyb b q hk
        exact ⟨Nat.lt_of_lt_of_le h2.1 H.grow, h2.2⟩
  · rw [hsame b (Nat.lt_of_lt_of_le hb R.grow) (fun i hi => ?_)]
    · exact R.base b hb hm
    · rcases (R.keyb b _ hi).2 with h | h
      · omega
      · exact hm h
  · rcases H.oks b h with h1 | h1 | h1
    · exact .inl (Nat.le_trans R.grow h1)
    · rcases hent b (.inr h1) with h2 | h2
      · exact .inl h2
      · exact .inr (.inl h2)
    · exact R.oks b h1
  · have h1 := R.mks b hb
    have h2 := hold b _ h1.1 (by simp)
    exact ⟨h2.2, h2.1.trans h1.2⟩
def killKey (ks : List Nat) : Option Key → Option Key
  | some (.id i) => if i ∈ ks then none else some (.id i)
  | k => k
def Gh.kill (G : Gh) (ks : List Nat) : Gh :=
  { G with ok := fun b => G.ok b ∨ ∃ i ∈ ks, G.key b = some (.id i), key := fun b => killKey ks (G.key b) }
theorem cellsAt_row {b o : Nat} {cs : Array Value} {el : TypeId} {fr : Nat × Nat} (h : w.heap[b]? = some (.cells cs el fr)) {vs : List Value} (hv : ∀ (j : Nat) (v : Value), vs[j]? = some v → cs[o + j]? = some v) : CellsAt w ⟨b, o, none⟩ vs :=
  fun j v hj => by rw [add_lit, cell_row h]; exact hv j v hj
theorem killHp_ne (ks : List Nat) : ∀ (hp : Nat → Ob) (i : Nat), i ∉ ks → killHp ks hp i = hp i := by
  induction ks with
  | nil => intros; rfl
  | cons k ks ih =>
    intro hp i h
    simp only [List.mem_cons, not_or] at h
    show killHp ks (upd hp k (froOb (hp k))) i = _
    rw [ih _ _ h.2, upd_ne _ _ h.1]
theorem froOb_idem (o : Ob) : froOb (froOb o) = froOb o := by cases o <;> rfl
theorem killHp_mem (ks : List Nat) : ∀ (hp : Nat → Ob) (i : Nat), i ∈ ks → killHp ks hp i = froOb (hp i) := by
  induction ks with
  | nil => intro _ _ h; cases h
  | cons k ks ih =>
    intro hp i h
    show killHp ks (upd hp k (froOb (hp k))) i = _
    have hu : froOb (upd hp k (froOb (hp k)) i) = froOb (hp i) := by
      by_cases e : i = k
      · subst e; rw [upd_same, froOb_idem]
      · rw [upd_ne _ _ e]
    by_cases hi : i ∈ ks
    · rw [ih _ _ hi, hu]
    · rw [killHp_ne _ _ _ hi]
      rcases List.mem_cons.1 h with h | h
      · subst h; rw [upd_same]
      · exact absurd h hi
theorem RR.kill (R : RR w0 mu G look m nt tm w) (ks : List Nat) :
    RR w0 mu (G.kill ks) look { m with hp := killHp ks m.hp } nt tm w ∧ Step G m.hp m.nx w (G.kill ks) (killHp ks m.hp) m.nx w := by
  have hcase : ∀ i, (i ∈ ks ∧ killHp ks m.hp i = froOb (m.hp i)) ∨ (i ∉ ks ∧ killHp ks m.hp i = m.hp i) := fun i => by
    by_cases h : i ∈ ks
    · exact .inl ⟨h, killHp_mem ks _ _ h⟩
    · exact .inr ⟨h, killHp_ne ks _ _ h⟩
  have hfro : ∀ o e xs, froOb o = .arr e xs ∨ froOb o = .fro e xs → o = .arr e xs ∨ o = .fro e xs := fun o e xs h => by
    cases o <;> rcases h with h | h <;> first | (cases h; done) | (cases h; exact .inl rfl) | (cases h; exact .inr rfl)
  have S : Step G m.hp m.nx w (G.kill ks) (killHp ks m.hp) m.nx w := by
    refine ⟨fun b h => .inl h, fun _ _ => rfl, Nat.le_refl _, fun id _ e xs h => ?_, fun id _ c h => ?_, fun id _ h => ?_⟩
    · rcases hcase id with ⟨_, h1⟩ | ⟨_, h1⟩
      · rw [h1] at h; exact ⟨xs, hfro _ _ _ h, Nat.le_refl _, fun _ => rfl⟩
      · rw [h1] at h; exact ⟨xs, h, Nat.le_refl _, fun _ => rfl⟩
    · rcases hcase id with ⟨_, h1⟩ | ⟨_, h1⟩
      · rw [h1] at h; generalize m.hp id = o at h; cases o <;> cases h
      · rw [h1] at h; exact ⟨c, h, rfl⟩
    · rcases hcase id with ⟨_, h1⟩ | ⟨_, h1⟩
      · rw [h1] at h; generalize m.hp id = o at h; cases o <;> exact absurd rfl h
      · rw [h1]; exact ⟨rfl, rfl⟩
  have hk : ∀ b k, G.key b = some k → (∀ i ∈ ks, k ≠ .id i) → (G.kill ks).key b = some k := fun b k h hn => by
    show killKey ks (G.key b) = _
    rw [h]
    cases k with
    | loc t => rfl
    | mark => rfl
    | id i => exact if_neg (fun hm => hn i hm rfl)
  have hk2 : ∀ b k, (G.kill ks).key b = some k → G.key b = some k := fun b k h => by
    have h' : killKey ks (G.key b) = some k := h
    unfold killKey at h'
    split at h'
    · rename_i hg
      split at h'
      · cases h'
      · rw [hg]; exact h'
    · exact h'
  refine ⟨{
    size := R.size
    slots := fun s => AR.step S (fun _ _ _ _ => rfl) (R.slots s)
    locs := fun s t off c0 h => LocR.step (m' := { m with hp := killHp ks m.hp }) S rfl rfl (fun b hb => ⟨rfl, hk b _ hb (by simp)⟩) (R.locs s t off c0 h)
    objs := fun id hid => ?_
    okb := fun b h => ?_
    keyb := fun b k h => R.keyb b k (hk2 b k h)
    os := R.os
    tape := R.tape
    out := R.out
    grow := R.grow
    base := R.base
    ent := R.ent.trans S
    oks := fun b h => ?_
    mks := fun b hb => ⟨hk b _ (R.mks b hb).1 (by simp), (R.mks b hb).2⟩ }, S⟩
  · rcases hcase id with ⟨hm, h1⟩ | ⟨hn, h1⟩
    · show ObR _ _ _ _ _ (killHp ks m.hp id); rw [h1]
      have hob := R.objs id hid
      generalize m.hp id = o at hob
      cases o with
      | arr e xs =>
        obtain ⟨h0, a, c, e1, e2, e3, e4⟩ := hob
        rcases e4 with e4 | ⟨b, cur, el, g1, g2, g3, g4, g5⟩
        · have : xs = [] := List.eq_nil_of_length_eq_zero (by omega)
          subst this
          exact ⟨h0, a, c, e1, e2, fun h => absurd rfl h, .nil⟩
        · obtain ⟨news, c1, c2⟩ := (g5.step S).cat
          refine ⟨h0, a, c, e1, e2, fun _ => ⟨b, g1⟩, ?_⟩
          rw [g1]
          exact c1.er (cellsAt_row g3 (fun j v hj => by simpa using c2 j v hj)) (.inr ⟨id, hm, g2⟩)
      | fro e xs =>
        obtain ⟨h0, a, c, e1, e2, e3, e4⟩ := hob
        exact ⟨h0, a, c, e1, e2, e3, e4.step S⟩
      | _ => trivial
    · show ObR _ _ _ _ _ (killHp ks m.hp id)
      rw [h1]
      exact ObR.step S rfl rfl (fun b hb => ⟨rfl, hk b _ hb (fun i hi e => by cases e; exact hn hi)⟩) (R.objs id hid)
  · rcases h with h | ⟨i, hi, hkey⟩
    · refine ⟨(R.okb b h).1, ?_⟩
      show killKey ks (G.key b) = _
      rw [(R.okb b h).2]; rfl
    · refine ⟨(R.keyb b _ hkey).1, ?_⟩
      show killKey ks (G.key b) = _
      rw [hkey]; exact if_pos hi
  · rcases h with h | ⟨i, hi, hkey⟩
    · exact R.oks b h
    · rcases (R.keyb b _ hkey).2 with h | h
      · exact .inl h
      · exact .inr (.inl h)
mutual
theorem VR.closed {G' : Gh} {hp hp' : Nat → Ob} {nx nx' : Nat} {w' : World} (hok : ∀ b, G.ok b → G'.ok b ∧ w'.heap[b]? = w.heap[b]?) : ∀ {x : Vl} {v : Value}, VR G hp nx w x v → x.closed = true → VR G' hp' nx' w' x v
  | _, _, .int k n, _ => .int k n
  | _, _, .bool b, _ => .bool b
  | _, _, .str s, _ => .str s
  | _, _, .agg h, c => .agg (VRs.closed hok h c)
  | _, _, .tup h, c => .tup (VRt.closed hok h c)
  | _, _, .nils, _ => .nils
  | _, _, .lst h1 h2 h3 h4, c => .lst h1 h2 h3 (ER.closed hok h4 c)
  | _, _, .own _ _ _ _, c => by cases c
  | _, _, .fp (b := b) h1 h2 h3 h4, c => .fp (VRs.closed hok h1 (by
      have c : b.closed = true := c
      cases b with
      | agg cs => exact c
      | _ => simp_all [Vl.cells, closedL])) (h2.mono (hok _ h3).2) (hok _ h3).1 h4
  | _, _, .ep _ _ _, c => by cases c
  | _, _, .bp _ _ _, c => by cases c
  | _, _, .nilp, _ => .nilp
  | _, _, .nilf, _ => .nilf
  | _, _, .nili, _ => .nili
  | _, _, .nilm, _ => .nilm
  | _, _, .fn (fs := fs) (cs := cs) h1 h2, c => by
      have c : (closedL fs && closedL cs) = true := c
      rw [Bool.and_eq_true] at c
      exact .fn (VRt.closed hok h1 c.1) (VRt.closed hok h2 c.2)
  | _, _, .ifc h, c => .ifc (VR.closed hok h c)
  | _, _, .mp _ _, c => by cases c
  | _, _, .yld _ _, c => by cases c
  | _, _, .undef v, _ => .undef v
theorem VRs.closed {G' : Gh} {hp hp' : Nat → Ob} {nx nx' : Nat} {w' : World} (hok : ∀ b, G.ok b → G'.ok b ∧ w'.heap[b]? = w.heap[b]?) : ∀ {x : List Vl} {v : List Value}, VRs G hp nx w x v → closedL x = true → VRs G' hp' nx' w' x v
  | _, _, .nil, _ => .nil
  | _, _, .cons (x := x) (xs := xs) h c t, hc => by
      have hc : (x.closed && closedL xs) = true := hc
      rw [Bool.and_eq_true] at hc
      exact .cons (VR.closed hok h hc.1) c (VRs.closed hok t hc.2)
theorem VRt.closed {G' : Gh} {hp hp' : Nat → Ob} {nx nx' : Nat} {w' : World} (hok : ∀ b, G.ok b → G'.ok b ∧ w'.heap[b]? = w.heap[b]?) : ∀ {x : List Vl} {v : List Value}, VRt G hp nx w x v → closedL x = true → VRt G' hp' nx' w' x v
  | _, _, .nil, _ => .nil
  | _, _, .cons (x := x) (xs := xs) h t, hc => by
      have hc : (x.closed && closedL xs) = true := hc
      rw [Bool.and_eq_true] at hc
      exact .cons (VR.closed hok h hc.1) (VRt.closed hok t hc.2)
theorem ER.closed {G' : Gh} {hp hp' : Nat → Ob} {nx nx' : Nat} {w' : World} (hok : ∀ b, G.ok b → G'.ok b ∧ w'.heap[b]? = w.heap[b]?) : ∀ {e : Nat} {x : List Vl} {v : Option Addr}, ER G hp nx w e x v → closedL x = true → ER G' hp' nx' w' e x v
  | _, _, _, .nil, _ => .nil
  | _, _, _, .cons (x := x) (xs := xs) h1 h2 h4 h5 h6, hc => by
      have hc : (x.closed && closedL xs) = true := hc
      rw [Bool.and_eq_true] at hc
      exact .cons (VRs.closed hok h1 (by
        have c := hc.1
        cases x with
        | agg cs => exact c
        | _ => simp_all [Vl.cells, closedL])) h2 (h4.mono (hok _ h5).2) (hok _ h5).1 (ER.closed hok h6 hc.2)
end
theorem cells_closed {x : Vl} (h : x.closed = true) : closedL x.cells = true := by
  cases x with
  | agg cs => exact h
  | _ => simp_all [Vl.cells, closedL]
theorem Cat.closed {G' : Gh} {hp hp' : Nat → Ob} {nx nx' : Nat} {w' : World} {e : Nat} (hok : ∀ b, G.ok b → G'.ok b ∧ w'.heap[b]? = w.heap[b]?) {xs : List Vl} {news : List Value} (h : Cat G hp nx w e xs news) (hc : closedL xs = true) : Cat G' hp' nx' w' e xs news := by
  induction h with
  | nil => exact .nil
  | cons h1 h2 h3 ih =>
    simp only [closedL, Bool.and_eq_true] at hc
    exact .cons (h1.closed hok (cells_closed hc.1)) h2 (ih hc.2)
section
variable {G' : Gh} {hp' : Nat → Ob} {nx' : Nat}
def InnOk (G : Gh) (hp : Nat → Ob) (nx : Nat) (w : World) (G' : Gh) (hp' : Nat → Ob) (nx' : Nat) (inn : Vl → Option (Vl × List Nat)) : Prop :=
  ∀ x y ks, inn x = some (y, ks) → (∀ i ∈ ks, ∀ b, G.key b = some (.id i) → G'.ok b) →
    (∀ v, VR G hp nx w x v → VR G' hp' nx' w y v ∧ y.closed = true) ∧ (∀ vs, VRs G hp nx w x.cells vs → VRs G' hp' nx' w y.cells vs ∧ y.closed = true)
theorem closedV_ok {hp : Nat → Ob} {nx : Nat} (hok : ∀ b, G.ok b → G'.ok b) : InnOk G hp nx w G' hp' nx' closedV := by
  intro x y ks h _
  unfold closedV at h
  split at h
  · rename_i hc
    cases h
    exact ⟨fun v hv => ⟨hv.closed (fun b h => ⟨hok b h, rfl⟩) hc, hc⟩, fun vs hv => ⟨hv.closed (fun b h => ⟨hok b h, rfl⟩) (cells_closed hc), hc⟩⟩
  · cases h
theorem mapR_cat {hp : Nat → Ob} {nx : Nat} {inn : Vl → Option (Vl × List Nat)} (hi : InnOk G hp nx w G' hp' nx' inn) {e : Nat} : ∀ {xs ys : List Vl} {ks : List Nat} {news : List Value}, mapR inn xs = some (ys, ks) →
    (∀ i ∈ ks, ∀ b, G.key b = some (.id i) → G'.ok b) → Cat G hp nx w e xs news → Cat G' hp' nx' w e ys news ∧ closedL ys = true ∧ ys.length = xs.length
  | [], ys, ks, news, h, _, hc => by cases h; cases hc; exact ⟨.nil, rfl, rfl⟩
  | x :: xs, ys, ks, news, h, hk, hc => by
    simp only [mapR] at h
    obtain ⟨r, h1, h⟩ := Option.bind_eq_some_iff.1 h
    rw [Option.map_eq_some_iff] at h
    obtain ⟨q, h2, h3⟩ := h
    cases h3
    cases hc with | cons c1 c2 c3 =>
    obtain ⟨a1, a2⟩ := hi x r.1 r.2 h1 (fun i hi => hk i (by simp [hi]))
    obtain ⟨b1, b2, b3⟩ := mapR_cat hi (ks := q.2) h2 (fun i hi => hk i (by simp [hi])) c3
    obtain ⟨hv, a3⟩ := a2 _ c1
    refine ⟨.cons hv (by have := hv.length; have := c1.length; simp only [Vl.size] at c2 ⊢; omega) b1, by simp [closedL, a3, b2], by simp [b3]⟩
theorem mapR_er {hp : Nat → Ob} {nx : Nat} {inn : Vl → Option (Vl × List Nat)} (hok : ∀ b, G.ok b → G'.ok b) (hi : InnOk G hp nx w G' hp' nx' inn) {e : Nat} : ∀ {xs ys : List Vl} {ks : List Nat} {a : Option Addr}, mapR inn xs = some (ys, ks) →
    (∀ i ∈ ks, ∀ b, G.key b = some (.id i) → G'.ok b) → ER G hp nx w e xs a → ER G' hp' nx' w e ys a ∧ closedL ys = true ∧ ys.length = xs.length
  | [], ys, ks, a, h, _, hc => by cases h; exact ⟨.nil, rfl, rfl⟩
  | x :: xs, ys, ks, a, h, hk, hc => by
    simp only [mapR] at h
    obtain ⟨r, h1, h⟩ := Option.bind_eq_some_iff.1 h
    rw [Option.map_eq_some_iff] at h
    obtain ⟨q, h2, h3⟩ := h
    cases h3
    cases hc with | cons c1 c2 c4 c5 c6 =>
    obtain ⟨a1, a2⟩ := hi x r.1 r.2 h1 (fun i hi => hk i (by simp [hi]))
    obtain ⟨b1, b2, b3⟩ := mapR_er hok hi (ks := q.2) h2 (fun i hi => hk i (by simp [hi])) c6
    obtain ⟨hv, a3⟩ := a2 _ c1
    exact ⟨.cons hv (by have := hv.length; have := c1.length; simp only [Vl.size] at c2 ⊢; omega) c4 (hok _ c5) b1, by simp [closedL, a3, b2], by simp [b3]⟩
mutual
theorem reifyF_rel {inn : Vl → Option (Vl × List Nat)} (R : RR w0 mu G look m nt tm w) (hok : ∀ b, G.ok b → G'.ok b) (hi : InnOk G m.hp m.nx w G' hp' nx' inn) : ∀ {x : Vl} {v : Value} {y : Vl} {ks : List Nat}, reifyF inn m.hp x = some (y, ks) →
    (∀ i ∈ ks, ∀ b, G.key b = some (.id i) → G'.ok b) → VR G m.hp m.nx w x v → VR G' hp' nx' w y v ∧ y.closed = true
  | .own id n, v, y, ks, h, hk, hv => by
    cases hv with | own h1 h2 h3 h4 =>
    have hob := R.objs id h1
    simp only [reifyF] at h
    split at h
    · rename_i e xs ho
      split at h
      case isFalse => cases h
      rename_i hn
      rw [Option.map_eq_some_iff] at h
      obtain ⟨r, hr, h⟩ := h
      cases h
      rw [ho] at hob
      obtain ⟨h0, a', c', e1, e2, e3, e4⟩ := hob
      obtain ⟨f1, f2⟩ := h3 _ _ (.inl ho)
      rw [f2 hn.symm] at e1
      cases e1
      rcases e4 with e4 | ⟨b, cur, el, g1, g2, g3, g4, g5⟩
      · have : xs = [] := List.eq_nil_of_length_eq_zero (by omega)
        subst this
        cases hr
        exact ⟨.lst hn.symm h2 (by simp) .nil, rfl⟩
      · obtain ⟨news, c1, c2⟩ := g5.cat
        obtain ⟨d1, d2, d3⟩ := mapR_cat hi hr (fun i hi => hk i (by simp [hi])) c1
        refine ⟨.lst (by omega) h2 (by simp) ?_, d2⟩
        rw [g1]
        exact d1.er (cellsAt_row g3 (fun j v hj => by simpa using c2 j v hj)) (hk _ (by simp) _ g2)
    · rename_i e xs ho
      split at h
      case isFalse => cases h
      rename_i hn
      rw [Option.map_eq_some_iff] at h
      obtain ⟨r, hr, h⟩ := h
      cases h
      rw [ho] at hob
      obtain ⟨h0, a', c', e1, e2, e3, e4⟩ := hob
      obtain ⟨f1, f2⟩ := h3 _ _ (.inr ho)
      rw [f2 hn.symm] at e1
      cases e1
      obtain ⟨d1, d2, d3⟩ := mapR_er hok hi hr (fun i hi => hk i (by simp [hi])) e4
      exact ⟨.lst (by omega) h2 (by simp) d1, d2⟩
    · cases h
  | .ep id n i off, v, y, ks, h, hk, hv => by
    cases hv with | ep h1 h2 h3 =>
    have hob := R.objs id h1
    simp only [reifyF] at h
    split at h
    · rename_i e xs ho
      split at h
      case isFalse => cases h
      rename_i hn
      obtain ⟨x, hx, h⟩ := Option.bind_eq_some_iff.1 h
      rw [Option.map_eq_some_iff] at h
      obtain ⟨r, hr, h⟩ := h
      cases h
      obtain ⟨a1, a2⟩ := hi x r.1 r.2 hr (fun i hi => hk i (by simp [hi]))
      rw [ho] at hob
      obtain ⟨h0, a', c', e1, e2, e3, e4⟩ := hob
      obtain ⟨f1, f2⟩ := h3 _ _ (.inl ho)
      obtain ⟨b, mm, cc, q1, rfl⟩ := f2 hn.symm
      rw [q1] at e1
      cases e1
      rcases e4 with e4 | ⟨b', cur, el, g1, g2, g3, g4, g5⟩
      · omega
      · cases g1
        obtain ⟨vs, k1, k2, k3⟩ := g5 i x hx
        exact ⟨.fp (a := ⟨b, i * e, none⟩) (a2 _ k1).1 (cellsAt_row g3 k3) (hk _ (by simp) _ g2) (by rw [add_lit]), (a2 _ k1).2⟩
    · rename_i e xs ho
      split at h
      case isFalse => cases h
      rename_i hn
      obtain ⟨x, hx, h⟩ := Option.bind_eq_some_iff.1 h
      rw [Option.map_eq_some_iff] at h
      obtain ⟨r, hr, h⟩ := h
      cases h
      obtain ⟨a1, a2⟩ := hi x r.1 r.2 hr (fun i hi => hk i (by simp [hi]))
      rw [ho] at hob
      obtain ⟨h0, a', c', e1, e2, e3, e4⟩ := hob
      obtain ⟨f1, f2⟩ := h3 _ _ (.inr ho)
      obtain ⟨b, mm, cc, q1, rfl⟩ := f2 hn.symm
      rw [q1] at e1
      cases e1
      obtain ⟨ad, vs, k1, k2, k3, k4, k5⟩ := e4.get i x hx
      cases k1
      rw [add_lit, Nat.zero_add] at k4
      exact ⟨.fp (a := ⟨b, i * e, none⟩) (a2 _ k2).1 k4 (hok _ k5) (by rw [add_lit]), (a2 _ k2).2⟩
    · cases h
  | .bp id off, v, y, ks, h, hk, hv => by
    cases hv with | bp h1 h2 _ =>
    have hob := R.objs id h1
    simp only [reifyF] at h
    split at h
    case h_2 => cases h
    rename_i c ho
    rw [Option.map_eq_some_iff] at h
    obtain ⟨r, hr, h⟩ := h
    cases h
    obtain ⟨a1, a2⟩ := hi c r.1 r.2 hr (fun i hi => hk i (by simp [hi]))
    rw [ho] at hob
    obtain ⟨vs, el, k1, k2, k3⟩ := hob
    rw [h2 c ho]
    exact ⟨.fp (a := ⟨G.bb id, 0, none⟩) (a2 _ k1).1 (cellsAt_row k2 (fun j v hj => by simpa using hj)) (hk _ (by simp) _ k3) (by rw [add_lit, Nat.zero_add]), (a2 _ k1).2⟩
  | .agg cs, v, y, ks, h, hk, hv => by
    cases hv with | agg hv =>
    simp only [reifyF, Option.map_eq_some_iff] at h
    obtain ⟨r, h1, h2⟩ := h
    cases h2
    obtain ⟨k1, k2⟩ := reifyL_rel R hok hi (ks := r.2) h1 hk hv
    exact ⟨.agg k1, k2⟩
  | .tup cs, v, y, ks, h, hk, hv => by
    cases hv with | tup hv =>
    simp only [reifyF, Option.map_eq_some_iff] at h
    obtain ⟨r, h1, h2⟩ := h
    cases h2
    obtain ⟨k1, k2⟩ := reifyT_rel R hok hi (ks := r.2) h1 hk hv
    exact ⟨.tup k1, k2⟩
  | .fn f a b, v, y, ks, h, hk, hv => by
    cases hv with | fn ha hb =>
    simp only [reifyF] at h
    obtain ⟨r, h1, h⟩ := Option.bind_eq_some_iff.1 h
    rw [Option.map_eq_some_iff] at h
    obtain ⟨q, h2, h3⟩ := h
    cases h3
    obtain ⟨k1, k2⟩ := reifyT_rel R hok hi (ks := r.2) h1 (fun i hi => hk i (by simp [hi])) ha
    obtain ⟨k3, k4⟩ := reifyT_rel R hok hi (ks := q.2) h2 (fun i hi => hk i (by simp [hi])) hb
    exact ⟨.fn k1 k3, by simp [Vl.closed, k2, k4]⟩
  | .ifc t x, v, y, ks, h, hk, hv => by
    cases hv with | ifc hv =>
    simp only [reifyF, Option.map_eq_some_iff] at h
    obtain ⟨r, h1, h2⟩ := h
    cases h2
    obtain ⟨k1, k2⟩ := reifyF_rel R hok hi (ks := r.2) h1 hk hv
    exact ⟨.ifc k1, k2⟩
  | .lst e xs b, v, y, ks, h, hk, hv => by
    simp only [reifyF] at h
    split at h
    case isFalse => cases h
    rename_i hc
    cases h
    exact ⟨hv.closed (fun b h => ⟨hok b h, rfl⟩) hc, hc⟩
  | .fp b off, v, y, ks, h, hk, hv => by
    simp only [reifyF] at h
    split at h
    case isFalse => cases h
    rename_i hc
    cases h
    exact ⟨hv.closed (fun b h => ⟨hok b h, rfl⟩) hc, hc⟩
  | .mp _, v, y, ks, h, hk, hv => by cases h
  | .yld _, v, y, ks, h, hk, hv => by cases h
  | .loc _, v, y, ks, h, hk, hv => by cases h
  | .int k n, v, y, ks, h, hk, hv => by cases h; exact ⟨hv.closed (fun b h => ⟨hok b h, rfl⟩) rfl, rfl⟩
  | .bool k, v, y, ks, h, hk, hv => by cases h; exact ⟨hv.closed (fun b h => ⟨hok b h, rfl⟩) rfl, rfl⟩
  | .str k, v, y, ks, h, hk, hv => by cases h; exact ⟨hv.closed (fun b h => ⟨hok b h, rfl⟩) rfl, rfl⟩
  | .nils, v, y, ks, h, hk, hv => by cases h; exact ⟨hv.closed (fun b h => ⟨hok b h, rfl⟩) rfl, rfl⟩
  | .nilp, v, y, ks, h, hk, hv => by cases h; exact ⟨hv.closed (fun b h => ⟨hok b h, rfl⟩) rfl, rfl⟩
  | .nilf, v, y, ks, h, hk, hv => by cases h; exact ⟨hv.closed (fun b h => ⟨hok b h, rfl⟩) rfl, rfl⟩
  | .nili, v, y, ks, h, hk, hv => by cases h; exact ⟨hv.closed (fun b h => ⟨hok b h, rfl⟩) rfl, rfl⟩
  | .nilm, v, y, ks, h, hk, hv => by cases h; exact ⟨hv.closed (fun b h => ⟨hok b h, rfl⟩) rfl, rfl⟩
  | .undef, v, y, ks, h, hk, hv => by cases h; exact ⟨hv.closed (fun b h => ⟨hok b h, rfl⟩) rfl, rfl⟩
theorem reifyL_rel {inn : Vl → Option (Vl × List Nat)} (R : RR w0 mu G look m nt tm w) (hok : ∀ b, G.ok b → G'.ok b) (hi : InnOk G m.hp m.nx w G' hp' nx' inn) : ∀ {x : List Vl} {v : List Value} {y : List Vl} {ks : List Nat}, reifyL inn m.hp x = some (y, ks) → (∀ i ∈ ks, ∀ b, G.key b = some (.id i) → G'.ok b) →
    VRs G m.hp m.nx w x v → VRs G' hp' nx' w y v ∧ closedL y = true
  | [], v, y, ks, h, hk, hv => by
    cases h; cases hv; exact ⟨.nil, rfl⟩
  | x :: xs, v, y, ks, h, hk, hv => by
    cases hv with | cons hx hc ht =>
    simp only [reifyL] at h
    obtain ⟨r, h1, h⟩ := Option.bind_eq_some_iff.1 h
    rw [Option.map_eq_some_iff] at h
    obtain ⟨q, h2, h3⟩ := h
    cases h3
    obtain ⟨k1, k2⟩ := reifyF_rel R hok hi (ks := r.2) h1 (fun i hi => hk i (by simp [hi])) hx
    obtain ⟨k3, k4⟩ := reifyL_rel R hok hi (ks := q.2) h2 (fun i hi => hk i (by simp [hi])) ht
    exact ⟨.cons k1 hc k3, by simp [closedL, k2, k4]⟩
theorem reifyT_rel {inn : Vl → Option (Vl × List Nat)} (R : RR w0 mu G look m nt tm w) (hok : ∀ b, G.ok b → G'.ok b) (hi : InnOk G m.hp m.nx w G' hp' nx' inn) : ∀ {x : List Vl} {v : List Value} {y : List Vl} {ks : List Nat}, reifyL inn m.hp x = some (y, ks) → (∀ i ∈ ks, ∀ b, G.key b = some (.id i) → G'.ok b) →
    VRt G m.hp m.nx w x v → VRt G' hp' nx' w y v ∧ closedL y = true
  | [], v, y, ks, h, hk, hv => by
    cases h; cases hv; exact ⟨.nil, rfl⟩
  | x :: xs, v, y, ks, h, hk, hv => by
    cases hv with | cons hx ht =>
    simp only [reifyL] at h
    obtain ⟨r, h1, h⟩ := Option.bind_eq_some_iff.1 h
    rw [Option.map_eq_some_iff] at h
    obtain ⟨q, h2, h3⟩ := h
    cases h3
    obtain ⟨k1, k2⟩ := reifyF_rel R hok hi (ks := r.2) h1 (fun i hi => hk i (by simp [hi])) hx
    obtain ⟨k3, k4⟩ := reifyT_rel R hok hi (ks := q.2) h2 (fun i hi => hk i (by simp [hi])) ht
    exact ⟨.cons k1 k3, by simp [closedL, k2, k4]⟩
end
theorem reifyF_ok {inn : Vl → Option (Vl × List Nat)} (R : RR w0 mu G look m nt tm w) (hok : ∀ b, G.ok b → G'.ok b) (hi : InnOk G m.hp m.nx w G' hp' nx' inn) : InnOk G m.hp m.nx w G' hp' nx' (reifyF inn m.hp) := by
  intro x y ks h hk
  refine ⟨fun v hv => reifyF_rel R hok hi h hk hv, fun vs hv => ?_⟩
  by_cases hagg : ∃ cs, x = .agg cs
  · obtain ⟨cs, rfl⟩ := hagg
    have := reifyF_rel (G' := G') (hp' := hp') (nx' := nx') R hok hi h hk (.agg hv)
    simp only [reifyF, Option.map_eq_some_iff] at h
    obtain ⟨q, _, e3⟩ := h
    have e3 : y = .agg q.1 := (congrArg Prod.fst e3).symm
    rw [e3] at this ⊢
    obtain ⟨h1, h2⟩ := this
    cases h1 with | agg h1 => exact ⟨h1, h2⟩
  · have hc1 : x.cells = [x] := by cases x <;> first | rfl | exact absurd ⟨_, rfl⟩ hagg
    rw [hc1] at hv
    cases hv with | cons g1 g2 g3 =>
    cases g3
    have := reifyF_rel (G' := G') (hp' := hp') (nx' := nx') R hok hi h hk g1
    have hc2 : y.cells = [y] := by
      have hv2 := this.1
      clear h
      cases hv2 <;> first | rfl | (exact absurd g2 (by simp [isCell]))
    rw [hc2]
    exact ⟨.cons this.1 g2 .nil, this.2⟩
theorem reify_rel (R : RR w0 mu G look m nt tm w) (hok : ∀ b, G.ok b → G'.ok b) {x : Vl} {v : Value} {y : Vl} {ks : List Nat} (h : reify m.hp x = some (y, ks)) (hk : ∀ i ∈ ks, ∀ b, G.key b = some (.id i) → G'.ok b)
    (hv : VR G m.hp m.nx w x v) : VR G' hp' nx' w y v ∧ y.closed = true :=
  reifyF_rel R hok (reifyF_ok R hok (reifyF_ok R hok (closedV_ok hok))) h hk hv
end
end
end Go.Idl
namespace Go.Idl
open Go.RowKit
section
variable {P : Program} {w0 : World} {mu : En} {G : Gh} {look : Nat → Arg} {m : Mem} {nt : Nat} {tm : Array Value} {w : World}
theorem RR.newBox {z : Vl} {vs : List Value} {el : TypeId} (R : RR w0 mu G look m nt tm w) (hV : VRs G m.hp m.nx w z.cells vs) :
    ∃ G', RR w0 mu G' look { m with hp := upd m.hp m.nx (.box z), nx := m.nx + 1 } nt tm (w.alloc (.cells vs.toArray el)) ∧
      VR G' (upd m.hp m.nx (.box z)) (m.nx + 1) (w.alloc (.cells vs.toArray el)) (.bp m.nx 0) (.pointer (some ⟨w.heap.size, 0, none⟩)) := by
  have S := step_row_new R (.box z) (.cells vs.toArray el)
  refine ⟨_, R.newRow ⟨vs, el, hV.step S, ?_, ?_⟩, .bp (Nat.lt_succ_self _) (fun c h => ?_) (fun h => ?_)⟩
  · show (w.alloc _).heap[upd G.bb m.nx w.heap.size m.nx]? = _; rw [upd_same]; exact heap_self w _
  · show upd G.key _ _ (upd G.bb m.nx w.heap.size m.nx) = _; rw [upd_same, upd_same]
  · show _ = (⟨upd G.bb m.nx w.heap.size m.nx, 0, none⟩ : Addr); rw [upd_same]
  · rw [upd_same] at h; cases h
theorem RR.newBld {t e : TypeId} (R : RR w0 mu G look m nt tm w) :
    ∃ G', RR w0 mu G' look { m with hp := upd m.hp m.nx (.bld t e []), nx := m.nx + 1 } nt tm (w.alloc (.cells #[.pointer none, .slice none 0 0] t)) ∧
      VR G' (upd m.hp m.nx (.bld t e [])) (m.nx + 1) (w.alloc (.cells #[.pointer none, .slice none 0 0] t)) (.bp m.nx 0) (.pointer (some ⟨w.heap.size, 0, none⟩)) := by
  refine ⟨_, R.newRow ⟨_, _, .inl rfl, ?_, ⟨rfl, .inl ⟨rfl, rfl⟩⟩, (fun h => by cases h), ?_, (fun g h => by cases h)⟩, .bp (Nat.lt_succ_self _) (fun c h => ?_) (fun h => ?_)⟩
  · show (w.alloc _).heap[upd G.bb m.nx w.heap.size m.nx]? = _; rw [upd_same]; exact heap_self w _
  · show upd G.key _ _ (upd G.bb m.nx w.heap.size m.nx) = _; rw [upd_same, upd_same]
  · rw [upd_same] at h; cases h
  · show _ = (⟨upd G.bb m.nx w.heap.size m.nx, 0, none⟩ : Addr); rw [upd_same]
theorem RR.turnBld {id : Nat} {o : Ob} {w' : World} (R : RR w0 mu G look m nt tm w) (hid : id < m.nx) (h3 : (m.hp id).rk = 3) (ho : o = .dead ∨ o.rk = 3)
    (key' : Nat → Option Key) (hkey : ∀ b, b < w.heap.size → key' b = G.key b) (hkey2 : ∀ b k, key' b = some k → b < w'.heap.size)
    (hos : w'.os = w.os) (htape : w'.tape = w.tape) (hout : w'.output = w.output) (hgrow : w.heap.size ≤ w'.heap.size)
    (hblk : ∀ b, b < w.heap.size → G.key b ≠ some (.id id) → w'.heap[b]? = w.heap[b]?)
    (hob : ObR { G with key := key' } (upd m.hp id o) m.nx w' id o) :
    RR w0 mu { G with key := key' } look { m with hp := upd m.hp id o } nt tm w' := by
  have hokb : ∀ b, G.ok b → w'.heap[b]? = w.heap[b]? := fun b h => hblk b (R.okb b h).1 (by rw [(R.okb b h).2]; simp)
  have hnot : ∀ c e xs, o ≠ .box c ∧ o ≠ .arr e xs ∧ o ≠ .fro e xs := fun c e xs => by
    rcases ho with rfl | ho
    · simp
    · refine ⟨fun h => ?_, fun h => ?_, fun h => ?_⟩ <;> (rw [h] at ho; cases ho)
  have S : Step G m.hp m.nx w { G with key := key' } (upd m.hp id o) m.nx w' := by
    refine ⟨fun _ h => h, hokb, Nat.le_refl _, fun i hi e' xs' h => ?_, fun i hi c' h => ?_, fun i hi h => ?_⟩
    · by_cases hii : i = id
      · subst hii
        rw [upd_same] at h
        rcases h with h | h
        · exact absurd h (hnot .nils e' xs').2.1
        · exact absurd h (hnot .nils e' xs').2.2
      · rw [upd_ne _ _ hii] at h
        exact ⟨xs', h, Nat.le_refl _, fun _ => rfl⟩
    · by_cases hii : i = id
      · subst hii; rw [upd_same] at h; exact absurd h (hnot c' 0 []).1
      · rw [upd_ne _ _ hii] at h; exact ⟨c', h, rfl⟩
    · by_cases hii : i = id
      · subst hii
        rw [upd_same] at h ⊢
        rcases ho with rfl | ho
        · exact absurd rfl h
        · exact ⟨by rw [h3, ho], rfl⟩
      · rw [upd_ne _ _ hii]; exact ⟨rfl, rfl⟩
  have hk : ∀ (k : Key), k ≠ .id id → ∀ b, G.key b = some k → w'.heap[b]? = w.heap[b]? ∧ key' b = some k := fun k hne b h => by
    have hlt := (R.keyb b k h).1
    exact ⟨hblk b hlt (by rw [h]; simpa using hne), by rw [hkey b hlt]; exact h⟩
  refine ⟨R.size, fun s => AR.step S (fun _ _ _ _ => rfl) (R.slots s), fun s t off c0 h => LocR.step (m' := { m with hp := upd m.hp id o }) S rfl rfl (hk _ (by simp)) (R.locs s t off c0 h), fun i hi => ?_,
    fun b h => ?_, fun b k h => ?_, hos.trans R.os, htape.trans R.tape, hout.trans R.out, Nat.le_trans R.grow hgrow, fun b hb' hm => ?_, R.ent.trans S, R.oks, fun b hb => ⟨(hk .mark (by simp) b (R.mks b hb).1).2, (hk .mark (by simp) b (R.mks b hb).1).1.trans (R.mks b hb).2⟩⟩
  · show ObR { G with key := key' } (upd m.hp id o) m.nx w' i (upd m.hp id o i)
    by_cases hii : i = id
    · subst hii
      rw [upd_same]; exact hob
    · rw [upd_ne _ _ hii]
      exact ObR.step S rfl rfl (hk _ (by simpa using hii)) (R.objs i hi)
  · have := R.okb b h
    exact ⟨Nat.lt_of_lt_of_le this.1 hgrow, by show key' b = none; rw [hkey b this.1]; exact this.2⟩
  · have h' : key' b = some k := h
    refine ⟨hkey2 b k h', ?_⟩
    rcases Nat.lt_or_ge b w.heap.size with hlt | hge
    · rw [hkey b hlt] at h'; exact (R.keyb b k h').2
    · exact .inl (Nat.le_trans R.grow hge)
  · rw [hblk b (Nat.lt_of_lt_of_le hb' R.grow) (fun h => by
      rcases (R.keyb b _ h).2 with h | h
      · omega
      · exact hm h)]
    exact R.base b hb' hm
def Gh.mark (G : Gh) (b : Nat) : Gh := { G with key := upd G.key b (some .mark) }
theorem RR.newMark (R : RR w0 mu G look m nt tm w) : RR w0 { mu with dfs := w.heap.size :: mu.dfs } (G.mark w.heap.size) look m nt tm (w.alloc (.deferred (some []))) := by
  have S : Step G m.hp m.nx w (G.mark w.heap.size) m.hp m.nx (w.alloc (.deferred (some []))) :=
    ⟨fun _ h => h, fun b h => heap_new w _ b (R.okb b h).1, Nat.le_refl _, fun id _ e xs h => ⟨xs, h, Nat.le_refl _, fun _ => rfl⟩, fun id _ c h => ⟨c, h, rfl⟩, fun _ _ _ => ⟨rfl, rfl⟩⟩
  have hk : ∀ (k : Key) b, G.key b = some k → (w.alloc (.deferred (some []))).heap[b]? = w.heap[b]? ∧ (G.mark w.heap.size).key b = some k := fun k b h => by
    have hlt := (R.keyb b k h).1
    exact ⟨heap_new w _ b hlt, by show upd G.key _ _ b = _; rw [upd_ne _ _ (by omega)]; exact h⟩
  exact {
    size := R.size
    slots := fun s => AR.step S (fun _ _ _ _ => rfl) (R.slots s)
    locs := fun s t off c0 h => LocR.step S rfl rfl (hk _) (R.locs s t off c0 h)
    objs := fun id hid => ObR.step S rfl rfl (hk _) (R.objs id hid)
    okb := fun b h => by
      have := R.okb b h
      refine ⟨by simp; omega, ?_⟩
      show upd G.key _ _ b = none; rw [upd_ne _ _ (by omega)]; exact this.2
    keyb := fun b k h => by
      by_cases hb : b = w.heap.size
      · subst hb; exact ⟨by simp, .inl R.grow⟩
      · have h' : upd G.key w.heap.size (some .mark) b = some k := h
        rw [upd_ne _ _ hb] at h'
        have := R.keyb b k h'
        exact ⟨by simp; omega, this.2⟩
    os := R.os
    tape := R.tape
    out := R.out
    grow := by have := R.grow; simp; omega
    base := fun b hb hm => by rw [heap_new w _ b (Nat.lt_of_lt_of_le hb R.grow)]; exact R.base b hb hm
    ent := R.ent.trans S
    oks := R.oks
    mks := fun b hb => by
      rcases List.mem_cons.1 hb with rfl | hb
      · exact ⟨upd_same _ _ _, heap_self w _⟩
      · exact ⟨(hk _ b (R.mks b hb).1).2, (hk _ b (R.mks b hb).1).1.trans (R.mks b hb).2⟩ }
theorem RR.shut {b : Nat} {ds : List Nat} (R : RR w0 mu G look m nt tm w) (hd : mu.dfs = b :: ds) (hn : b ∉ ds) :
    RR w0 { mu with dfs := ds } { G with key := upd G.key b none } look m nt tm (w.putObj b (.deferred none)) := by
  have hb := R.mks b (by rw [hd]; simp)
  have hlt := (R.keyb b _ hb.1).1
  have S : Step G m.hp m.nx w { G with key := upd G.key b none } m.hp m.nx (w.putObj b (.deferred none)) :=
    ⟨fun _ h => h, fun b' h => putObj_other w b b' _ (fun e => by subst e; have := (R.okb _ h).2; rw [hb.1] at this; cases this), Nat.le_refl _, fun id _ e xs h => ⟨xs, h, Nat.le_refl _, fun _ => rfl⟩, fun id _ c h => ⟨c, h, rfl⟩, fun _ _ _ => ⟨rfl, rfl⟩⟩
  have hk : ∀ (k : Key), k ≠ .mark → ∀ b', G.key b' = some k → (w.putObj b (.deferred none)).heap[b']? = w.heap[b']? ∧ upd G.key b none b' = some k := fun k hk b' h => by
    have hne : b' ≠ b := fun e => by subst e; rw [hb.1] at h; exact hk (Option.some.inj h).symm
    exact ⟨putObj_other w b b' _ hne, by rw [upd_ne _ _ hne]; exact h⟩
  exact {
    size := R.size
    slots := fun s => AR.step S (fun _ _ _ _ => rfl) (R.slots s)
    locs := fun s t off c0 h => LocR.step S rfl rfl (hk _ (by simp)) (R.locs s t off c0 h)
    objs := fun id hid => ObR.step S rfl rfl (hk _ (by simp)) (R.objs id hid)
    okb := fun b' h => by
      rw [putObj_size]
      have := R.okb b' h
      refine ⟨this.1, ?_⟩
      show upd G.key b none b' = none
      by_cases e : b' = b
      · subst e; exact upd_same _ _ _
      · rw [upd_ne _ _ e]; exact this.2
    keyb := fun b' k h => by
      rw [putObj_size]
      have h' : upd G.key b none b' = some k := h
      by_cases e : b' = b
      · subst e; rw [upd_same] at h'; cases h'
      · rw [upd_ne _ _ e] at h'; exact R.keyb b' k h'
    os := R.os
    tape := R.tape
    out := R.out
    grow := by rw [putObj_size]; exact R.grow
    base := fun b' hb' hm => by
      rw [putObj_other w b b' _ (fun e => by
        subst e
        rcases (R.keyb _ _ hb.1).2 with h | h
        · omega
        · exact hm h)]
      exact R.base b' hb' hm
    ent := R.ent.trans S
    oks := R.oks
    mks := fun b' hb' => by
      have h1 := R.mks b' (by rw [hd]; exact List.mem_cons_of_mem _ hb')
      have hne : b' ≠ b := fun e => by subst e; exact hn hb'
      exact ⟨by show upd G.key b none b' = _; rw [upd_ne _ _ hne]; exact h1.1, (putObj_other w b b' _ hne).trans h1.2⟩ }
end
end Go.Idl
namespace Go.Idl
open Go.RowKit
structure ProgOk (P : Program) : Prop where
  mixed : P.follows .mixedOrders = true
  name : ∀ (g : Nat) (fn : Func), P.funcs[g]? = some fn → fn.body.isSome = true → fn.name ≠ "runtime.NumGoroutine"
  slots : ∀ (g : Nat) (fn : Func) (c : Code), P.funcs[g]? = some fn → fn.body = some c → codeOk fn.ntmps c = true
def tabList : List (String × IntKind × List Int) := [("internal/strconv.uint64pow10", .u64, Lib.pow10Tab)]
def Tabs (P : Program) (K : Nat → Prop) (w : World) : Prop := ∀ x ∈ tabList, ∀ g, P.globalNamed x.1 = some g → K g ∧ Lib.TabIs P w x.1 x.2.1 x.2.2
theorem Tabs.step {P : Program} {K K' : Nat → Prop} {w w' : World} (h : Tabs P K w) (h1 : ∀ b, K b → K' b) (h2 : ∀ b, K b → w'.heap[b]? = w.heap[b]?) : Tabs P K' w' := fun x hx g hg => by
  obtain ⟨a, b⟩ := h x hx g hg
  refine ⟨h1 g a, ?_⟩
  unfold Lib.TabIs World.var? at b ⊢
  rw [hg] at b ⊢
  simp only [Option.bind_some] at b ⊢
  rw [h2 g a]; exact b
structure WideF (P : Program) (F : Fence) (K : Nat → Prop) (w : World) : Prop where
  fn : ∀ f, F.fn f
  depth : F.depth = none
  alive : F.alive = false
  tabs : Tabs P K w
theorem WideF.enter {P : Program} {F : Fence} {w0 : World} {mu : En} {G : Gh} {look : Nat → Arg} {m : Mem} {nt : Nat} {tm : Array Value} {w : World} (hF : WideF P F mu.G.ok w0) (R : RR w0 mu G look m nt tm w) : WideF P F G.ok w :=
  ⟨hF.fn, hF.depth, hF.alive, hF.tabs.step R.ent.ok R.ent.heap⟩
theorem callsIn_of {P : Program} {F : Fence} {K : Nat → Prop} {w0 : World} (hF : WideF P F K w0) {n : Nat} {f : FuncId} {args : Array Value} {w : World} {R : Ending → World → Prop} (h : Calls P f args w R) : CallsIn F n P f args w R := by
  have hm : Machine.fenced P F = Machine.fenced P Fence.wide := by
    funext m
    refine propext ⟨fun _ => fenced_wide P m, fun _ g _ => ⟨fun h => ?_, .inl (hF.fn _), fun _ _ => hF.fn _, fun d hd => ?_⟩⟩
    · rw [hF.alive] at h; cases h
    · rw [hF.depth] at hd; cases hd
  have h' := (callsIn_wide (n := n)).2 h
  refine ⟨hF.fn f, fun cs _ => ?_⟩
  obtain ⟨e, w', fr, h1, h2, h3⟩ := h'.2 cs (room_wide _)
  exact ⟨e, w', fr, h1, by rw [hm]; exact h2, h3⟩
def putL (look : Nat → Arg) (d : Option Tmp) (g : Arg) : Nat → Arg :=
  match d with
  | some d => upd look d g
  | none => look
section
variable {P : Program} {w0 : World} {mu : En} {G : Gh} {look : Nat → Arg} {m : Mem} {nt : Nat} {tm : Array Value} {w : World}
inductive ARs (G : Gh) (m : Mem) (w : World) : List Arg → List Value → Prop
  | nil : ARs G m w [] []
  | cons {g : Arg} {v : Value} {gs : List Arg} {vs : List Value} : AR G m.hp m.nx w g v → (∀ t off c0, g = .pl t off c0 → LocR G m w t c0) → ARs G m w gs vs → ARs G m w (g :: gs) (v :: vs)
def CallAt (P : Program) (F : Fence) (n : Nat) (cv : Value) (args : Array Value) (w : World) (R : Value → World → Prop) : Prop :=
  match cv with
  | .func (.func g) first cap => (∃ fn, P.funcs[g]? = some fn ∧ fn.body.isSome = true) ∧ CallsIn F n P g (first ++ args ++ cap) w (fun e w' => ∃ v, e = .returned v ∧ R v w')
  | .func (.yield l) first _ => ∃ f tmps asg bd, (Instr.yield l (first ++ args)).run P w = .ok (.round l f tmps asg bd) w ∧ RoundIn F n P l f tmps asg bd w (fun e w' => ∃ v, e = .returned v ∧ R v w')
  | _ => False
def CallOk (P : Program) (call : Caller) : Prop := ∀ (c : Vl) (args : List Arg) (m : Mem) (r : Vl) (m' : Mem), call c args m = some (r, m') → m'.lc = m.lc ∧
  ∀ F n w0 mu G look nt tm w cv (vs : List Value), WideF P F mu.G.ok w0 → RR w0 mu G look m nt tm w → VR G m.hp m.nx w c cv → ARs G m w args vs →
    CallAt P F n cv vs.toArray w (fun v w' => ∃ G', RR w0 mu G' look m' nt tm w' ∧ VR G' m'.hp m'.nx w' r v)
theorem ars_map {a : Act} (R : RR w0 mu G look m nt a.tmps w) : ∀ l : List Operand, ARs G m w (l.map (rho look)) (l.map a.eval)
  | [] => .nil
  | x :: l => .cons (R.rho x) (R.rloc x) (ars_map R l)
theorem op_wp {F : Fence} (hF : WideF P F mu.G.ok w0) {n : Nat} {o : Oper} {a : Act} {g : Arg} {m' : Mem} {next : Act → World → Prop} {Q : Exit → Act → World → Prop}
    (hnd : ∀ c, o.op ≠ .defer c) (D : Did P w0 mu look m' nt a w o.dst g ((execOp a.eval o).run P w))
    (hnext : ∀ G' a' w', RR w0 mu G' (putL look o.dst g) m' nt a'.tmps w' → a'.defers = a.defers → next a' w') : o.wpIn F n P a w next Q := by
  obtain ⟨G', v, w', nxt, hrun, hn, R'⟩ := D
  refine ⟨fun f _ => hF.fn f, ?_⟩
  rw [Oper.semAt_eq _ _ _ hnd, hrun]
  have hdf : ∀ (d : Option Tmp) (u : Value), (a.put d u).defers = a.defers := fun d u => by cases d <;> rfl
  rcases hn with rfl | ⟨rfl, rfl⟩
  · rw [Oper.uponIn_value]; exact hnext G' _ w' R' (hdf _ _)
  · rw [Oper.uponIn_skip]; exact hnext G' _ w' R' (hdf _ _)
theorem put_defers (a : Act) (d : Option Tmp) (u : Value) : (a.put d u).defers = a.defers := by cases d <;> rfl
theorem RR.putD {g : Arg} {v : Value} {a : Act} {d : Option Tmp} (R : RR w0 mu G look m nt a.tmps w) (hd : ∀ t, d = some t → t < nt) (hA : AR G m.hp m.nx w g v) (hL : ∀ t off c0, g = .pl t off c0 → LocR G m w t c0) :
    RR w0 mu G (putL look d g) m nt (a.put d v).tmps w := by
  cases d with
  | none => exact R
  | some t => exact R.put (hd t rfl) hA hL
theorem call_wp {F : Fence} (hP : ProgOk P) (hF : WideF P F mu.G.ok w0) {n : Nat} {o : Oper} {a : Act} {fo : Operand} {as : Array Operand} {ts : Array TypeId} {r : Vl} {m' : Mem} {next : Act → World → Prop} {Q : Exit → Act → World → Prop}
    (ho : o.op = .call { callee := .value fo, args := as, argTypes := ts }) (hd : ∀ t, o.dst = some t → t < nt)
    (hC : CallAt P F (n - 1) (a.eval fo) (as.map a.eval) w (fun v w' => ∃ G', RR w0 mu G' look m' nt a.tmps w' ∧ VR G' m'.hp m'.nx w' r v))
    (hnext : ∀ G' a' w', RR w0 mu G' (putL look o.dst (.v r)) m' nt a'.tmps w' → a'.defers = a.defers → next a' w') : o.wpIn F n P a w next Q := by
  refine ⟨fun f _ => hF.fn f, ?_⟩
  rw [Oper.semAt_eq _ _ _ (fun c h => by rw [ho] at h; cases h)]
  have hn : F.depth.isSome = true → 1 ≤ n := fun h => by rw [hF.depth] at h; cases h
  have hfin : ∀ (v : Value) (w' : World), (∃ G', RR w0 mu G' look m' nt a.tmps w' ∧ VR G' m'.hp m'.nx w' r v) → next (a.put o.dst v) w' := fun v w' ⟨G', R', hv⟩ =>
    hnext G' _ w' (R'.putD (g := .v r) hd hv (fun _ _ _ h => by cases h)) (put_defers _ _ _)
  generalize hcv : a.eval fo = cv at hC
  unfold CallAt at hC
  split at hC
  · rename_i g first cap
    obtain ⟨⟨fn, hfn, hb⟩, hcall⟩ := hC
    have hrun : (execOp a.eval o).run P w = .ok (.enter g (first ++ as.map a.eval ++ cap)) w := by
      obtain ⟨cb, hb'⟩ := Option.isSome_iff_exists.1 hb
      simp [execOp, ho, resolve, hcv, Deferred.ofValue, invoke, callFunc, hfn, hP.name g fn hfn hb, hb']
    rw [hrun, Oper.uponIn_enter]
    refine ⟨hn, CallsIn.mono hcall fun e w' he => ?_⟩
    obtain ⟨v, rfl, hv⟩ := he
    exact hfin v w' hv
  · rename_i l first cap
    obtain ⟨f, tmps, asg, bd, hy, hround⟩ := hC
    have hrun : (execOp a.eval o).run P w = .ok (.round l f tmps asg bd) w := by
      simp [execOp, ho, resolve, hcv, Deferred.ofValue, invoke, hy]
    rw [hrun, Oper.uponIn_round]
    refine ⟨hn, RoundIn.mono hround fun e w' he => ?_⟩
    obtain ⟨v, rfl, hv⟩ := he
    exact hfin v w' hv
  · exact hC.elim
theorem methI_run {t : TypeId} {name : String} {g : FuncId} (h : methI P t name = some g) (n : Nat) (v : Value) (w : World) : (method (n + 1) t v name).run P w = .ok (g, v) w := by
  unfold methI at h
  obtain ⟨i, hi, h⟩ := Option.bind_eq_some_iff.1 h
  obtain ⟨q, hq, h⟩ := Option.bind_eq_some_iff.1 h
  split at h
  case isFalse => cases h
  rename_i hp
  have hp' : q.path.toList = [] := by simpa using hp
  unfold method
  split at h
  · rename_i f e hf hu
    cases h
    simp [typeInfo, hi, hq, hp', hf, follow, receiverAt, run_underlying hu, Place.get]
  · cases h
  · rename_i f d hne hf hu
    cases h
    cases d <;> first | (simp [typeInfo, hi, hq, hp', hf, follow, receiverAt, run_underlying hu, Place.get]; done) | exact absurd rfl (hne _)
  · cases h
theorem invoke_wp {F : Fence} (hP : ProgOk P) (hF : WideF P F mu.G.ok w0) {n : Nat} {o : Oper} {a : Act} {ro : Operand} {name : String} {as : Array Operand} {ts : Array TypeId} {t : TypeId} {v : Value} {g : FuncId} {r : Vl} {m' : Mem} {next : Act → World → Prop} {Q : Exit → Act → World → Prop}
    (ho : o.op = .call { callee := .invoke ro name, args := as, argTypes := ts }) (hd : ∀ t, o.dst = some t → t < nt) (hv : a.eval ro = .iface t v) (hm : methI P t name = some g)
    (hC : CallAt P F (n - 1) (.func (.func g) #[v] #[]) (as.map a.eval) w (fun v w' => ∃ G', RR w0 mu G' look m' nt a.tmps w' ∧ VR G' m'.hp m'.nx w' r v))
    (hnext : ∀ G' a' w', RR w0 mu G' (putL look o.dst (.v r)) m' nt a'.tmps w' → a'.defers = a.defers → next a' w') : o.wpIn F n P a w next Q := by
  refine ⟨fun f _ => hF.fn f, ?_⟩
  rw [Oper.semAt_eq _ _ _ (fun c h => by rw [ho] at h; cases h)]
  have hn : F.depth.isSome = true → 1 ≤ n := fun h => by rw [hF.depth] at h; cases h
  have hfin : ∀ (v : Value) (w' : World), (∃ G', RR w0 mu G' look m' nt a.tmps w' ∧ VR G' m'.hp m'.nx w' r v) → next (a.put o.dst v) w' := fun v w' ⟨G', R', hv⟩ =>
    hnext G' _ w' (R'.putD (g := .v r) hd hv (fun _ _ _ h => by cases h)) (put_defers _ _ _)
  obtain ⟨⟨fn, hfn, hb⟩, hcall⟩ := hC
  have hrun : (execOp a.eval o).run P w = .ok (.enter g (#[v] ++ as.map a.eval)) w := by
    obtain ⟨cb, hb'⟩ := Option.isSome_iff_exists.1 hb
    have hdp : 0 < Made.depth := by decide
    obtain ⟨k, hk⟩ : ∃ k, P.types.size + Made.depth = k + 1 := ⟨P.types.size + Made.depth - 1, by omega⟩
    have h0 : (#[Value.iface t v] ++ as.map a.eval)[0]? = some (Value.iface t v) := by
      rw [Array.getElem?_append_left (by simp)]; rfl
    have hex : (as.map a.eval).extract 0 as.size = as.map a.eval := by
      have := Array.extract_size (xs := as.map a.eval)
      rwa [Array.size_map] at this
    have hpr : (program : Sem Program).run P w = .ok P w := rfl
    simp [execOp, ho, resolve, hv, invoke, h0, hex, callMethod, hpr, hk, methI_run hm, callFunc, hfn, hP.name g fn hfn hb, hb']
  rw [hrun, Oper.uponIn_enter]
  rw [Array.append_empty] at hcall
  refine ⟨hn, CallsIn.mono hcall fun e w' he => ?_⟩
  obtain ⟨v, rfl, hv⟩ := he
  exact hfin v w' hv
theorem newBox_did {o : Oper} {a : Act} {z : Vl} {v : Value} {el : TypeId} {g : Arg} {m' : Mem} (hd : ∀ t, o.dst = some t → t < nt) (R : RR w0 mu G look m nt a.tmps w) (hv : VR G m.hp m.nx w z v)
    (h : newBox z m = some (g, m')) (hr : (execOp a.eval o).run P w = .ok (.value (.pointer (some ⟨w.heap.size, 0, none⟩))) (w.alloc (.cells v.cells el))) :
    Did P w0 mu look m' nt a w o.dst g ((execOp a.eval o).run P w) := by
  unfold newBox at h
  split at h
  · cases h
  rename_i hu
  cases h
  obtain ⟨G', R', hp⟩ := R.newBox (el := el) (hv.cells (by simpa using hu))
  exact did_value hd (by simpa using hr) R' hp (fun _ _ _ h => by cases h)
theorem bld_zero {t e : TypeId} (h : (tdOf P t).bld = some e) : ∃ i, P.info? t = some i ∧ i.zero = some (.agg #[.pointer none, .slice none 0 0]) := by
  have h : bldOf P t = some e := h
  unfold bldOf at h
  split at h
  case h_2 => cases h
  split at h
  case h_2 => cases h
  rename_i hz
  unfold zeroOfT at hz
  cases hi : P.info? t with
  | none => rw [hi] at hz; cases hz
  | some i =>
    rw [hi] at hz
    refine ⟨i, rfl, ?_⟩
    simp only [Option.bind_some] at hz
    cases hzz : i.zero with
    | none => rw [hzz] at hz; cases hz
    | some z =>
      rw [hzz] at hz
      simp only [Option.map_some, Option.getD_some] at hz
      cases z with
      | agg cs =>
        simp only [ofConst] at hz
        split at hz
        case isFalse => cases hz
        obtain ⟨cs⟩ := cs
        simp only [Vl.agg.injEq] at hz
        match cs, hz with
        | [], hz => simp at hz
        | [_], hz => simp at hz
        | _ :: _ :: _ :: _, hz => simp at hz
        | [x, y], hz =>
          simp only [List.map_cons, List.map_nil, List.cons.injEq, and_true] at hz
          obtain ⟨h1, h2⟩ := hz
          have e1 : x = .pointer none := by
            unfold ofScalar at h1
            split at h1 <;> first | rfl | cases h1
          have e2 : y = .slice none 0 0 := by
            unfold ofScalar at h2
            split at h2 <;> first | rfl | cases h2
          rw [e1, e2]
      | _ => 
        exfalso
        simp only [ofConst] at hz
        unfold ofScalar at hz
        split at hz <;> cases hz
theorem opI_wp {F : Fence} {call : Caller} {loc : Nat → Bool} (hP : ProgOk P) (hcall : CallOk P call) (hF : WideF P F mu.G.ok w0) {n : Nat} {o : Oper} {a : Act} {g : Arg} {m' : Mem} {next : Act → World → Prop} {Q : Exit → Act → World → Prop}
    (hd : ∀ t, o.dst = some t → t < nt) (R : RR w0 mu G look m nt a.tmps w)
    (hfree : allocOp o.op = true → ∀ s, o.dst = some s → (∀ s' t off c0, look s' = .pl t off c0 → t ≠ s) ∧ m.lc.lookup s = none)
    (h : opI P call loc o (rho look) m = some (g, m'))
    (hnext : ∀ G' a' w', RR w0 mu G' (putL look o.dst g) m' nt a'.tmps w' → a'.defers = a.defers → next a' w') : o.wpIn F n P a w next Q := by
  have base : evalV P o.dst o.op (rho look) m = some (g, m') → o.wpIn F n P a w next Q := fun h =>
    op_wp hF (fun c hc => by rw [hc] at h; simp [evalV] at h) (evalV_sound hd R hfree h) hnext
  unfold opI at h
  split at h
  · rename_i t ho
    split at h
    · exact base h
    · split at h
      case isFalse => cases h
      rename_i hc
      simp only [Bool.and_eq_true] at hc
      split at h
      · rename_i e he
        obtain ⟨i, hi, hzi⟩ := bld_zero he
        cases h
        obtain ⟨G', R', hp⟩ := R.newBld (t := t) (e := e)
        refine op_wp hF (fun c h => by rw [ho] at h; cases h) (did_value (g := .v (.bp m.nx 0)) hd (v := .pointer (some ⟨w.heap.size, 0, none⟩)) ?_ R' hp (fun _ _ _ h => by cases h)) hnext
        simp [execOp, ho, Instr.alloc, zeroValue, typeInfo, hi, hzi, newVar, newRow, Value.cells]
      have hz : (tdOf P t).zero.undef? = false := by
        unfold newBox at h; split at h
        · cases h
        · rename_i hu; simpa using hu
      obtain ⟨i, z, hi, hzi, hze⟩ := td_zero hc.1 hz
      have hV : VR G m.hp m.nx w (tdOf P t).zero z := by rw [hze]; exact ofConst_rel _ _ _ _ _
      exact op_wp hF (fun c h => by rw [ho] at h; cases h) (newBox_did (el := t) hd R hV h (by simp [execOp, ho, Instr.alloc, zeroValue, typeInfo, hi, hzi, newVar, newRow])) hnext
  · rename_i t x ho
    split at h
    · exact base h
    · split at h
      case isFalse => cases h
      exact op_wp hF (fun c h => by rw [ho] at h; cases h) (newBox_did (el := t) hd R (R.val x) h (by simp [execOp, ho, Instr.box, newVar, newRow])) hnext
  · rename_i t len parts ho
    split at h
    case isFalse => exact base h
    split at h
    case h_2 => cases h
    rename_i esz eb z hk
    split at h
    case isFalse => cases h
    rename_i hc
    simp only [Bool.and_eq_true, Bool.not_eq_true', decide_eq_true_eq, beq_iff_eq] at hc
    rw [Option.map_eq_some_iff] at h
    obtain ⟨l, h1, h2⟩ := h
    cases h2
    exact op_wp hF (fun c h => by rw [ho] at h; cases h) (did_buildOwn hd R ho hk hc.1.1.1 hc.1.1.2 hc.1.2 hc.2 h1) hnext
  · rename_i t x lo hi mx ho
    split at h
    case isFalse => exact base h
    unfold cutI at h
    split at h
    case h_2 => cases h
    rename_i k hh esz eb ez id nn hhi hk hx
    split at h
    case h_2 => cases h
    rename_i e xs hob
    split at h
    case isFalse => cases h
    rename_i hc
    obtain ⟨c1, rfl, c3, c4⟩ := hc
    cases h
    rw [Option.map_eq_some_iff] at hhi
    obtain ⟨hi, rfl, hhi⟩ := hhi
    exact op_wp hF (fun c h => by rw [ho] at h; cases h) (did_cut hd R ho hk hx hob c1 hhi c3 c4) hnext
  · rename_i fo as ts ho
    rw [Option.map_eq_some_iff] at h
    obtain ⟨r, h1, h2⟩ := h
    cases h2
    have hC := (hcall _ _ _ _ _ h1).2 F (n - 1) w0 mu G look nt a.tmps w (a.eval fo) (as.toList.map a.eval) hF R (R.val fo) (ars_map R _)
    refine call_wp hP hF ho hd ?_ hnext
    have he : (as.toList.map a.eval).toArray = as.map a.eval := by
      rw [← Array.toList_map]
    rwa [he] at hC
  · rename_i ro name as ts ho
    split at h
    case h_2 => cases h
    rename_i t x hx
    obtain ⟨f, hm, h⟩ := Option.bind_eq_some_iff.1 h
    rw [Option.map_eq_some_iff] at h
    obtain ⟨r, h1, h2⟩ := h
    cases h2
    have hvx := R.val ro
    rw [hx] at hvx
    generalize hrv : a.eval ro = rv at hvx
    cases hvx with
    | ifc hvx =>
      rename_i v
      have hC := (hcall _ _ _ _ _ h1).2 F (n - 1) w0 mu G look nt a.tmps w (.func (.func f) #[v] #[]) (as.toList.map a.eval) hF R (.fn (.cons hvx .nil) .nil) (ars_map R _)
      refine invoke_wp hP hF ho hd hrv hm ?_ hnext
      have he : (as.toList.map a.eval).toArray = as.map a.eval := by
        rw [← Array.toList_map]
      rwa [he] at hC
  · exact base h
end
end Go.Idl
namespace Go.Idl
open Go.RowKit
section
variable {P : Program} {w0 : World} {mu : En} {G : Gh} {look : Nat → Arg} {m : Mem} {nt : Nat} {tm : Array Value} {w : World}
theorem rho_pl {x : Operand} {t off : Nat} {c0 : Vl} (h : rho look x = .pl t off c0) : ∃ s, x = .tmp s ∧ look s = .pl t off c0 := by
  cases x <;> simp only [rho] at h <;> first | exact ⟨_, rfl, h⟩ | cases h
theorem shift_pl {k : Nat} {g : Arg} {t off : Nat} {c0 : Vl} (h : Arg.shift k g = some (.pl t off c0)) : ∃ off', g = .pl t off' c0 := by
  unfold Arg.shift at h
  split at h <;> first | (cases h; exact ⟨_, rfl⟩) | cases h
theorem write_lc {m m' : Mem} {v : Vl} {g : Arg} (h : m.write v g = some m') : m'.lc = m.lc ∨ ∃ t off c0 c, g = .pl t off c0 ∧ m'.lc = setL m.lc t c := by
  unfold Mem.write at h
  split at h
  · rw [Option.map_eq_some_iff] at h
    obtain ⟨c, _, h⟩ := h
    cases h
    exact .inr ⟨_, _, _, c, rfl, rfl⟩
  · split at h
    · split at h
      · obtain ⟨x, _, h⟩ := Option.bind_eq_some_iff.1 h
        rw [Option.map_eq_some_iff] at h
        obtain ⟨c, _, h⟩ := h
        cases h
        exact .inl rfl
      · cases h
    · cases h
  · split at h
    · rw [Option.map_eq_some_iff] at h
      obtain ⟨c, _, h⟩ := h
      cases h
      exact .inl rfl
    · cases h
  · cases h
theorem append_lc {td td1 : TD} {s x r : Vl} {m m' : Mem} (h : appendV td td1 s x m = some (r, m')) : m'.lc = m.lc := by
  unfold appendV at h
  split at h
  · obtain ⟨ys, _, h⟩ := Option.bind_eq_some_iff.1 h
    split at h
    · split at h
      · cases h; rfl
      · cases h
    · split at h
      · cases h; rfl
      · split at h
        · cases h; rfl
        · cases h
    · split at h
      · split at h
        · cases h; rfl
        · cases h
      · cases h
    · cases h
  · cases h
theorem builtin_lc {b : Builtin} {ts : List TypeId} {vs : List Vl} {r : Vl} {m m' : Mem} (h : builtinV P b ts vs m = some (r, m')) : m'.lc = m.lc := by
  unfold builtinV at h
  split at h
  · split at h <;> first | (cases h; rfl) | cases h
  · exact append_lc h
  · cases h; rfl
  · cases h; rfl
  · cases h
theorem evalV_from {d : Option Tmp} {op : Op} {g : Arg} {m' : Mem} (h : evalV P d op (rho look) m = some (g, m')) :
    (∀ t off c0, g = .pl t off c0 → (∃ s off' c0', .tmp s ∈ op.operands ∧ look s = .pl t off' c0') ∨ (allocOp op = true ∧ d = some t)) ∧
    (m'.lc = m.lc ∨ ∃ t c s off c0, .tmp s ∈ op.operands ∧ look s = .pl t off c0 ∧ m'.lc = setL m.lc t c) := by
  cases op <;> simp only [evalV, reduceCtorEq] at h
  case move x => cases h; exact ⟨fun _ _ _ h => (by cases h), .inl rfl⟩
  case assign x => cases h; exact ⟨fun _ _ _ h => (by cases h), .inl rfl⟩
  case pick c x y => split at h <;> cases h; exact ⟨fun _ _ _ h => (by cases h), .inl rfl⟩
  case alloc t =>
    split at h
    case isFalse => cases h
    rw [Option.map_eq_some_iff] at h
    obtain ⟨s, h1, h⟩ := h
    cases h
    exact ⟨fun _ _ _ h => (by cases h; exact .inr ⟨rfl, h1⟩), .inl rfl⟩
  case box t x =>
    split at h
    case isFalse => cases h
    rw [Option.map_eq_some_iff] at h
    obtain ⟨s, h1, h⟩ := h
    cases h
    exact ⟨fun _ _ _ h => (by cases h; exact .inr ⟨rfl, h1⟩), .inl rfl⟩
  case build t parts =>
    split at h
    case h_2 => cases h
    obtain ⟨_, h⟩ := Option.ite_none_right_eq_some.1 h
    rw [Option.map_eq_some_iff] at h
    obtain ⟨cs, h1, h2⟩ := h
    cases h2
    exact ⟨fun _ _ _ h => (by cases h), .inl rfl⟩
  case buildSlice t len parts =>
    split at h
    case h_2 => cases h
    split at h
    case isFalse => cases h
    rw [Option.map_eq_some_iff] at h
    obtain ⟨cs, h1, h2⟩ := h
    cases h2
    exact ⟨fun _ _ _ h => (by cases h), .inl rfl⟩
  case load t x =>
    split at h
    case isFalse => cases h
    rw [Option.map_eq_some_iff] at h
    obtain ⟨cs, h1, h2⟩ := h
    cases h2
    exact ⟨fun _ _ _ h => (by cases h), .inl rfl⟩
  case store t x y =>
    split at h
    case isFalse => cases h
    rw [Option.map_eq_some_iff] at h
    obtain ⟨cs, h1, h2⟩ := h
    cases h2
    refine ⟨fun _ _ _ h => (by cases h), ?_⟩
    rcases write_lc h1 with h | ⟨t, off, c0, c, h2, h3⟩
    · exact .inl h
    · obtain ⟨s, rfl, hs⟩ := rho_pl h2
      exact .inr ⟨t, c, s, off, c0, by simp [Op.operands], hs, h3⟩
  case nilCheck x =>
    split at h <;> first | cases h | skip
    · rename_i hx
      obtain ⟨s, rfl, hs⟩ := rho_pl hx
      exact ⟨fun _ _ _ h => (by cases h; exact .inl ⟨s, _, _, by simp [Op.operands], hs⟩), .inl rfl⟩
    all_goals exact ⟨fun _ _ _ h => (by cases h), .inl rfl⟩
  case binOp op t x y yt =>
    split at h
    · cases h; exact ⟨fun _ _ _ h => (by cases h), .inl rfl⟩
    · cases h; exact ⟨fun _ _ _ h => (by cases h), .inl rfl⟩
    · rw [Option.map_eq_some_iff] at h
      obtain ⟨l, h1, h2⟩ := h
      cases h2
      exact ⟨fun _ _ _ h => (by cases h), .inl rfl⟩
  case unOp op t x =>
    split at h <;> cases h
    all_goals exact ⟨fun _ _ _ h => (by cases h), .inl rfl⟩
  case makeMap t r => split at h <;> cases h; exact ⟨fun _ _ _ h => (by cases h), .inl rfl⟩
  case lookup t x i ok =>
    split at h
    case h_2 => cases h
    split at h
    case isFalse => cases h
    rw [Option.map_eq_some_iff] at h
    obtain ⟨es, h1, h2⟩ := h
    split at h2 <;> cases h2
    all_goals exact ⟨fun _ _ _ h => (by cases h), .inl rfl⟩
  case mapUpdate t x i y =>
    split at h
    case h_2 => cases h
    split at h
    case h_2 => cases h
    split at h
    case isFalse => cases h
    cases h
    exact ⟨fun _ _ _ h => (by cases h), .inl rfl⟩
  case convert s t x =>
    split at h <;> cases h
    all_goals exact ⟨fun _ _ _ h => (by cases h), .inl rfl⟩
  case makeInterface t x =>
    split at h
    · cases h
    · cases h
    · split at h <;> cases h
      exact ⟨fun _ _ _ h => (by cases h), .inl rfl⟩
  case typeAssert x u t ok =>
    split at h
    · cases h
    · cases h
    · split at h
      · split at h
        · cases h; exact ⟨fun _ _ _ h => (by cases h), .inl rfl⟩
        · split at h <;> cases h
          exact ⟨fun _ _ _ h => (by cases h), .inl rfl⟩
      · split at h <;> cases h
        exact ⟨fun _ _ _ h => (by cases h), .inl rfl⟩
      · cases h
  case makeFunc f first cap => cases h; exact ⟨fun _ _ _ h => (by cases h), .inl rfl⟩
  case makeSlice t x y =>
    split at h
    · split at h <;> cases h
      exact ⟨fun _ _ _ h => (by cases h), .inl rfl⟩
    · cases h
  case slice t x lo hi mx =>
    split at h
    · split at h
      · rw [Option.map_eq_some_iff] at h
        obtain ⟨l, h1, h2⟩ := h
        cases h2
        exact ⟨fun _ _ _ h => (by cases h), .inl rfl⟩
      · cases h
    · split at h
      · cases h
      · obtain ⟨xs, _, h⟩ := Option.bind_eq_some_iff.1 h
        split at h
        · rw [Option.map_eq_some_iff] at h
          obtain ⟨l, h1, h2⟩ := h
          cases h2
          exact ⟨fun _ _ _ h => (by cases h), .inl rfl⟩
        · obtain ⟨mi, _, h⟩ := Option.bind_eq_some_iff.1 h
          split at h
          · split at h
            · rw [Option.map_eq_some_iff] at h
              obtain ⟨l, h1, h2⟩ := h
              cases h2
              exact ⟨fun _ _ _ h => (by cases h), .inl rfl⟩
            · cases h
          · cases h
    · cases h
  case fieldAddr t x f =>
    split at h
    case h_2 => cases h
    obtain ⟨q, h1, h⟩ := Option.bind_eq_some_iff.1 h
    rw [Option.map_eq_some_iff] at h
    obtain ⟨l, h2, h3⟩ := h
    cases h3
    refine ⟨fun t off c0 h => ?_, .inl rfl⟩
    subst h
    obtain ⟨off', h3⟩ := shift_pl h2
    obtain ⟨s, rfl, hs⟩ := rho_pl h3
    exact .inl ⟨s, _, _, by simp [Op.operands], hs⟩
  case field t x f =>
    split at h
    case h_2 => cases h
    obtain ⟨q, h1, h⟩ := Option.bind_eq_some_iff.1 h
    rw [Option.map_eq_some_iff] at h
    obtain ⟨l, h2, h3⟩ := h
    cases h3
    exact ⟨fun _ _ _ h => (by cases h), .inl rfl⟩
  case indexAddr t x y =>
    split at h
    · split at h
      case isFalse => cases h
      rw [Option.map_eq_some_iff] at h
      obtain ⟨l, h2, h3⟩ := h
      cases h3
      refine ⟨fun t off c0 h => ?_, .inl rfl⟩
      subst h
      obtain ⟨off', h3⟩ := shift_pl h2
      obtain ⟨s, rfl, hs⟩ := rho_pl h3
      exact .inl ⟨s, _, _, by simp [Op.operands], hs⟩
    · split at h
      · split at h <;> cases h
        exact ⟨fun _ _ _ h => (by cases h), .inl rfl⟩
      · split at h
        case isFalse => cases h
        split at h
        · split at h <;> cases h
          exact ⟨fun _ _ _ h => (by cases h), .inl rfl⟩
        · split at h <;> cases h
          exact ⟨fun _ _ _ h => (by cases h), .inl rfl⟩
        · cases h
      · cases h
    · cases h
  case index t x y =>
    split at h
    · split at h
      case isFalse => cases h
      rw [Option.map_eq_some_iff] at h
      obtain ⟨l, h2, h3⟩ := h
      cases h3
      exact ⟨fun _ _ _ h => (by cases h), .inl rfl⟩
    · split at h <;> cases h
      exact ⟨fun _ _ _ h => (by cases h), .inl rfl⟩
    · cases h
  case extract x i =>
    split at h
    · rw [Option.map_eq_some_iff] at h
      obtain ⟨l, h2, h3⟩ := h
      cases h3
      exact ⟨fun _ _ _ h => (by cases h), .inl rfl⟩
    · cases h
  case call c =>
    obtain ⟨callee, as, ts⟩ := c
    cases callee with
    | builtin b =>
      simp only at h
      rw [Option.map_eq_some_iff] at h
      obtain ⟨l, h2, h3⟩ := h
      cases h3
      exact ⟨fun _ _ _ h => (by cases h), .inl (builtin_lc h2)⟩
    | _ => simp at h
theorem opI_from {call : Caller} {loc : Nat → Bool} (hcall : CallOk P call) {o : Oper} {g : Arg} {m' : Mem} (h : opI P call loc o (rho look) m = some (g, m')) :
    (∀ t off c0, g = .pl t off c0 → (∃ s off' c0', .tmp s ∈ o.op.operands ∧ look s = .pl t off' c0') ∨ (allocOp o.op = true ∧ o.dst = some t)) ∧
    (m'.lc = m.lc ∨ ∃ t c s off c0, .tmp s ∈ o.op.operands ∧ look s = .pl t off c0 ∧ m'.lc = setL m.lc t c) := by
  have hbox : ∀ {z : Vl} {g : Arg} {m' : Mem}, newBox z m = some (g, m') → (∃ x, g = .v x) ∧ m'.lc = m.lc := fun {z g m'} h => by
    unfold newBox at h
    split at h
    · cases h
    · cases h; exact ⟨⟨_, rfl⟩, rfl⟩
  unfold opI at h
  split at h
  · split at h
    · exact evalV_from h
    · split at h
      case isFalse => cases h
      have hq : (∃ x, g = .v x) ∧ m'.lc = m.lc := by
        split at h
        · cases h; exact ⟨⟨_, rfl⟩, rfl⟩
        · exact hbox h
      obtain ⟨⟨x, rfl⟩, h2⟩ := hq
      exact ⟨fun _ _ _ h => (by cases h), .inl h2⟩
  · split at h
    · exact evalV_from h
    · split at h
      case isFalse => cases h
      obtain ⟨⟨x, rfl⟩, h2⟩ := hbox h
      exact ⟨fun _ _ _ h => (by cases h), .inl h2⟩
  · split at h
    case isFalse => exact evalV_from h
    split at h
    case h_2 => cases h
    split at h
    case isFalse => cases h
    rw [Option.map_eq_some_iff] at h
    obtain ⟨l, h1, h2⟩ := h
    cases h2
    exact ⟨fun _ _ _ h => (by cases h), .inl rfl⟩
  · split at h
    case isFalse => exact evalV_from h
    unfold cutI at h
    split at h
    case h_2 => cases h
    split at h
    case h_2 => cases h
    split at h
    case isFalse => cases h
    cases h
    exact ⟨fun _ _ _ h => (by cases h), .inl rfl⟩
  · rw [Option.map_eq_some_iff] at h
    obtain ⟨l, h1, h2⟩ := h
    cases h2
    exact ⟨fun _ _ _ h => (by cases h), .inl (hcall _ _ _ _ _ h1).1⟩
  · split at h
    case h_2 => cases h
    obtain ⟨f, hm, h⟩ := Option.bind_eq_some_iff.1 h
    rw [Option.map_eq_some_iff] at h
    obtain ⟨l, h1, h2⟩ := h
    cases h2
    exact ⟨fun _ _ _ h => (by cases h), .inl (hcall _ _ _ _ _ h1).1⟩
  · exact evalV_from h
def Roots (look : Nat → Arg) (m : Mem) (S : Nat → Prop) : Prop := (∀ s t off c0, look s = .pl t off c0 → S t) ∧ ∀ t c, m.lc.lookup t = some c → S t
theorem putL_get (d : Nat) (g : Arg) (s : Nat) : putL look (some d) g s = if s = d then g else look s := rfl
theorem lookup_setL (l : List (Nat × Vl)) (t s : Nat) (c : Vl) : (setL l t c).lookup s = if s = t then some c else l.lookup s := by
  unfold setL
  by_cases h : s = t
  · subst h; simp
  · rw [List.lookup_cons, if_neg h]
    have : (s == t) = false := by simpa using h
    rw [this]
    exact lookup_filter l t s h
theorem Roots.put {S : Nat → Prop} (R : Roots look m S) {d : Option Tmp} {g : Arg} {m' : Mem} {al : Bool}
    (h1 : ∀ t off c0, g = .pl t off c0 → (∃ s off' c0', look s = .pl t off' c0') ∨ (al = true ∧ d = some t))
    (h2 : m'.lc = m.lc ∨ ∃ t c s off c0, look s = .pl t off c0 ∧ m'.lc = setL m.lc t c) : Roots (putL look d g) m' (fun t => S t ∨ (al = true ∧ d = some t)) := by
  constructor
  · intro s t off c0 h
    cases d with
    | none => exact .inl (R.1 s t off c0 h)
    | some d =>
      rw [putL_get] at h
      split at h
      · subst h
        rcases h1 _ _ _ rfl with ⟨s', o', c', h'⟩ | h'
        · exact .inl (R.1 _ _ _ _ h')
        · exact .inr h'
      · exact .inl (R.1 s t off c0 h)
  · intro t c h
    rcases h2 with h2 | ⟨t', c', s, off, c0, h3, h4⟩
    · rw [h2] at h; exact .inl (R.2 t c h)
    · rw [h4, lookup_setL] at h
      split at h
      · rename_i e; subst e; exact .inl (R.1 _ _ _ _ h3)
      · exact .inl (R.2 t c h)
theorem wanted_eq {ops : Array Oper} {o : Oper} {b : Bool} (R : RR w0 mu G look m nt tm w) (h : wantedI ops look o = some b) : Region.wanted o (yielded ops tm) = b := by
  unfold wantedI at h
  unfold Region.wanted
  split at h
  · cases h; rename_i hg; rw [hg]
  · rename_i j want hg
    rw [hg]
    simp only
    split at h
    · rename_i s hs
      split at h
      · rename_i b' hb
        cases h
        have hA := R.slots s
        rw [hb] at hA
        have hA : VR G m.hp m.nx w (.bool b') (tm.getD s undef) := hA
        generalize hv : tm.getD s undef = v at hA
        cases hA
        have hlt : tm[s]? = some (.bool b') := by
          rw [Array.getD_eq_getD_getElem?] at hv
          cases ht : tm[s]? with
          | none => rw [ht] at hv; cases hv
          | some u => rw [ht] at hv; simp at hv; rw [hv]
        have : yielded ops tm j = some b' := by
          unfold yielded
          rw [hs]
          simp only [Option.bind_some, hlt]
        rw [this]
        cases b' <;> cases want <;> rfl
      · rename_i b' hb
        cases h
        have hA := R.slots s
        rw [hb] at hA
        have hA : VR G m.hp m.nx w (.tup b') (tm.getD s undef) := hA
        generalize hv : tm.getD s undef = v at hA
        cases hA
        rename_i vs hvs
        have : yielded ops tm j = none := by
          unfold yielded
          rw [hs]
          simp only [Option.bind_some]
          rw [Array.getD_eq_getD_getElem?] at hv
          cases ht : tm[s]? with
          | none => rfl
          | some u => rw [ht] at hv; simp at hv; rw [hv]
        rw [this]
        rfl
      · cases h
    · cases h
theorem ovLook_put (base : Nat → Arg) (ov : List (Nat × Arg)) (d : Option Tmp) (g : Arg) : ovLook base (ovPut d g ov) = putL (ovLook base ov) d g := by
  cases d with
  | none => rfl
  | some d =>
    funext s
    rw [putL_get]
    unfold ovLook ovPut
    simp only [List.lookup_cons]
    by_cases h : s = d
    · subst h; simp
    · have : (s == d) = false := by simpa using h
      rw [this, if_neg h]
theorem nodup_of {l : List Nat} (h : nodupI l = true) : l.Nodup := by
  induction l with
  | nil => exact .nil
  | cons x xs ih =>
    simp only [nodupI, Bool.and_eq_true, Bool.not_eq_true', List.contains_eq_mem, decide_eq_false_iff_not] at h
    exact List.nodup_cons.2 ⟨h.1, ih h.2⟩
theorem runOps_wp {F : Fence} {call : Caller} {loc : Nat → Bool} (hP : ProgOk P) (hcall : CallOk P call) (hF : WideF P F mu.G.ok w0) {n : Nat} {ops : Array Oper} {base : Nat → Arg} {Q : Exit → Act → World → Prop} {df : List Deferred} :
    ∀ (l : List Oper) (ov : List (Nat × Arg)) (m : Mem) (ov' : List (Nat × Arg)) (m' : Mem) (S : Nat → Prop) (G : Gh) (a : Act) (w : World),
      (∀ o ∈ l, ∀ t, o.dst = some t → t < nt) → (l.filterMap fun o => if allocOp o.op then o.dst else none).Nodup → (∀ o ∈ l, allocOp o.op = true → ∀ t, o.dst = some t → ¬ S t) →
      RR w0 mu G (ovLook base ov) m nt a.tmps w → Roots (ovLook base ov) m S → a.defers = df → runOps P call loc ops base l ov m = some (ov', m') →
      (∀ G' a' w', RR w0 mu G' (ovLook base ov') m' nt a'.tmps w' → a'.defers = df → Q .normal a' w') → wpListIn F n P ops Q l a w
  | [], ov, m, ov', m', S, G, a, w, _, _, _, R, _, hdf, h, hQ => by
    cases h; exact hQ G a w R hdf
  | o :: l, ov, m, ov', m', S, G, a, w, hdl, hnd, hfr, R, hR, hdf, h, hQ => by
    have hd := hdl o (by simp)
    unfold runOps at h
    split at h
    · cases h
    · rename_i hw
      have hw' := wanted_eq R hw
      show if Region.wanted o (yielded ops a.tmps) then _ else _
      rw [hw', if_neg (by simp)]
      refine ⟨fun f _ => hF.fn f, ?_⟩
      have hnd' : (l.filterMap fun o => if allocOp o.op then o.dst else none).Nodup := by
        rw [List.filterMap_cons] at hnd
        split at hnd
        · exact hnd
        · exact (List.nodup_cons.1 hnd).2
      have R' := R.putD (g := .v (.tup [])) (v := undef) hd (.tup (vs := []) .nil) (fun _ _ _ h => by cases h)
      refine runOps_wp hP hcall hF l _ m ov' m' S G (a.put o.dst undef) w (fun o' ho' => hdl o' (by simp [ho'])) hnd' (fun o' ho' => hfr o' (by simp [ho'])) ?_ ?_ (by rw [put_defers]; exact hdf) h hQ
      · rw [ovLook_put]; exact R'
      · rw [ovLook_put]
        have := hR.put (d := o.dst) (g := .v (.tup [])) (m' := m) (al := false) (fun _ _ _ h => by cases h) (.inl rfl)
        exact ⟨fun s t off c0 h => (this.1 s t off c0 h).resolve_right (by simp), fun t c h => (this.2 t c h).resolve_right (by simp)⟩
    · rename_i hw
      have hw' := wanted_eq R hw
      show if Region.wanted o (yielded ops a.tmps) then _ else _
      rw [hw', if_pos rfl]
      obtain ⟨⟨g, m1⟩, h1, h2⟩ := Option.bind_eq_some_iff.1 h
      have hfrom := opI_from hcall h1
      refine opI_wp hP hcall hF hd R (fun hal s hs => ⟨fun s' t off c0 hl e => ?_, ?_⟩) h1 (fun G' a' w' R' hdf' => ?_)
      · subst e; exact hfr o (by simp) hal t hs (hR.1 _ _ _ _ hl)
      · cases hlk : m.lc.lookup s with
        | none => rfl
        | some c => exact absurd (hR.2 s c hlk) (hfr o (by simp) hal s hs)
      · have hR' := hR.put (al := allocOp o.op) (d := o.dst) (fun t off c0 hg => (hfrom.1 t off c0 hg).imp (fun ⟨s, o', c', _, h⟩ => ⟨s, o', c', h⟩) id) (hfrom.2.imp id (fun ⟨t, c, s, off, c0, _, h1, h2⟩ => ⟨t, c, s, off, c0, h1, h2⟩))
        rw [← ovLook_put] at R' hR'
        have hnd' : (l.filterMap fun o => if allocOp o.op then o.dst else none).Nodup := by
          rw [List.filterMap_cons] at hnd
          split at hnd
          · exact hnd
          · exact (List.nodup_cons.1 hnd).2
        refine runOps_wp hP hcall hF l _ m1 ov' m' _ G' a' w' (fun o' ho' => hdl o' (by simp [ho'])) hnd' (fun o' ho' hal' t ht hS => ?_) R' hR' (hdf'.trans hdf) h2 hQ
        rcases hS with hS | ⟨hal, hS⟩
        · exact hfr o' (by simp [ho']) hal' t ht hS
        · rw [List.filterMap_cons, if_pos hal, hS] at hnd
          exact (List.nodup_cons.1 hnd).1 (List.mem_filterMap.2 ⟨o', ho', by rw [if_pos hal']; exact ht⟩)
end
end Go.Idl
