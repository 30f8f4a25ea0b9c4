/- Parts of the own ideal machine over the model (no addresses, no capacities, no tape) and of the proof that it is sound; generic in the program; no conditions. -/
import Derived.Test.YtencmmlmeifffaaDoorId
set_option linter.all false
set_option linter.unusedSectionVars false
set_option linter.unusedSimpArgs false
set_option linter.unusedVariables false
namespace Go.Idl
section
variable {P : Program} {A : Ann} {L : List Nat} {ops : Array Oper} {base : Nat → Arg} {ps : List (Nat × Nat)}
variable {loc : Nat → List Nat} {keep : Nat → Nat → List Nat} {gho : Nat → Nat → List Gho} {fin : Nat → List Gho} {heap : Nat → Bool} {ext : Nat → Option (List Vl → Option Vl)} {ro : Option Nat} {f : FuncId}
end
end Go.Idl
namespace Go.Idl
noncomputable def D (p : Prop) : Bool := @decide p (Classical.propDecidable p)
theorem D_True : D True = true := by unfold D; simp
theorem D_False : D False = false := by unfold D; simp
noncomputable def IA (p : Prop) (x y : Arg) : Arg := @ite _ p (Classical.propDecidable p) x y
noncomputable def IV (p : Prop) (x y : Vl) : Vl := @ite _ p (Classical.propDecidable p) x y
theorem IA_pos {p : Prop} (h : p) {x y : Arg} : IA p x y = x := by unfold IA; simp [h]
theorem IA_neg {p : Prop} (h : ¬ p) {x y : Arg} : IA p x y = y := by unfold IA; simp [h]
theorem IV_pos {p : Prop} (h : p) {x y : Vl} : IV p x y = x := by unfold IV; simp [h]
theorem IV_neg {p : Prop} (h : ¬ p) {x y : Vl} : IV p x y = y := by unfold IV; simp [h]
theorem IA_congr {p p' : Prop} {x x' y y' : Arg} (h : p = p') (hx : p' → x = x') (hy : ¬ p' → y = y') : IA p x y = IA p' x' y' := by
  subst h
  by_cases h : p
  · rw [IA_pos h, IA_pos h, hx h]
  · rw [IA_neg h, IA_neg h, hy h]
theorem IV_congr {p p' : Prop} {x x' y y' : Vl} (h : p = p') (hx : p' → x = x') (hy : ¬ p' → y = y') : IV p x y = IV p' x' y' := by
  subst h
  by_cases h : p
  · rw [IV_pos h, IV_pos h, hx h]
  · rw [IV_neg h, IV_neg h, hy h]
attribute [congr] IA_congr IV_congr
def WI (p X Y : Prop) : Prop := (p → X) ∧ (¬ p → Y)
theorem WI_congr {p p' X X' Y Y' : Prop} (h : p = p') (hx : p' → X = X') (hy : ¬ p' → Y = Y') : WI p X Y = WI p' X' Y' := by
  subst h
  unfold WI
  by_cases h : p
  · simp [h, hx h]
  · simp [h, hy h]
attribute [congr] WI_congr
def WGm {α : Type} (p : Prop) (a : Option α) (N : α → Prop) (Y : Prop) : Prop := (p → OB a N) ∧ (¬ p → Y)
theorem WGm_congr {α : Type} {p p' : Prop} {a a' : Option α} {N : α → Prop} {Y : Prop} (h : p = p') (ha : p' → a = a') : WGm p a N Y = WGm p' a' N Y := by
  subst h
  unfold WGm
  by_cases h : p
  · simp [h, ha h]
  · simp [h]
attribute [congr] WGm_congr
section
variable {P : Program} {A : Ann} {L : List Nat} {ops : Array Oper} {base : Nat → Arg} {d : Option Nat} {op : Op} {os : List Oper} {ov : List (Nat × Arg)} {m : Mem} {Q : List (Nat × Arg) → Mem → Prop}
variable {ps : List (Nat × Nat)} {n : Nat} {rs rs' : List (Nat × (Mem → Prop))} {ms : List (Nat × Mem)}
def WGc (p X Y : Prop) : Prop := (p → X) ∧ (¬ p → Y)
theorem WGc_congr {p p' X X' Y : Prop} (h : p = p') (hx : p' → X = X') : WGc p X Y = WGc p' X' Y := by
  subst h
  unfold WGc
  by_cases h : p
  · simp [h, hx h]
  · simp [h]
attribute [congr] WGc_congr
theorem wantV_IV {p : Prop} {b : Bool} {l : List Vl} {w : Bool} : wantV (.v (IV p (.bool b) (.tup l))) w = some (D (p ∧ b = w)) := by
  by_cases h : p
  · rw [IV_pos h]
    show some (b == w) = _
    cases b <;> cases w <;> simp [h, D_True, D_False]
  · rw [IV_neg h]
    show some false = _
    simp [h, D_False]
theorem wantV_b {b w : Bool} : wantV (.v (.bool b)) w = some (b == w) := rfl
end
end Go.Idl
namespace Go.Idl
theorem ghosts_cons {g : Gho} {gs : List Gho} {s : FS} : ghosts (g :: gs) s = (g.run s).bind (ghosts gs) := rfl
theorem lookup_if {a t : Nat} {v : Vl} {l : List (Nat × Vl)} : List.lookup t ((a, v) :: l) = if t = a then some v else List.lookup t l := by
  rw [List.lookup_cons]
  by_cases h : t = a
  · subst h; simp
  · have e : (t == a) = false := by simp [h]
    rw [e, if_neg h]
def delS (t : Nat) : List (Nat × Vl) → List (Nat × Vl)
  | [] => []
  | (a, v) :: l => if a = t then delS t l else (a, v) :: delS t l
theorem delS_nil {t : Nat} : delS t [] = [] := rfl
theorem delS_cons {t a : Nat} {v : Vl} {l : List (Nat × Vl)} : delS t ((a, v) :: l) = if a = t then delS t l else (a, v) :: delS t l := rfl
theorem setS_del {sl : List (Nat × Vl)} {t : Nat} {v : Vl} : setS sl t v = (t, v) :: delS t sl := by
  unfold setS
  congr 1
  induction sl with
  | nil => rfl
  | cons x l ih =>
    obtain ⟨a, w⟩ := x
    rw [List.filter_cons, delS_cons]
    by_cases h : a = t
    · subst h; simpa using ih
    · simp [h, ih]
def ownFV (s : FS) (t off e : Nat) : Option Vl → Option FS
  | some (.loc (.agg cs)) => match cs[off]? with
    | some .nils => if 0 < e then some { sl := setS s.sl t (.loc (.agg (cs.set off (.own s.nx 0)))), hp := upd s.hp s.nx (.arr e []), nx := s.nx + 1 } else none
    | _ => none
  | _ => none
theorem run_ownF {s : FS} {t off e : Nat} : (Gho.ownF t off e).run s = ownFV s t off e (s.sl.lookup t) := by
  unfold Gho.run ownFV
  rfl
theorem ownFV_loc {s : FS} {t off e : Nat} {cs : List Vl} (h : cs[off]? = some .nils) (he : 0 < e) : ownFV s t off e (some (.loc (.agg cs))) = some { sl := setS s.sl t (.loc (.agg (cs.set off (.own s.nx 0)))), hp := upd s.hp s.nx (.arr e []), nx := s.nx + 1 } := by
  simp only [ownFV, h, if_pos he]
def frzV (s : FS) (t : Nat) : Option Vl → Option FS
  | some (.loc c) => match reify s.hp c with
    | some r => some { s with sl := setS s.sl t (.loc r.1), hp := killHp r.2 s.hp }
    | none => some s
  | some v => if v.frz? then
      match reify s.hp v with
      | some r => some { s with sl := setS s.sl t r.1, hp := killHp r.2 s.hp }
      | none => some s
    else some s
  | none => some s
theorem run_frz {s : FS} {t : Nat} : (Gho.frz t).run s = frzV s t (s.sl.lookup t) := by
  unfold Gho.run frzV
  rfl
theorem frzV_lst {s : FS} {t e : Nat} {xs : List Vl} {x : Bool} : frzV s t (some (.lst e xs x)) = some s := rfl
theorem frzV_nils {s : FS} {t : Nat} : frzV s t (some .nils) = some s := rfl
attribute [go_sem] ghosts_cons lookup_if delS_nil delS_cons setS_del run_ownF ownFV_loc List.set_cons_zero List.set_cons_succ Nat.zero_lt_succ
section
variable {P : Program} {A : Ann}
variable {m : Mem}
end
end Go.Idl
namespace Go.Idl
section
variable {P : Program} {A : Ann} {L : List Nat} {ops : Array Oper} {base : Nat → Arg} {ov : List (Nat × Arg)} {d : Option Nat} {op : Op} {os : List Oper} {m : Mem} {Q : List (Nat × Arg) → Mem → Prop}
variable {loc : Nat → List Nat} {keep : Nat → Nat → List Nat} {gho : Nat → Nat → List Gho} {fin : Nat → List Gho} {heap : Nat → Bool} {ext : Nat → Option (List Vl → Option Vl)} {ro : Option Nat} {f : FuncId}
end
end Go.Idl
namespace Go.Idl
section
variable {P : Program} {A : Ann} {ro : Option Nat} {f : FuncId}
variable {hp : Nat → Ob} {id n nx e : Nat} {lc : List (Nat × Vl)} {xs : List Vl}
theorem ixU {eb : Nat} {ez : Vl} {k : IntKind} {i : Int} (hn : xs.length = n) (h0 : 0 ≤ i) (h1 : i < n) (he : e ≠ 0) : indexAddrV (.slice e eb ez) (.v (.own id n)) (.int k i) { lc := lc, hp := upd hp id (.arr e xs), nx := nx } = some (.v (.ep id n i.toNat 0), { lc := lc, hp := upd hp id (.arr e xs), nx := nx }) :=
  indexAddr_own (upd_same _ _ _) hn ⟨h0, h1⟩ he
theorem rdU {ag : Bool} {sz j off : Nat} (hn : xs.length = n) : Mem.read { lc := lc, hp := upd hp id (.arr e xs), nx := nx } ag sz (.v (.ep id n j off)) = (xs[j]?).bind (sub ag sz off) := by
  simp only [Mem.read, upd_same, hn, if_true]
theorem wrU {v : Vl} {j off : Nat} (hn : xs.length = n) : Mem.write { lc := lc, hp := upd hp id (.arr e xs), nx := nx } v (.v (.ep id n j off)) = (xs[j]?).bind fun x => (put off v x).map fun c => { lc := lc, hp := upd hp id (.arr e (xs.set j c)), nx := nx } := by
  simp only [Mem.write, upd_same, hn, if_true, upd_upd]
mutual
theorem reify_flatV {inn : Vl → Option (Vl × List Nat)} {hp : Nat → Ob} : ∀ x : Vl, x.flat = true → reifyF inn hp x = some (x, [])
  | .int .., _ | .bool _, _ | .str _, _ | .nils, _ | .nilp, _ | .nilf, _ | .nili, _ | .nilm, _ => rfl
  | .agg cs, h => by simp only [reifyF, reify_flatL cs h]; rfl
  | .tup cs, h => by simp only [reifyF, reify_flatL cs h]; rfl
  | .ifc t v, h => by simp only [reifyF, reify_flatV v h]; rfl
theorem reify_flatL {inn : Vl → Option (Vl × List Nat)} {hp : Nat → Ob} : ∀ xs : List Vl, flatL xs = true → reifyL inn hp xs = some (xs, [])
  | [], _ => rfl
  | x :: xs, h => by
    simp only [flatL, Bool.and_eq_true] at h
    simp only [reifyL, reify_flatV x h.1, reify_flatL xs h.2, Option.bind_some, Option.map_some]
    rfl
end
theorem mapR_flat {inn : Vl → Option (Vl × List Nat)} : ∀ xs : List Vl, flatL xs = true → mapR (reifyF inn hp) xs = some (xs, [])
  | [], _ => rfl
  | x :: xs, h => by
    simp only [flatL, Bool.and_eq_true] at h
    simp only [mapR, reify_flatV x h.1, mapR_flat xs h.2, Option.bind_some, Option.map_some]
    rfl
theorem rfU (hn : xs.length = n) (hf : flatL xs = true) : reify (upd hp id (.arr e xs)) (.own id n) = some (.lst e xs false, [id]) := by
  unfold reify
  simp only [reifyF, upd_same, hn, if_true, mapR_flat xs hf, Option.map_some]
theorem kill1 {o : Ob} : killHp [id] (upd hp id o) = upd hp id (froOb o) := by
  show upd (upd hp id o) id (froOb (upd hp id o id)) = _
  rw [upd_same, upd_upd]
theorem froOb_arr : froOb (.arr e xs) = .fro e xs := rfl
end
def frzR (f : Vl → Vl) (s : FS) (t : Nat) : Option (Vl × List Nat) → Option FS
  | some r => some { s with sl := setS s.sl t (f r.1), hp := killHp r.2 s.hp }
  | none => some s
theorem frzR_some {f : Vl → Vl} {s : FS} {t : Nat} {y : Vl} {ks : List Nat} : frzR f s t (some (y, ks)) = some { s with sl := setS s.sl t (f y), hp := killHp ks s.hp } := rfl
theorem frzV_own2 {s : FS} {t id n : Nat} : frzV s t (some (.own id n)) = frzR (fun y => y) s t (reify s.hp (.own id n)) := by
  cases h : reify s.hp (.own id n) with
  | none => simp only [frzV, h, frzR, Vl.frz?, if_true]
  | some r => simp only [frzV, h, frzR, Vl.frz?, if_true]
theorem frzV_agg2 {s : FS} {t : Nat} {cs : List Vl} : frzV s t (some (.agg cs)) = frzR (fun y => y) s t (reify s.hp (.agg cs)) := by
  cases h : reify s.hp (.agg cs) with
  | none => simp only [frzV, h, frzR, Vl.frz?, if_true]
  | some r => simp only [frzV, h, frzR, Vl.frz?, if_true]
theorem frzV_loc2 {s : FS} {t : Nat} {c : Vl} : frzV s t (some (.loc c)) = frzR Vl.loc s t (reify s.hp c) := by
  cases h : reify s.hp c with
  | none => simp only [frzV, h, frzR]
  | some r => simp only [frzV, h, frzR]
attribute [go_sem] run_frz frzR_some frzV_own2 frzV_agg2 frzV_loc2 frzV_lst frzV_nils
attribute [go_sem] ixU rdU wrU rfU kill1 froOb_arr flatL Vl.flat
end Go.Idl
namespace Go.Idl
section
variable {P : Program} {L : List Nat} {d : Option Nat} {ρ : Operand → Arg} {m : Mem}
def makeMapV (k : TK) (m : Mem) : Option (Arg × Mem) := match k with
  | .map (some kk) _ => some (.v (.mp m.nx), { m with hp := upd m.hp m.nx (.map kk []), nx := m.nx + 1 })
  | _ => none
theorem op0_makeMap {t : TypeId} : op0 P L d (.makeMap t none) ρ m = makeMapV (tdOf P t).k m := by
  show evalV P d (.makeMap t none) ρ m = _
  simp only [evalV, makeMapV]
  generalize (tdOf P t).k = k
  cases k <;> try rfl
  rename_i kk ez
  cases kk <;> rfl
theorem makeMapV_eq {kk : KK} {ez : Vl} : makeMapV (.map (some kk) ez) m = some (.v (.mp m.nx), { m with hp := upd m.hp m.nx (.map kk []), nx := m.nx + 1 }) := rfl
def mapEs (kk : KK) (x : Vl) (m : Mem) : Option (List (Vl × Vl)) := match x with
  | .nilm => some []
  | .mp id => match m.hp id with
    | .map kk' es => if kk = kk' then some es else none
    | _ => none
  | _ => none
def lookV (ez i : Vl) (ok : Bool) (es : List (Vl × Vl)) : Vl := match findI i es with
  | some v => if ok then .tup [v, .bool true] else v
  | none => if ok then .tup [ez, .bool false] else ez
def lookupV (k : TK) (x i : Vl) (ok : Bool) (m : Mem) : Option (Arg × Mem) := match k with
  | .map (some kk) ez => if keyOk kk i && !ez.undef? then (mapEs kk x m).map fun es => (.v (lookV ez i ok es), m) else none
  | _ => none
theorem op0_lookup {t : TypeId} {x i : Operand} {ok : Bool} : op0 P L d (.lookup t x i ok) ρ m = lookupV (tdOf P t).k (ρ x).vl (ρ i).vl ok m := by
  show evalV P d (.lookup t x i ok) ρ m = _
  simp only [evalV, lookupV]
  generalize (tdOf P t).k = k
  cases k <;> try rfl
  rename_i kk ez
  cases kk <;> try rfl
  rename_i kk
  simp only [mapEs]
  split
  · congr 1
    funext es
    unfold lookV
    split <;> rename_i h <;> rw [h]
  · rfl
def mapUpdateV (k : TK) (x i y : Vl) (m : Mem) : Option (Arg × Mem) := match k, x with
  | .map (some kk) _, .mp id => match m.hp id with
    | .map kk' es => if keyOk kk i && decide (kk = kk') then some (.v .undef, { m with hp := upd m.hp id (.map kk (setI i y es)) }) else none
    | _ => none
  | _, _ => none
theorem op0_mapUpdate {t : TypeId} {x i y : Operand} : op0 P L d (.mapUpdate t x i y) ρ m = mapUpdateV (tdOf P t).k (ρ x).vl (ρ i).vl (ρ y).vl m := rfl
theorem keyOk_i {k : IntKind} {n : Int} : keyOk (.i k) (.int k n) = true := by simp [keyOk]
theorem keyOk_s {s : ByteArray} : keyOk .s (.str s) = true := rfl
theorem keyOk_b {b : Bool} : keyOk .b (.bool b) = true := rfl
def sliceV (k : TK) (x : Vl) (lo hi mx : Option Vl) (m : Mem) : Option (Arg × Mem) := match k, x with
  | .str, .str s => if mx.isNone then (cutV s.size lo hi).map fun p => (.v (.str (s.extract p.1 p.2)), m) else none
  | .slice esz _ _, x =>
    let c : Option (List Vl) := match x with
      | .nils => some []
      | .lst e xs _ => if e = esz then some xs else none
      | .own id n => match m.hp id with
        | .fro e xs => if xs.length = n ∧ e = esz then some xs else none
        | _ => none
      | _ => none
    if esz = 0 then none else c.bind fun xs =>
    match mx with
    | none => (cutV xs.length lo hi).map fun p => (.v (.lst esz ((xs.take p.2).drop p.1) false), m)
    | some mv => (intOf? mv).bind fun mi => if 0 ≤ mi ∧ mi ≤ xs.length then
        if hi.isSome then (cutV mi.toNat lo hi).map fun p => (.v (.lst esz ((xs.take p.2).drop p.1) (p.2 == mi.toNat)), m) else none
      else none
  | _, _ => none
theorem op0_slice {t : TypeId} {x : Operand} {lo hi mx : Option Operand} (hL : (d.map fun d => L.elem d).getD false = false) : op0 P L d (.slice t x lo hi mx) ρ m = sliceV (tdOf P t).k (ρ x).vl (lo.map fun o => (ρ o).vl) (hi.map fun o => (ρ o).vl) (mx.map fun o => (ρ o).vl) m := by
  show opI P _ _ _ _ m = _
  unfold opI
  simp only
  rw [hL]
  simp only [Bool.false_eq_true, if_false, evalV, sliceV, Option.isNone_map, Option.isSome_map]
  rfl
theorem slice_from {e eb : Nat} {ez : Vl} {xs : List Vl} {x : Bool} {k : IntKind} {l : Int} (he : e ≠ 0) (h0 : 0 ≤ l) (h1 : l ≤ xs.length) : sliceV (.slice e eb ez) (.lst e xs x) (some (.int k l)) none none m = some (.v (.lst e (xs.drop l.toNat) false), m) := by
  simp only [sliceV, he, if_false, if_true, Option.bind_some, cutV, intOf?, h0, h1, and_self, Option.map_some, List.take_length]
theorem slice_to {e eb : Nat} {ez : Vl} {xs : List Vl} {x : Bool} {k : IntKind} {l : Int} (he : e ≠ 0) (h0 : 0 ≤ l) (h1 : l ≤ xs.length) : sliceV (.slice e eb ez) (.lst e xs x) none (some (.int k l)) none m = some (.v (.lst e (xs.take l.toNat) false), m) := by
  simp only [sliceV, he, if_false, if_true, Option.bind_some, cutV, intOf?, h0, h1, and_self, Option.map_some, List.drop_zero]
theorem slice_fromM {α : Type} {f : α → Vl} {e eb : Nat} {ez : Vl} {xs : List α} {x : Bool} {k : IntKind} {l : Int} (he : e ≠ 0) (h0 : 0 ≤ l) (h1 : l ≤ xs.length) : sliceV (.slice e eb ez) (.lst e (xs.map f) x) (some (.int k l)) none none m = some (.v (.lst e ((xs.drop l.toNat).map f) false), m) := by
  rw [slice_from he h0 (by rw [List.length_map]; exact h1), List.map_drop]
theorem slice_toM {α : Type} {f : α → Vl} {e eb : Nat} {ez : Vl} {xs : List α} {x : Bool} {k : IntKind} {l : Int} (he : e ≠ 0) (h0 : 0 ≤ l) (h1 : l ≤ xs.length) : sliceV (.slice e eb ez) (.lst e (xs.map f) x) none (some (.int k l)) none m = some (.v (.lst e ((xs.take l.toNat).map f) false), m) := by
  rw [slice_to he h0 (by rw [List.length_map]; exact h1), List.map_take]
theorem slice_all {e eb : Nat} {ez : Vl} {xs : List Vl} {x : Bool} {k k' : IntKind} {l l' : Int} (he : e ≠ 0) (h1 : l = xs.length) (h2 : l' = xs.length) : sliceV (.slice e eb ez) (.lst e xs x) none (some (.int k l)) (some (.int k' l')) m = some (.v (.lst e xs true), m) := by
  subst h1 h2
  have h0 : (0 : Int) ≤ (xs.length : Int) := by omega
  have h3 : (xs.length : Int).toNat = xs.length := by omega
  simp [sliceV, he, cutV, intOf?, h0, h3]
def nilV (k : TK) (v : Vl) : Option Bool := if kindOf k v then isNil v else none
theorem nil_bin {td : TD} {op : BinOp} {k : TK} {c : Value} {x : Vl} (h : nilOf k c = true) : binOpV td op x (ofConst c) = none := by
  unfold nilOf at h
  split at h <;> first | (cases x <;> rfl) | cases h
theorem op0_neqNil {look : Nat → Arg} {t yt : TypeId} {x : Operand} {c : Value} (h : nilOf (tdOf P t).k c = true) : op0 P L d (.binOp .neq t x (.const c) yt) (rho look) m = (nilV (tdOf P t).k ((rho look) x).vl).map fun b => (.v (.bool !b), m) := by
  show evalV P d (.binOp .neq t x (.const c) yt) (rho look) m = _
  simp only [evalV, nilCmp, nilConst, h, if_true]
  have e : (if kindOf (tdOf P t).k ((rho look) x).vl = true then isNil ((rho look) x).vl else none) = nilV (tdOf P t).k ((rho look) x).vl := rfl
  rw [e]
  cases nilV (tdOf P t).k ((rho look) x).vl with
  | some b => rfl
  | none =>
    have hb : binOpV (tdOf P t) .neq ((rho look) x).vl ((rho look) (.const c)).vl = none := nil_bin h
    simp only [hb, Option.map_none]
theorem op0_eqlNil {look : Nat → Arg} {t yt : TypeId} {x : Operand} {c : Value} (h : nilOf (tdOf P t).k c = true) : op0 P L d (.binOp .eql t x (.const c) yt) (rho look) m = (nilV (tdOf P t).k ((rho look) x).vl).map fun b => (.v (.bool b), m) := by
  show evalV P d (.binOp .eql t x (.const c) yt) (rho look) m = _
  simp only [evalV, nilCmp, nilConst, h, if_true]
  have e : (if kindOf (tdOf P t).k ((rho look) x).vl = true then isNil ((rho look) x).vl else none) = nilV (tdOf P t).k ((rho look) x).vl := rfl
  rw [e]
  cases nilV (tdOf P t).k ((rho look) x).vl with
  | some b => rfl
  | none =>
    have hb : binOpV (tdOf P t) .eql ((rho look) x).vl ((rho look) (.const c)).vl = none := nil_bin h
    simp only [hb, Option.map_none]
theorem nilV_nils {e eb : Nat} {ez : Vl} : nilV (.slice e eb ez) .nils = some true := rfl
def ownV (s : FS) (t e : Nat) : Option Vl → Option FS
  | some .nils => if 0 < e then some { sl := setS s.sl t (.own s.nx 0), hp := upd s.hp s.nx (.arr e []), nx := s.nx + 1 } else none
  | _ => none
theorem run_own {s : FS} {t e : Nat} : (Gho.own t e).run s = ownV s t e (s.sl.lookup t) := by
  unfold Gho.run ownV
  rfl
theorem ownV_nils {s : FS} {t e : Nat} (he : 0 < e) : ownV s t e (some .nils) = some { sl := setS s.sl t (.own s.nx 0), hp := upd s.hp s.nx (.arr e []), nx := s.nx + 1 } := by
  simp only [ownV, if_pos he]
def cutQ (J : FS → Prop) (Q : XE → FS → Prop) (x : XE) (s : FS) : Prop := match x with
  | .normal => J s
  | x => Q x s
theorem cutQ_normal {J : FS → Prop} {Q : XE → FS → Prop} {s : FS} : cutQ J Q .normal s = J s := rfl
theorem cutQ_ret {J : FS → Prop} {Q : XE → FS → Prop} {s : FS} : cutQ J Q .ret s = Q .ret s := rfl
theorem cutQ_exit {J : FS → Prop} {Q : XE → FS → Prop} {s : FS} {i : Nat} : cutQ J Q (.exit i) s = Q (.exit i) s := rfl
theorem wantV_tup {l : List Vl} {w : Bool} : wantV (.v (.tup l)) w = some false := rfl
end
attribute [go_sem] wantV_tup wantV_b wantV_IV Bool.not_eq_false'
attribute [go_sem ↓] cutQ_normal cutQ_ret cutQ_exit op0_neqNil op0_eqlNil
attribute [go_sem high] slice_fromM slice_toM
attribute [go_sem] run_own ownV_nils nilV_nils nilOf
attribute [go_sem] op0_makeMap makeMapV_eq op0_lookup op0_mapUpdate keyOk_i keyOk_s keyOk_b op0_slice slice_from slice_to slice_all lookupV mapEs mapUpdateV Option.isNone_none
end Go.Idl
