/- Parts of the own ideal machine over the model (no addresses, no capacities, no tape) and of the proof that it is sound; generic in the program; no conditions. -/
import Derived.Test.YtoamjmokonnglaaDoorIc
import Derived.Attr
set_option linter.all false
set_option linter.unusedSectionVars false
set_option linter.unusedSimpArgs false
set_option linter.unusedVariables false
namespace Go.Idl
def OB {α : Type} (a : Option α) (f : α → Prop) : Prop := ∃ r, a = some r ∧ f r
theorem OB_congr {α : Type} {a a' : Option α} {f : α → Prop} (h : a = a') : OB a f = OB a' f := by rw [h]
attribute [congr] OB_congr
theorem OB_some {α : Type} {a : α} {f : α → Prop} : OB (some a) f = f a := by
  unfold OB
  simp
theorem OB_none {α : Type} {f : α → Prop} : OB none f = False := by
  unfold OB
  simp
theorem OB_map {α β : Type} {a : Option α} {g : α → β} {f : β → Prop} : OB (a.map g) f = OB a fun x => f (g x) := by
  unfold OB
  cases a <;> simp
theorem OB_bind {α β : Type} {a : Option α} {g : α → Option β} {f : β → Prop} : OB (a.bind g) f = OB a fun x => OB (g x) f := by
  unfold OB
  cases a <;> simp
def Od {α : Type} (a : Option α) : Option α := a
theorem Od_some {α : Type} {a : α} : Od (some a) = some a := by
  have h : ∀ b : Option α, Od b = b := fun b => by cases b <;> rfl
  exact (h _).trans rfl
theorem Od_map {α β : Type} {a : Option α} {f : α → β} : Od (a.map f) = (Od a).map f := by cases a <;> rfl
theorem Od_bind {α β : Type} {a : Option α} {f : α → Option β} : Od (a.bind f) = (Od a).bind f := by cases a <;> rfl
def Wd (a : Option Bool) : Option Bool := a
theorem Wd_some {b : Bool} : Wd (some b) = some b := by cases b <;> rfl
def Bd (v : Vl) : Vl := v
theorem Bd_bool {b : Bool} : Bd (.bool b) = .bool b := by cases b <;> rfl
section
variable {P : Program} {A : Ann} {ro : Option Nat} {f : FuncId}
theorem callI_fun {c : Vl} {args : List Arg} {m m1 m2 : Mem} {v1 v2 : Vl} (h : CallsTo P A c args m v1 m1) (k : CallsTo P A c args m v2 m2) : v1 = v2 ∧ m1 = m2 := by
  obtain ⟨k1, h⟩ := h
  obtain ⟨k2, k⟩ := k
  have e1 := callI_mono (P := P) (A := A) (fun ro => exec_mono (Nat.le_max_left k1 k2) ro) c args m _ h
  have e2 := callI_mono (P := P) (A := A) (fun ro => exec_mono (Nat.le_max_right k1 k2) ro) c args m _ k
  rw [e1] at e2
  simpa using e2
def WC (P : Program) (A : Ann) (c : Vl) (args : List Arg) (m : Mem) (K : Vl → Mem → Prop) : Prop := ∃ v m', CallsTo P A c args m v m' ∧ K v m'
theorem WC_congr {c c' : Vl} {args args' : List Arg} {m m' : Mem} {K : Vl → Mem → Prop} (h1 : c = c') (h2 : args = args') (h3 : m = m') : WC P A c args m K = WC P A c' args' m' K := by rw [h1, h2, h3]
attribute [congr] WC_congr
theorem WC_eq {c : Vl} {args : List Arg} {m m' : Mem} {v : Vl} {K : Vl → Mem → Prop} (h : CallsTo P A c args m v m') : WC P A c args m K = K v m' := by
  refine propext ⟨fun ⟨v', m1, h1, h2⟩ => ?_, fun k => ⟨v, m', h, k⟩⟩
  obtain ⟨rfl, rfl⟩ := callI_fun h h1
  exact h2
theorem WC.mono {c : Vl} {args : List Arg} {m : Mem} {K K' : Vl → Mem → Prop} (h : WC P A c args m K) (k : ∀ v m', K v m' → K' v m') : WC P A c args m K' := by
  obtain ⟨v, m', h1, h2⟩ := h
  exact ⟨v, m', h1, k _ _ h2⟩
def WO (P : Program) (A : Ann) (L : List Nat) (ops : Array Oper) (base : Nat → Arg) (os : List Oper) (ov : List (Nat × Arg)) (m : Mem) (Q : List (Nat × Arg) → Mem → Prop) : Prop :=
  ∃ ov' m', OpsTo P A (fun d => L.elem d) ops base os ov m ov' m' ∧ Q ov' m'
theorem WO_congr {L : List Nat} {ops : Array Oper} {base base' : Nat → Arg} {os : List Oper} {ov ov' : List (Nat × Arg)} {m m' : Mem} {Q : List (Nat × Arg) → Mem → Prop} (h0 : base = base') (h1 : ov = ov') (h2 : m = m') :
    WO P A L ops base os ov m Q = WO P A L ops base' os ov' m' Q := by rw [h0, h1, h2]
attribute [congr] WO_congr
def isCallV : Op → Bool
  | .call { callee := .value _, .. } | .call { callee := .invoke .., .. } => true
  | _ => false
def op0 (P : Program) (L : List Nat) (d : Option Nat) (op : Op) (ρ : Operand → Arg) (m : Mem) : Option (Arg × Mem) := opI P (fun _ _ _ => none) (fun d => L.elem d) ⟨d, op, 0, "", #[], none⟩ ρ m
theorem opI_op0 {call : Caller} {L : List Nat} {d : Option Nat} {op : Op} {ty : TypeId} {pos : String} {aft : Array Edge} {gd : Option (Nat × Bool)} {ρ : Operand → Arg} {m : Mem} (h : isCallV op = false) :
    opI P call (fun d => L.elem d) ⟨d, op, ty, pos, aft, gd⟩ ρ m = op0 P L d op ρ m := by
  unfold op0
  cases op <;> try rfl
  case call c =>
    obtain ⟨callee, as, ts⟩ := c
    cases callee with
    | value _ => cases h
    | invoke _ _ => cases h
    | builtin _ => rfl
variable {L : List Nat} {ops : Array Oper} {base : Nat → Arg} {d : Option Nat} {op : Op} {ty : TypeId} {pos : String} {aft : Array Edge} {os : List Oper} {ov : List (Nat × Arg)} {m : Mem} {Q : List (Nat × Arg) → Mem → Prop}
theorem WO_nil : WO P A L ops base [] ov m Q = Q ov m := by
  refine propext ⟨fun ⟨ov', m', ⟨k, h⟩, hq⟩ => ?_, fun h => ⟨ov, m, ⟨0, rfl⟩, h⟩⟩
  cases h; exact hq
theorem WO_step {o : Oper} (hc : isCallV o.op = false) (hw : wantedI ops (ovLook base ov) o = some true) : WO P A L ops base (o :: os) ov m Q =
    OB (op0 P L o.dst o.op (rho (ovLook base ov)) m) fun r => WO P A L ops base os (ovPut o.dst r.1 ov) r.2 Q := by
  obtain ⟨d, op, ty, pos, aft, gd⟩ := o
  refine propext ⟨fun ⟨ov', m', ⟨k, h⟩, hq⟩ => ?_, fun ⟨r, h1, ov', m', ⟨k, h⟩, hq⟩ => ⟨ov', m', ⟨k, ?_⟩, hq⟩⟩
  · rw [runOps, hw] at h
    simp only at h
    rw [opI_op0 hc] at h
    obtain ⟨r, h1, h2⟩ := Option.bind_eq_some_iff.1 h
    exact ⟨r, h1, ov', m', ⟨k, h2⟩, hq⟩
  · rw [runOps, hw]
    simp only
    rw [opI_op0 hc, h1]
    exact h
theorem WO_plain (hc : isCallV op = false) : WO P A L ops base (⟨d, op, ty, pos, aft, none⟩ :: os) ov m Q =
    OB (op0 P L d op (rho (ovLook base ov)) m) fun r => WO P A L ops base os (ovPut d r.1 ov) r.2 Q := WO_step hc rfl
theorem WO_skip {o : Oper} (hw : wantedI ops (ovLook base ov) o = some false) : WO P A L ops base (o :: os) ov m Q = WO P A L ops base os (ovPut o.dst (.v (.tup [])) ov) m Q := by
  refine propext ⟨fun ⟨ov', m', ⟨k, h⟩, hq⟩ => ⟨ov', m', ⟨k, ?_⟩, hq⟩, fun ⟨ov', m', ⟨k, h⟩, hq⟩ => ⟨ov', m', ⟨k, ?_⟩, hq⟩⟩
  · rw [runOps, hw] at h; exact h
  · rw [runOps, hw]; exact h
theorem WO_callW {fo : Operand} {as : Array Operand} {ats : Array TypeId} {gd : Option (Nat × Bool)} (hw : wantedI ops (ovLook base ov) ⟨d, .call ⟨.value fo, as, ats⟩, ty, pos, aft, gd⟩ = some true) :
    WO P A L ops base (⟨d, .call ⟨.value fo, as, ats⟩, ty, pos, aft, gd⟩ :: os) ov m Q =
    WC P A (rho (ovLook base ov) fo).vl (as.toList.map (rho (ovLook base ov))) m fun v m' => WO P A L ops base os (ovPut d (.v v) ov) m' Q := by
  refine propext ⟨fun ⟨ov', m', ⟨k, h⟩, hq⟩ => ?_, fun ⟨v, m1, ⟨k1, h1⟩, ov', m', ⟨k2, h2⟩, hq⟩ => ⟨ov', m', ⟨max k1 k2, ?_⟩, hq⟩⟩
  · rw [runOps, hw] at h
    simp only [opI] at h
    obtain ⟨r, h1, h2⟩ := Option.bind_eq_some_iff.1 h
    obtain ⟨⟨v, m1⟩, h3, h4⟩ := Option.map_eq_some_iff.1 h1
    cases h4
    exact ⟨v, m1, ⟨k, h3⟩, ov', m', ⟨k, h2⟩, hq⟩
  · rw [runOps, hw]
    simp only [opI]
    have e1 := callI_mono (P := P) (A := A) (fun ro => exec_mono (Nat.le_max_left k1 k2) ro) _ _ _ _ h1
    rw [e1]
    exact runOps_mono (callI_mono (fun ro => exec_mono (Nat.le_max_right k1 k2) ro)) _ _ _ _ _ _ _ h2
theorem WO_call {fo : Operand} {as : Array Operand} {ats : Array TypeId} : WO P A L ops base (⟨d, .call ⟨.value fo, as, ats⟩, ty, pos, aft, none⟩ :: os) ov m Q =
    WC P A (rho (ovLook base ov) fo).vl (as.toList.map (rho (ovLook base ov))) m fun v m' => WO P A L ops base os (ovPut d (.v v) ov) m' Q := WO_callW rfl
def WV (P : Program) (A : Ann) (x : Vl) (name : String) (args : List Arg) (m : Mem) (K : Vl → Mem → Prop) : Prop :=
  ∃ t v g, x = .ifc t v ∧ methI P t name = some g ∧ WC P A (.fn (.func g) [v] []) args m K
theorem WV_congr {x x' : Vl} {name : String} {args args' : List Arg} {m m' : Mem} {K : Vl → Mem → Prop} (h1 : x = x') (h2 : args = args') (h3 : m = m') : WV P A x name args m K = WV P A x' name args' m' K := by rw [h1, h2, h3]
attribute [congr] WV_congr
theorem WV_ifc {t : TypeId} {v : Vl} {name : String} {g : FuncId} {args : List Arg} {m : Mem} {K : Vl → Mem → Prop} (h : methI P t name = some g) : WV P A (.ifc t v) name args m K = WC P A (.fn (.func g) [v] []) args m K :=
  propext ⟨fun ⟨_, _, _, h1, h2, h3⟩ => by cases h1; rw [h] at h2; cases h2; exact h3, fun h3 => ⟨t, v, g, rfl, h, h3⟩⟩
theorem opI_inv {call : Caller} {loc : Nat → Bool} {ro : Operand} {name : String} {as : Array Operand} {ats : Array TypeId} {aft : Array Edge} {gd : Option (Nat × Bool)} {ρ : Operand → Arg} {r : Arg × Mem} :
    opI P call loc ⟨d, .call ⟨.invoke ro name, as, ats⟩, ty, pos, aft, gd⟩ ρ m = some r ↔ ∃ t v g q, (ρ ro).vl = .ifc t v ∧ methI P t name = some g ∧ call (.fn (.func g) [v] []) (as.toList.map ρ) m = some q ∧ r = (.v q.1, q.2) := by
  simp only [opI]
  constructor
  · intro h
    split at h
    case h_2 => cases h
    rename_i t v hx
    obtain ⟨g, h1, h2⟩ := Option.bind_eq_some_iff.1 h
    obtain ⟨q, h3, h4⟩ := Option.map_eq_some_iff.1 h2
    exact ⟨t, v, g, q, hx, h1, h3, h4.symm⟩
  · rintro ⟨t, v, g, q, hx, h1, h3, rfl⟩
    rw [hx]
    simp only [h1, Option.bind_some, h3, Option.map_some]
theorem WO_invW {fo : Operand} {name : String} {as : Array Operand} {ats : Array TypeId} {gd : Option (Nat × Bool)} (hw : wantedI ops (ovLook base ov) ⟨d, .call ⟨.invoke fo name, as, ats⟩, ty, pos, aft, gd⟩ = some true) :
    WO P A L ops base (⟨d, .call ⟨.invoke fo name, as, ats⟩, ty, pos, aft, gd⟩ :: os) ov m Q =
    WV P A (rho (ovLook base ov) fo).vl name (as.toList.map (rho (ovLook base ov))) m fun v m' => WO P A L ops base os (ovPut d (.v v) ov) m' Q := by
  refine propext ⟨fun ⟨ov', m', ⟨k, h⟩, hq⟩ => ?_, fun ⟨t, x, g, hx, hg, v, m1, ⟨k1, h1⟩, ov', m', ⟨k2, h2⟩, hq⟩ => ⟨ov', m', ⟨max k1 k2, ?_⟩, hq⟩⟩
  · rw [runOps, hw] at h
    obtain ⟨r, h1, h2⟩ := Option.bind_eq_some_iff.1 h
    obtain ⟨t, x, g, ⟨v, m1⟩, hx, hg, h3, rfl⟩ := opI_inv.1 h1
    exact ⟨t, x, g, hx, hg, v, m1, ⟨k, h3⟩, ov', m', ⟨k, h2⟩, hq⟩
  · rw [runOps, hw]
    have e1 := callI_mono (P := P) (A := A) (fun ro => exec_mono (Nat.le_max_left k1 k2) ro) _ _ _ _ h1
    simp only
    rw [opI_inv.2 ⟨t, x, g, (v, m1), hx, hg, e1, rfl⟩]
    exact runOps_mono (callI_mono (fun ro => exec_mono (Nat.le_max_right k1 k2) ro)) _ _ _ _ _ _ _ h2
theorem WO_inv {fo : Operand} {name : String} {as : Array Operand} {ats : Array TypeId} : WO P A L ops base (⟨d, .call ⟨.invoke fo name, as, ats⟩, ty, pos, aft, none⟩ :: os) ov m Q =
    WV P A (rho (ovLook base ov) fo).vl name (as.toList.map (rho (ovLook base ov))) m fun v m' => WO P A L ops base os (ovPut d (.v v) ov) m' Q := WO_invW rfl
def gslot (ops : Array Oper) (j : Nat) : Option Nat := (ops[j]?).bind (·.dst)
def wantV (v : Arg) (w : Bool) : Option Bool :=
  match v with
  | .v (.bool b) => some (b == w)
  | .v (.tup _) => some false
  | _ => none
theorem wanted_gs {j : Nat} {w : Bool} {s : Nat} {look : Nat → Arg} (h : gslot ops j = some s) : wantedI ops look ⟨d, op, ty, pos, aft, some (j, w)⟩ = wantV (look s) w := by
  unfold wantedI
  unfold gslot at h
  simp only
  rw [h]
  rfl
def WG (c : Option Bool) (X Y : Prop) : Prop := (c = some true ∧ X) ∨ (c = some false ∧ Y)
theorem WG_congr {c c' : Option Bool} {X Y : Prop} (h : c = c') : WG c X Y = WG c' X Y := by rw [h]
attribute [congr] WG_congr
theorem WG_true {X Y : Prop} : WG (some true) X Y = X := by unfold WG; simp
theorem WG_false {X Y : Prop} : WG (some false) X Y = Y := by unfold WG; simp
theorem WG_eq {c : Option Bool} {X Y Z : Prop} (h1 : c = some true → Z = X) (h2 : c = some false → Z = Y) (h3 : c = none → ¬ Z) : Z = WG c X Y := by
  unfold WG
  cases c with
  | none => simp only [reduceCtorEq, false_and, or_self]; exact propext ⟨fun h => h3 rfl h, False.elim⟩
  | some b => cases b with
    | true => simp; exact propext_iff.1 (h1 rfl)
    | false => simp; exact propext_iff.1 (h2 rfl)
theorem WO_none {o : Oper} (hw : wantedI ops (ovLook base ov) o = none) : ¬ WO P A L ops base (o :: os) ov m Q := by
  rintro ⟨ov', m', ⟨k, h⟩, hq⟩
  rw [runOps, hw] at h
  cases h
theorem WO_guard {j s : Nat} {w : Bool} (hg : gslot ops j = some s) (hc : isCallV op = false) : WO P A L ops base (⟨d, op, ty, pos, aft, some (j, w)⟩ :: os) ov m Q =
    WG (wantV (ovLook base ov s) w) (OB (op0 P L d op (rho (ovLook base ov)) m) fun r => WO P A L ops base os (ovPut d r.1 ov) r.2 Q) (WO P A L ops base os (ovPut d (.v (.tup [])) ov) m Q) := by
  have e := wanted_gs (d := d) (op := op) (ty := ty) (pos := pos) (aft := aft) (w := w) (look := ovLook base ov) hg
  exact WG_eq (fun h => WO_step hc (e.trans h)) (fun h => WO_skip (e.trans h)) (fun h => WO_none (e.trans h))
theorem WO_guardC {j s : Nat} {w : Bool} {fo : Operand} {as : Array Operand} {ats : Array TypeId} (hg : gslot ops j = some s) : WO P A L ops base (⟨d, .call ⟨.value fo, as, ats⟩, ty, pos, aft, some (j, w)⟩ :: os) ov m Q =
    WG (wantV (ovLook base ov s) w) (WC P A (rho (ovLook base ov) fo).vl (as.toList.map (rho (ovLook base ov))) m fun v m' => WO P A L ops base os (ovPut d (.v v) ov) m' Q) (WO P A L ops base os (ovPut d (.v (.tup [])) ov) m Q) := by
  have e := wanted_gs (d := d) (op := .call ⟨.value fo, as, ats⟩) (ty := ty) (pos := pos) (aft := aft) (w := w) (look := ovLook base ov) hg
  exact WG_eq (fun h => WO_callW (e.trans h)) (fun h => WO_skip (e.trans h)) (fun h => WO_none (e.trans h))
theorem WO_guardI {j s : Nat} {w : Bool} {fo : Operand} {name : String} {as : Array Operand} {ats : Array TypeId} (hg : gslot ops j = some s) : WO P A L ops base (⟨d, .call ⟨.invoke fo name, as, ats⟩, ty, pos, aft, some (j, w)⟩ :: os) ov m Q =
    WG (wantV (ovLook base ov s) w) (WV P A (rho (ovLook base ov) fo).vl name (as.toList.map (rho (ovLook base ov))) m fun v m' => WO P A L ops base os (ovPut d (.v v) ov) m' Q) (WO P A L ops base os (ovPut d (.v (.tup [])) ov) m Q) := by
  have e := wanted_gs (d := d) (op := .call ⟨.invoke fo name, as, ats⟩) (ty := ty) (pos := pos) (aft := aft) (w := w) (look := ovLook base ov) hg
  exact WG_eq (fun h => WO_invW (e.trans h)) (fun h => WO_skip (e.trans h)) (fun h => WO_none (e.trans h))
def keep1 (s : Nat) (g : Arg) (m : Mem) (r : List (Nat × Vl)) : List (Nat × Vl) :=
  match g with
  | .v x => (s, x) :: r
  | .pl t off c0 => if t = s ∧ off = 0 then (s, .loc ((m.lc.lookup t).getD c0)) :: r else r
theorem keepS_nil {look : Nat → Arg} : keepS [] look m = [] := rfl
theorem keepS_cons {k : Nat} {ks : List Nat} {look : Nat → Arg} : keepS (k :: ks) look m = keep1 k (look k) m (keepS ks look m) := by
  unfold keepS keep1
  rw [List.filterMap_cons]
  cases look k with
  | v x => rfl
  | pl t off c0 => by_cases h : t = k ∧ off = 0 <;> simp [h]
theorem keep1_v {s : Nat} {x : Vl} {r : List (Nat × Vl)} : keep1 s (.v x) m r = (s, x) :: r := rfl
theorem keep1_pl {s : Nat} {c0 : Vl} {r : List (Nat × Vl)} : keep1 s (.pl s 0 c0) m r = (s, .loc ((m.lc.lookup s).getD c0)) :: r := if_pos ⟨rfl, rfl⟩
def baseOf (sl : List (Nat × Vl)) (ds : List Nat) : Nat → Arg := lookOf (sl.filter fun p => !ds.contains p.1)
theorem Wp_congr {c : Code} {s s' : FS} {Q : XE → FS → Prop} (h : s = s') : Wp P A ro f c s Q = Wp P A ro f c s' Q := by rw [h]
attribute [congr] Wp_congr
theorem Wp_region {id : Nat} {ops : Array Oper} {s s1 : FS} {Q : XE → FS → Prop} {L ds : List Nat} (hg : ghosts (A.gho f id) s = some s1) (hL : A.loc f = fun d => L.elem d) (hds : allocDsts ops = ds) (hn : nodupI ds = true) :
    Wp P A ro f (.region id ops false) s Q = WO P A L ops (baseOf s1.sl ds) ops.toList [] { lc := [], hp := s1.hp, nx := s1.nx } fun ov m => Q .normal { sl := keepS (A.keep f id) (ovLook (baseOf s1.sl ds) ov) m, hp := m.hp, nx := m.nx } := by
  subst hds
  refine propext ⟨fun ⟨x, s', ⟨k, h⟩, hq⟩ => ?_, fun ⟨ov', m', ⟨k, h⟩, hq⟩ => ⟨_, _, ⟨k + 1, ?_⟩, hq⟩⟩
  · cases k with
    | zero => cases h
    | succ k =>
      simp only [exec] at h
      obtain ⟨s2, h1, h2⟩ := Option.map_eq_some_iff.1 h
      unfold regionI at h1
      rw [hg] at h1
      simp only [Option.bind_some] at h1
      rw [hn, hL] at h1
      simp only [Bool.not_true, Bool.false_eq_true, if_false] at h1
      obtain ⟨⟨ov', m'⟩, h3, h4⟩ := Option.map_eq_some_iff.1 h1
      cases h2
      refine ⟨ov', m', ⟨k, h3⟩, ?_⟩
      subst h4
      exact hq
  · simp only [exec]
    unfold regionI
    rw [hg]
    simp only [Option.bind_some]
    rw [hn, hL]
    simp only [Bool.not_true, Bool.false_eq_true, if_false]
    have h' : runOps P (callI P A (exec P A k)) (fun d => L.elem d) ops (lookOf (s1.sl.filter fun p => !(allocDsts ops).contains p.1)) ops.toList [] { lc := [], hp := s1.hp, nx := s1.nx } = some (ov', m') := h
    rw [h']
    rfl
def seqQ (P : Program) (A : Ann) (ro : Option Nat) (f : FuncId) (b : Code) (Q : XE → FS → Prop) (x : XE) (s : FS) : Prop :=
  match x with
  | .normal => Wp P A ro f b s Q
  | x => Q x s
theorem seqQ_normal {b : Code} {s : FS} {Q : XE → FS → Prop} : seqQ P A ro f b Q .normal s = Wp P A ro f b s Q := rfl
theorem seqQ_ret {b : Code} {s : FS} {Q : XE → FS → Prop} : seqQ P A ro f b Q .ret s = Q .ret s := rfl
theorem seqQ_exit {b : Code} {s : FS} {Q : XE → FS → Prop} {j : Nat} : seqQ P A ro f b Q (.exit j) s = Q (.exit j) s := rfl
theorem ev_fun {c : Code} {s s1 s2 : FS} {x y : XE} (h : Ev P A ro f c s x s1) (k : Ev P A ro f c s y s2) : x = y ∧ s1 = s2 := by
  obtain ⟨k1, h⟩ := h
  obtain ⟨k2, k⟩ := k
  have e1 := exec_mono (P := P) (A := A) (Nat.le_max_left k1 k2) ro f c s _ h
  have e2 := exec_mono (P := P) (A := A) (Nat.le_max_right k1 k2) ro f c s _ k
  rw [e1] at e2
  simpa using e2
theorem Wp_seq {a b : Code} {s : FS} {Q : XE → FS → Prop} : Wp P A ro f (.seq a b) s Q = Wp P A ro f a s (seqQ P A ro f b Q) := by
  refine propext ⟨fun ⟨x, s', ⟨k, h⟩, hq⟩ => ?_, fun h => wp_seq (h.mono fun x s' hx => ?_)⟩
  · cases k with
    | zero => cases h
    | succ k =>
      simp only [exec] at h
      obtain ⟨⟨y, s1⟩, h1, h2⟩ := Option.bind_eq_some_iff.1 h
      refine ⟨y, s1, ⟨k, h1⟩, ?_⟩
      cases y with
      | normal => exact ⟨x, s', ⟨k, h2⟩, hq⟩
      | exit j => cases h2; exact hq
      | ret => cases h2; exact hq
  · cases x <;> exact hx
theorem Wp_skip {s : FS} {Q : XE → FS → Prop} : Wp P A ro f .skip s Q = Q .normal s :=
  propext ⟨fun ⟨x, s', h, hq⟩ => by obtain ⟨rfl, rfl⟩ := ev_fun h ev_skip; exact hq, wp_skip⟩
theorem Wp_exit {id : Nat} {s : FS} {Q : XE → FS → Prop} : Wp P A ro f (.exit id) s Q = Q (.exit id) s :=
  propext ⟨fun ⟨x, s', h, hq⟩ => by obtain ⟨rfl, rfl⟩ := ev_fun h ev_exit; exact hq, wp_exit⟩
theorem Wp_ret {s : FS} {Q : XE → FS → Prop} : Wp P A ro f .ret s Q = Q .ret s :=
  propext ⟨fun ⟨x, s', h, hq⟩ => by obtain ⟨rfl, rfl⟩ := ev_fun h ev_ret; exact hq, wp_ret⟩
theorem Wp_scope {c : Code} {s : FS} {Q : XE → FS → Prop} : Wp P A ro f (.scope c) s Q = Wp P A ro f c s Q := by
  refine propext ⟨fun ⟨x, s', ⟨k, h⟩, hq⟩ => ?_, fun ⟨x, s', ⟨k, h⟩, hq⟩ => ⟨x, s', ⟨k + 1, by simpa only [exec] using h⟩, hq⟩⟩
  cases k with
  | zero => cases h
  | succ k => exact ⟨x, s', ⟨k, by simpa only [exec] using h⟩, hq⟩
theorem Wp_label {l : Nat} {s : FS} {Q : XE → FS → Prop} : Wp P A ro f (.label l) s Q = Q .normal s := by
  refine propext ⟨fun ⟨x, s', ⟨k, h⟩, hq⟩ => ?_, fun hq => ⟨.normal, s, ⟨1, by simp only [exec]⟩, hq⟩⟩
  cases k with
  | zero => cases h
  | succ k => simp only [exec] at h; cases h; exact hq
def blockQ (id : Nat) (Q : XE → FS → Prop) (x : XE) (s : FS) : Prop := Q (unblock id x) s
theorem blockQ_normal {id : Nat} {s : FS} {Q : XE → FS → Prop} : blockQ id Q .normal s = Q .normal s := rfl
theorem blockQ_ret {id : Nat} {s : FS} {Q : XE → FS → Prop} : blockQ id Q .ret s = Q .ret s := rfl
theorem blockQ_exit {id j : Nat} {s : FS} {Q : XE → FS → Prop} : blockQ id Q (.exit j) s = if j = id then Q .normal s else Q (.exit j) s := by
  unfold blockQ unblock; simp only; split <;> rfl
theorem Wp_block {id : Nat} {c : Code} {s : FS} {Q : XE → FS → Prop} : Wp P A ro f (.block id c) s Q = Wp P A ro f c s (blockQ id Q) := by
  refine propext ⟨fun ⟨x, s', ⟨k, h⟩, hq⟩ => ?_, fun h => wp_block h⟩
  cases k with
  | zero => cases h
  | succ k =>
    simp only [exec] at h
    obtain ⟨⟨y, s1⟩, h1, h2⟩ := Option.map_eq_some_iff.1 h
    refine ⟨y, s1, ⟨k, h1⟩, ?_⟩
    cases y with
    | exit j =>
      simp only at h2; unfold blockQ unblock; simp only
      by_cases hj : j = id
      · rw [if_pos hj] at h2 ⊢; cases h2; exact hq
      · rw [if_neg hj] at h2 ⊢; cases h2; exact hq
    | normal => cases h2; exact hq
    | ret => cases h2; exact hq
def WB (v : Vl) (X Y : Prop) : Prop := (v = .bool true ∧ X) ∨ (v = .bool false ∧ Y)
theorem WB_congr {v v' : Vl} {X Y : Prop} (h : v = v') : WB v X Y = WB v' X Y := by rw [h]
attribute [congr] WB_congr
theorem WB_true {X Y : Prop} : WB (.bool true) X Y = X := by unfold WB; simp
theorem WB_false {X Y : Prop} : WB (.bool false) X Y = Y := by unfold WB; simp
theorem Wp_cond {c : Operand} {a b : Code} {s : FS} {Q : XE → FS → Prop} : Wp P A ro f (.cond c a b) s Q = WB (rho (lookOf s.sl) c).vl (Wp P A ro f a s Q) (Wp P A ro f b s Q) := by
  refine propext ⟨fun ⟨x, s', ⟨k, h⟩, hq⟩ => ?_, fun h => ?_⟩
  · cases k with
    | zero => cases h
    | succ k =>
      simp only [exec] at h
      unfold WB
      split at h
      · rename_i t ht
        rw [ht]
        cases t with
        | true => exact .inl ⟨rfl, x, s', ⟨k, h⟩, hq⟩
        | false => exact .inr ⟨rfl, x, s', ⟨k, h⟩, hq⟩
      · cases h
  · rcases h with ⟨h1, h2⟩ | ⟨h1, h2⟩
    · exact wp_cond h1 h2
    · exact wp_cond h1 h2
end
end Go.Idl
namespace Go.Idl
section
variable {P : Program} {L : List Nat} {d : Option Nat} {ρ : Operand → Arg} {m : Mem} {base : Nat → Arg} {ov : List (Nat × Arg)}
theorem ovLook_cons {a t : Nat} {g : Arg} : ovLook base ((a, g) :: ov) t = if t = a then g else ovLook base ov t := by
  unfold ovLook; simp only [List.lookup_cons]
  by_cases h : t = a
  · subst h; simp
  · have : (t == a) = false := by simpa using h
    simp [this, h]
theorem ovLook_nil {t : Nat} : ovLook base [] t = base t := rfl
theorem baseOf_eq {sl : List (Nat × Vl)} {ds : List Nat} {t : Nat} : baseOf sl ds t = if ds.elem t then .v .undef else lookOf sl t := by
  unfold baseOf lookOf
  rw [lookup_filter_some (q := fun t => !ds.contains t) (fun _ => rfl)]
  by_cases h : ds.elem t = true
  · simp [h]
    rw [if_pos (by simpa using h)]
    simp [show t ∈ ds by simpa using h]
  · simp only [List.elem_eq_mem] at h
    simp [h]
def slotV (t : Nat) (g : Vl) : Arg := match g with | .loc c => .pl t 0 c | v => .v v
theorem slotV_loc {t : Nat} {c : Vl} : slotV t (.loc c) = .pl t 0 c := rfl
theorem slotV_int {t : Nat} {k : IntKind} {n : Int} : slotV t (.int k n) = .v (.int k n) := rfl
theorem slotV_bool {t : Nat} {b : Bool} : slotV t (.bool b) = .v (.bool b) := rfl
theorem slotV_str {t : Nat} {b : ByteArray} : slotV t (.str b) = .v (.str b) := rfl
theorem slotV_agg {t : Nat} {b : List Vl} : slotV t (.agg b) = .v (.agg b) := rfl
theorem slotV_tup {t : Nat} {b : List Vl} : slotV t (.tup b) = .v (.tup b) := rfl
theorem slotV_lst {t e : Nat} {b : List Vl} {x : Bool} : slotV t (.lst e b x) = .v (.lst e b x) := rfl
theorem slotV_own {t e n : Nat} : slotV t (.own e n) = .v (.own e n) := rfl
theorem slotV_bp {t e n : Nat} : slotV t (.bp e n) = .v (.bp e n) := rfl
theorem slotV_ep {t e n i o : Nat} : slotV t (.ep e n i o) = .v (.ep e n i o) := rfl
theorem slotV_fp {t o : Nat} {b : Vl} : slotV t (.fp b o) = .v (.fp b o) := rfl
theorem slotV_nils {t : Nat} : slotV t .nils = .v .nils := rfl
theorem slotV_nilp {t : Nat} : slotV t .nilp = .v .nilp := rfl
theorem slotV_nilf {t : Nat} : slotV t .nilf = .v .nilf := rfl
theorem slotV_nili {t : Nat} : slotV t .nili = .v .nili := rfl
theorem slotV_nilm {t : Nat} : slotV t .nilm = .v .nilm := rfl
theorem slotV_undef {t : Nat} : slotV t .undef = .v .undef := rfl
theorem slotV_mp {t i : Nat} : slotV t (.mp i) = .v (.mp i) := rfl
theorem slotV_yld {t i : Nat} : slotV t (.yld i) = .v (.yld i) := rfl
theorem slotV_fn {t : Nat} {f : Fn} {a b : List Vl} : slotV t (.fn f a b) = .v (.fn f a b) := rfl
theorem slotV_ifc {t : Nat} {f : TypeId} {a : Vl} : slotV t (.ifc f a) = .v (.ifc f a) := rfl
theorem lookOf_cons {a t : Nat} {g : Vl} {sl : List (Nat × Vl)} : lookOf ((a, g) :: sl) t = if t = a then slotV t g else lookOf sl t := by
  unfold lookOf; simp only [List.lookup_cons]
  by_cases h : t = a
  · subst h; simp [slotV]
    cases g <;> rfl
  · have : (t == a) = false := by simpa using h
    simp [this, h]
theorem lookOf_nil {t : Nat} : lookOf [] t = .v .undef := rfl
theorem ovPut_some {t : Nat} {g : Arg} : ovPut (some t) g ov = (t, g) :: ov := rfl
theorem ovPut_none {g : Arg} : ovPut none g ov = ov := rfl
theorem rho_tmp {look : Nat → Arg} {t : Nat} : rho look (.tmp t) = look t := rfl
theorem rho_const {look : Nat → Arg} {v : Value} : rho look (.const v) = .v (ofConst v) := rfl
theorem rho_func {look : Nat → Arg} {g : FuncId} : rho look (.func g) = .v (.fn (.func g) [] []) := rfl
theorem vl_v {x : Vl} : (Arg.v x).vl = x := rfl
theorem op0_move {x : Operand} : op0 P L d (.move x) ρ m = some (.v (ρ x).vl, m) := rfl
theorem op0_assign {x : Operand} : op0 P L d (.assign x) ρ m = some (.v (ρ x).vl, m) := rfl
def pickV (c x y : Vl) (m : Mem) : Option (Arg × Mem) :=
  match c with
  | .bool t => some (.v (if t then x else y), m)
  | _ => none
theorem pickV_true {x y : Vl} : pickV (.bool true) x y m = some (.v x, m) := rfl
theorem pickV_false {x y : Vl} : pickV (.bool false) x y m = some (.v y, m) := rfl
theorem op0_pick {c x y : Operand} : op0 P L d (.pick c x y) ρ m = pickV (ρ c).vl (ρ x).vl (ρ y).vl m := by
  show evalV P d (.pick c x y) ρ m = _
  simp only [evalV, pickV]
  cases (ρ c).vl with
  | bool t => cases t <;> rfl
  | _ => rfl
def newObj (b : Option TypeId) (t : TypeId) (z : Vl) (m : Mem) : Option (Arg × Mem) := match b with
  | some e => newBld t e m
  | none => newBox z m
theorem newObj_none {t : TypeId} {z : Vl} {m : Mem} : newObj none t z m = newBox z m := rfl
theorem newObj_some {t e : TypeId} {z : Vl} {m : Mem} : newObj (some e) t z m = newBld t e m := rfl
def allocV (t : TypeId) (loc : Bool) (td : TD) (d : Option Nat) (m : Mem) : Option (Arg × Mem) :=
  if loc then (if td.ok && !td.zero.undef? && td.zero.size == td.size then d.map fun d => (.pl d 0 td.zero, m) else none)
  else if td.ok && td.zero.size == td.size then newObj td.bld t td.zero m else none
theorem op0_alloc {t : TypeId} : op0 P L d (.alloc t) ρ m = allocV t ((d.map fun d => L.elem d).getD false) (tdOf P t) d m := rfl
def boxV (loc : Bool) (td : TD) (d : Option Nat) (x : Vl) (m : Mem) : Option (Arg × Mem) :=
  if loc then (if !x.undef? && x.size == td.size then d.map fun d => (.pl d 0 x, m) else none)
  else if x.size == td.size then newBox x m else none
theorem op0_box {t : TypeId} {x : Operand} : op0 P L d (.box t x) ρ m = boxV ((d.map fun d => L.elem d).getD false) (tdOf P t) d (ρ x).vl m := rfl
def buildV (td : TD) (parts : List (Nat × Vl)) (m : Mem) : Option (Arg × Mem) :=
  match td.zero with
  | .agg z =>
    if td.ok && (match td.k with | .struct _ => true | .array _ e _ => e != 0 | _ => false) then
      (fillAll (match td.k with
      | .struct fs => fun i => (fs[i]?).map fun f => (f.1, f.2.2)
      | .array _ esz _ => fun i => some (i * esz, esz)
      | _ => fun _ => none) z parts).map fun cs => (.v (.agg cs), m)
    else none
  | _ => none
theorem op0_build {t : TypeId} {parts : List (Nat × Operand)} : op0 P L d (.build t parts.toArray) ρ m = buildV (tdOf P t) (parts.map fun p => (p.1, (ρ p.2).vl)) m := rfl
def buildSliceV (loc : Bool) (td : TD) (len : Nat) (parts : List (Nat × Vl)) (m : Mem) : Option (Arg × Mem) :=
  match td.k with
  | .slice esz _ z => if !z.undef? && z.size == esz && decide (0 < esz) && decide (len * esz ≤ 16777216) then (litElems z len parts).map fun l =>
      if loc then (.v (.own m.nx len), { m with hp := upd m.hp m.nx (.arr esz l), nx := m.nx + 1 }) else (.v (.lst esz l true), m)
    else none
  | _ => none
theorem op0_buildSlice {t : TypeId} {len : Nat} {parts : List (Nat × Operand)} : op0 P L d (.buildSlice t len parts.toArray) ρ m = buildSliceV ((d.map fun d => L.elem d).getD false) (tdOf P t) len (parts.map fun p => (p.1, (ρ p.2).vl)) m := by
  show (if (d.map fun d => L.elem d).getD false then _ else evalV P d (.buildSlice t len parts.toArray) ρ m) = _
  unfold buildSliceV
  simp only [evalV]
  cases (d.map fun d => L.elem d).getD false with
  | true =>
    simp only [if_true]
    cases (tdOf P t).k <;> rfl
  | false =>
    simp only [Bool.false_eq_true, if_false]
    cases (tdOf P t).k <;> rfl
def loadV (td : TD) (a : Arg) (m : Mem) : Option (Arg × Mem) := if td.ok then (m.read td.agg td.size a).map fun v => (.v v, m) else none
theorem op0_load {t : TypeId} {x : Operand} : op0 P L d (.load t x) ρ m = loadV (tdOf P t) (ρ x) m := rfl
def storeV (td : TD) (a : Arg) (y : Vl) (m : Mem) : Option (Arg × Mem) := if td.ok && !y.undef? && y.size == td.size then (m.write y a).map fun m' => (.v .undef, m') else none
theorem op0_store {t : TypeId} {x y : Operand} : op0 P L d (.store t x y) ρ m = storeV (tdOf P t) (ρ x) (ρ y).vl m := rfl
def nilCheckV (a : Arg) (m : Mem) : Option (Arg × Mem) := match a with
    | .pl t o c => some (.pl t o c, m)
    | .v (.fp b o) => some (.v (.fp b o), m)
    | .v (.ep id n i o) => some (.v (.ep id n i o), m)
    | .v (.bp id o) => some (.v (.bp id o), m)
    | .v (.fn (.func f) a b) => some (.v (.fn (.func f) a b), m)
    | .v (.yld k) => some (.v (.yld k), m)
    | _ => none
theorem op0_nilCheck {x : Operand} : op0 P L d (.nilCheck x) ρ m = nilCheckV (ρ x) m := rfl
def isNumK : TK → Bool
  | .int _ | .bool | .str | .struct _ | .array .. => true
  | _ => false
theorem op0_bin {t yt : TypeId} {op : BinOp} {x y : Operand} (h : isNumK (tdOf P t).k = true) : op0 P L d (.binOp op t x y yt) ρ m = (binOpV (tdOf P t) op (ρ x).vl (ρ y).vl).map fun v => (.v v, m) := by
  show evalV P d (.binOp op t x y yt) ρ m = _
  have hn : nilCmp (tdOf P t).k x y (ρ x).vl (ρ y).vl = none := by
    have hc : ∀ z, nilConst (tdOf P t).k z = false := fun z => by
      unfold nilConst
      cases z <;> try rfl
      rename_i c
      revert h
      cases (tdOf P t).k <;> simp [isNumK, nilOf]
    unfold nilCmp
    rw [hc, hc]; rfl
  simp only [evalV, hn]
theorem bin_add {td : TD} {k : IntKind} {a b : Int} : binOpV td .add (.int k a) (.int k b) = some (.int k (k.wrap (a + b))) := by simp [binOpV, intOp]
theorem bin_sub {td : TD} {k : IntKind} {a b : Int} : binOpV td .sub (.int k a) (.int k b) = some (.int k (k.wrap (a - b))) := by simp [binOpV, intOp]
theorem bin_mul {td : TD} {k : IntKind} {a b : Int} : binOpV td .mul (.int k a) (.int k b) = some (.int k (k.wrap (a * b))) := by simp [binOpV, intOp]
theorem bin_lss {td : TD} {k : IntKind} {a b : Int} : binOpV td .lss (.int k a) (.int k b) = some (.bool (decide (a < b))) := by simp [binOpV, intOp]
theorem bin_leq {td : TD} {k : IntKind} {a b : Int} : binOpV td .leq (.int k a) (.int k b) = some (.bool (decide (a ≤ b))) := by simp [binOpV, intOp]
theorem bin_gtr {td : TD} {k : IntKind} {a b : Int} : binOpV td .gtr (.int k a) (.int k b) = some (.bool (decide (b < a))) := by simp [binOpV, intOp]
theorem bin_geq {td : TD} {k : IntKind} {a b : Int} : binOpV td .geq (.int k a) (.int k b) = some (.bool (decide (b ≤ a))) := by simp [binOpV, intOp]
theorem bin_eqI {td : TD} {k : IntKind} {a b : Int} : binOpV td .eql (.int k a) (.int k b) = some (.bool (decide (a = b))) := by
  simp only [binOpV, intOp, if_true]; congr 2
theorem bin_neI {td : TD} {k : IntKind} {a b : Int} : binOpV td .neq (.int k a) (.int k b) = some (.bool (!decide (a = b))) := by
  simp only [binOpV, intOp, if_true]; congr 2
def notV (x : Vl) (m : Mem) : Option (Arg × Mem) := match x with
  | .bool b => some (.v (.bool !b), m)
  | _ => none
theorem op0_notV {t : TypeId} {x : Operand} : op0 P L d (.unOp .not t x) ρ m = notV (ρ x).vl m := by
  show evalV P d (.unOp .not t x) ρ m = _
  simp only [evalV, notV]
  cases (ρ x).vl <;> rfl
theorem notV_bool {b : Bool} : notV (.bool b) m = some (.v (.bool !b), m) := rfl
def negV (x : Vl) (m : Mem) : Option (Arg × Mem) := match x with
  | .int k n => some (.v (.int k (k.wrap (0 - n))), m)
  | _ => none
theorem op0_negV {t : TypeId} {x : Operand} : op0 P L d (.unOp .neg t x) ρ m = negV (ρ x).vl m := by
  show evalV P d (.unOp .neg t x) ρ m = _
  simp only [evalV, negV]
  cases (ρ x).vl <;> rfl
theorem negV_int {k : IntKind} {n : Int} : negV (.int k n) m = some (.v (.int k (k.wrap (0 - n))), m) := rfl
def convV (s t : TK) (x : Vl) (m : Mem) : Option (Arg × Mem) := match s, t, x with
  | .int _, .int k, .int _ n => some (.v (.int k (k.wrap n)), m)
  | .int _, .str, .int _ n => some (.v (.str (Utf8.encode n)), m)
  | _, _, _ => none
theorem op0_conv {s t : TypeId} {x : Operand} : op0 P L d (.convert s t x) ρ m = convV (tdOf P s).k (tdOf P t).k (ρ x).vl m := rfl
theorem convV_int {k1 k2 k3 : IntKind} {n : Int} : convV (.int k1) (.int k2) (.int k3 n) m = some (.v (.int k2 (k2.wrap n)), m) := rfl
theorem convV_str {k1 k3 : IntKind} {n : Int} : convV (.int k1) .str (.int k3 n) m = some (.v (.str (Utf8.encode n)), m) := rfl
def assertV (td : TD) (a : TypeId) (ok : Bool) (x : Vl) (m : Mem) : Option (Arg × Mem) := match td.k with
  | .iface | .other => none
  | _ => match x with
    | .ifc t v => if t = a then some (.v (if ok then .tup [v, .bool true] else v), m) else
        if ok && td.ok && !td.zero.undef? then some (.v (.tup [td.zero, .bool false]), m) else none
    | .nili => if ok && td.ok && !td.zero.undef? then some (.v (.tup [td.zero, .bool false]), m) else none
    | _ => none
theorem op0_typeAssert {x : Operand} {u t : TypeId} {ok : Bool} : op0 P L d (.typeAssert x u t ok) ρ m = assertV (tdOf P t) t ok (ρ x).vl m := rfl
theorem op0_makeFunc {g : Fn} {first cap : List Operand} : op0 P L d (.makeFunc g first.toArray cap.toArray) ρ m = some (.v (.fn g (first.map fun x => (ρ x).vl) (cap.map fun x => (ρ x).vl)), m) := rfl
def fieldAddrV (k : TK) (f : Nat) (a : Arg) (m : Mem) : Option (Arg × Mem) := match k with
  | .struct fs => (fs[f]?).bind fun o => (Arg.shift o.1 a).map fun a => (a, m)
  | _ => none
theorem op0_fieldAddr {t : TypeId} {x : Operand} {f : Nat} : op0 P L d (.fieldAddr t x f) ρ m = fieldAddrV (tdOf P t).k f (ρ x) m := rfl
def fieldV (k : TK) (f : Nat) (x : Vl) (m : Mem) : Option (Arg × Mem) := match k, x with
  | .struct fs, .agg cs => (fs[f]?).bind fun o => (sub o.2.1 o.2.2 o.1 (.agg cs)).map fun v => (.v v, m)
  | _, _ => none
theorem op0_field {t : TypeId} {x : Operand} {f : Nat} : op0 P L d (.field t x f) ρ m = fieldV (tdOf P t).k f (ρ x).vl m := rfl
def tupV (x : Vl) (i : Nat) (m : Mem) : Option (Arg × Mem) := match x with
  | .tup vs => (vs[i]?).map fun v => (.v v, m)
  | _ => none
theorem op0_extract {x : Operand} {i : Nat} : op0 P L d (.extract x i) ρ m = tupV (ρ x).vl i m := rfl
theorem tupV_tup {vs : List Vl} {i : Nat} : tupV (.tup vs) i m = (vs[i]?).map fun v => (.v v, m) := rfl
theorem op0_builtin {b : Builtin} {as : List Operand} {ts : List TypeId} : op0 P L d (.call ⟨.builtin b, as.toArray, ts.toArray⟩) ρ m = (builtinV P b ts (as.map fun x => (ρ x).vl) m).map fun r => (.v r.1, r.2) := rfl
def indexAddrV (k : TK) (a : Arg) (i : Vl) (m : Mem) : Option (Arg × Mem) := match k, i with
    | .array n esz _, .int _ i => if 0 ≤ i ∧ i < n ∧ esz ≠ 0 then (Arg.shift (i.toNat * esz) a).map fun a => (a, m) else none
    | .slice esz _ _, .int _ i => match a.vl with
      | .lst e xs _ => if e = esz ∧ esz ≠ 0 ∧ 0 ≤ i ∧ i < xs.length then some (.v (.fp (xs.getD i.toNat .undef) 0), m) else none
      | .own id n => if 0 ≤ i ∧ i < n ∧ esz ≠ 0 then match m.hp id with
        | .arr e xs | .fro e xs => if e = esz ∧ xs.length = n then some (.v (.ep id n i.toNat 0), m) else none
        | _ => none
        else none
      | _ => none
    | _, _ => none
theorem op0_indexAddr {t : TypeId} {x i : Operand} : op0 P L d (.indexAddr t x i) ρ m = indexAddrV (tdOf P t).k (ρ x) (ρ i).vl m := rfl
theorem indexAddr_arr {n esz : Nat} {ag : Option Bool} {k : IntKind} {a : Arg} {i : Int} (h : 0 ≤ i ∧ i < n) (he : esz ≠ 0) : indexAddrV (.array n esz ag) a (.int k i) m = (Arg.shift (i.toNat * esz) a).map fun a => (a, m) := by
  unfold indexAddrV; simp only; rw [if_pos ⟨h.1, h.2, he⟩]
theorem indexAddr_lst {esz eb : Nat} {ez : Vl} {k : IntKind} {xs : List Vl} {b : Bool} {i : Int} (h : 0 ≤ i ∧ i < xs.length) (he : esz ≠ 0) : indexAddrV (.slice esz eb ez) (.v (.lst esz xs b)) (.int k i) m = some (.v (.fp (xs.getD i.toNat .undef) 0), m) := by
  unfold indexAddrV; simp [Arg.vl, he, h.1, h.2]
def indexV (k : TK) (x i : Vl) (m : Mem) : Option (Arg × Mem) := match k, x, i with
    | .array n esz (some ag), .agg cs, .int _ i => if 0 ≤ i ∧ i < n then (sub ag esz (i.toNat * esz) (.agg cs)).map fun v => (.v v, m) else none
    | .str, .str s, .int _ i => if h : 0 ≤ i ∧ i < s.size then some (.v (.int .u8 (s[i.toNat]'(by omega)).toNat), m) else none
    | _, _, _ => none
theorem op0_index {t : TypeId} {x i : Operand} : op0 P L d (.index t x i) ρ m = indexV (tdOf P t).k (ρ x).vl (ρ i).vl m := rfl
theorem sub_cons {ag : Bool} {sz off : Nat} {c : Vl} {cs : List Vl} : sub ag sz off (.agg (c :: cs)) = if off + sz ≤ (c :: cs).length then (if ag then some (.agg (((c :: cs).drop off).take sz)) else if sz = 1 then ((c :: cs).drop off).head? else none) else none := rfl
theorem put_cons {off : Nat} {v c : Vl} {cs : List Vl} : put off v (.agg (c :: cs)) = if off + v.size ≤ (c :: cs).length then some (.agg ((c :: cs).take off ++ v.cells ++ (c :: cs).drop (off + v.size))) else none := rfl
theorem mread_pl {ag : Bool} {sz t off : Nat} {c0 : Vl} : m.read ag sz (.pl t off c0) = sub ag sz off ((m.lc.lookup t).getD c0) := rfl
theorem mread_fp {ag : Bool} {sz off : Nat} {b : Vl} : m.read ag sz (.v (.fp b off)) = sub ag sz off b := rfl
def readB (ag : Bool) (sz off : Nat) : Ob → Option Vl
  | .box c => sub ag sz off c
  | _ => none
theorem mread_bp {ag : Bool} {sz id off : Nat} : m.read ag sz (.v (.bp id off)) = readB ag sz off (m.hp id) := by
  unfold Mem.read readB
  simp only
  cases m.hp id <;> rfl
theorem readB_box {ag : Bool} {sz off : Nat} {c : Vl} : readB ag sz off (.box c) = sub ag sz off c := rfl
theorem mread_ep {ag : Bool} {sz id n i off e : Nat} {xs : List Vl} {x : Vl} (ho : m.hp id = .arr e xs) (hn : xs.length = n) (hx : xs[i]? = some x) : m.read ag sz (.v (.ep id n i off)) = sub ag sz off x := by
  unfold Mem.read
  simp only [ho, hn, if_true, hx, Option.bind_some]
theorem mwrite_pl {v c0 : Vl} {t off : Nat} : m.write v (.pl t off c0) = (put off v ((m.lc.lookup t).getD c0)).map fun c => { m with lc := setL m.lc t c } := rfl
def writeB (m : Mem) (id off : Nat) (v : Vl) : Ob → Option Mem
  | .box c => (put off v c).map fun c => { m with hp := upd m.hp id (.box c) }
  | _ => none
theorem mwrite_bp {v : Vl} {id off : Nat} : m.write v (.v (.bp id off)) = writeB m id off v (m.hp id) := by
  unfold Mem.write writeB
  simp only
  cases m.hp id <;> rfl
theorem writeB_box {v c : Vl} {id off : Nat} : writeB m id off v (.box c) = (put off v c).map fun c => { m with hp := upd m.hp id (.box c) } := rfl
theorem indexAddr_own {id n e eb : Nat} {ez : Vl} {k : IntKind} {i : Int} {xs : List Vl} (ho : m.hp id = .arr e xs) (hn : xs.length = n) (h : 0 ≤ i ∧ i < n) (he : e ≠ 0) : indexAddrV (.slice e eb ez) (.v (.own id n)) (.int k i) m = some (.v (.ep id n i.toNat 0), m) := by
  unfold indexAddrV
  simp [Arg.vl, ho, hn, h.1, h.2, he]
end
end Go.Idl
namespace Go.Idl
def mkAnn (loc : Nat → List Nat) (keep : Nat → Nat → List Nat) (gho : Nat → Nat → List Gho) (fin : Nat → List Gho) (heap : Nat → Bool) (ext : Nat → Option (List Vl → Option Vl)) : Ann :=
  { loc := fun f d => (loc f).elem d, keep := keep, gho := gho, fin := fin, heap := heap, ext := ext }
def allocDs : List Oper → List Nat
  | [] => []
  | o :: os => if allocOp o.op then (match o.dst with | some d => d :: allocDs os | none => allocDs os) else allocDs os
theorem allocDs_eq (os : List Oper) : allocDs os = os.filterMap fun o => if allocOp o.op then o.dst else none := by
  induction os with
  | nil => rfl
  | cons o os ih =>
    rw [List.filterMap_cons, allocDs]
    cases allocOp o.op with
    | false => simpa using ih
    | true => cases o.dst <;> simp [ih]
theorem allocDsts_list (ops : Array Oper) : allocDsts ops = allocDs ops.toList := (allocDs_eq _).symm
def endQ (kp : List Nat) (base : Nat → Arg) (Q : XE → FS → Prop) (ov : List (Nat × Arg)) (m : Mem) : Prop := Q .normal { sl := keepS kp (ovLook base ov) m, hp := m.hp, nx := m.nx }
section
variable {P : Program} {A : Ann} {ro : Option Nat} {f : FuncId} {loc : Nat → List Nat} {keep : Nat → Nat → List Nat} {gho : Nat → Nat → List Gho} {fin : Nat → List Gho} {heap : Nat → Bool} {ext : Nat → Option (List Vl → Option Vl)}
theorem Wp_reg {id : Nat} {ops : Array Oper} {s : FS} {Q : XE → FS → Prop} (hn : nodupI (allocDs ops.toList) = true) :
    Wp P (mkAnn loc keep gho fin heap ext) ro f (.region id ops false) s Q =
      OB (Od (ghosts (gho f id) s)) fun s1 => WO P (mkAnn loc keep gho fin heap ext) (loc f) ops (baseOf s1.sl (allocDs ops.toList)) ops.toList [] { lc := [], hp := s1.hp, nx := s1.nx } (endQ (keep f id) (baseOf s1.sl (allocDs ops.toList)) Q) := by
  have hds' : allocDsts ops = allocDs ops.toList := allocDsts_list ops
  show _ = OB (ghosts (gho f id) s) fun s1 => WO P (mkAnn loc keep gho fin heap ext) (loc f) ops (baseOf s1.sl (allocDs ops.toList)) ops.toList [] { lc := [], hp := s1.hp, nx := s1.nx } (endQ (keep f id) (baseOf s1.sl (allocDs ops.toList)) Q)
  cases hg : ghosts (gho f id) s with
  | some s1 => rw [OB_some, Wp_region (A := mkAnn loc keep gho fin heap ext) (L := loc f) hg rfl hds' hn]; rfl
  | none =>
    rw [OB_none]
    refine propext ⟨fun ⟨x, s', ⟨k, h⟩, _⟩ => ?_, False.elim⟩
    cases k with
    | zero => cases h
    | succ k =>
      simp only [exec, regionI] at h
      have : ghosts ((mkAnn loc keep gho fin heap ext).gho f id) s = none := hg
      rw [this] at h
      cases h
theorem ghosts_nil {s : FS} : ghosts [] s = some s := rfl
def retQ (P : Program) (A : Ann) (g : FuncId) (rs : List ResultVar) (K : Vl → Prop) (x : XE) (s : FS) : Prop :=
  match x with
  | .exit _ => False
  | _ => OB (ghosts (A.fin g) s) fun s => OB (mapO (resultI P s) rs) fun vs => OB (reify s.hp (tupled vs)) fun r => K r.1
theorem retQ_ret {g : FuncId} {rs : List ResultVar} {K : Vl → Prop} {s : FS} :
    retQ P (mkAnn loc keep gho fin heap ext) g rs K .ret s = OB (Od (ghosts (fin g) s)) fun s => OB (mapO (resultI P s) rs) fun vs => OB (reify s.hp (tupled vs)) fun r => K r.1 := rfl
theorem retQ_normal {g : FuncId} {rs : List ResultVar} {K : Vl → Prop} {s : FS} :
    retQ P (mkAnn loc keep gho fin heap ext) g rs K .normal s = OB (Od (ghosts (fin g) s)) fun s => OB (mapO (resultI P s) rs) fun vs => OB (reify s.hp (tupled vs)) fun r => K r.1 := rfl
def Ans (P : Program) (A : Ann) (g : FuncId) (args : List Vl) (K : Vl → Prop) : Prop := ∃ v, Pures P A g args v ∧ K v
theorem Ans_of {g : FuncId} {fn : Func} {c : Code} {args : List Vl} {K : Vl → Prop} (hf : P.funcs[g]? = some fn) (hb : fn.body = some c) (hx : ext g = none)
    (h : Wp P (mkAnn loc keep gho fin heap ext) none g c { sl := zipS 0 args, hp := noHeap, nx := 0 } (retQ P (mkAnn loc keep gho fin heap ext) g fn.results.toList K)) : Ans P (mkAnn loc keep gho fin heap ext) g args K := by
  obtain ⟨x, s', ⟨k, h1⟩, h2⟩ := h
  have key : OB (ghosts (fin g) s') (fun s => OB (mapO (resultI P s) fn.results.toList) fun vs => OB (reify s.hp (tupled vs)) fun r => K r.1) → (x = .normal ∨ x = .ret) → Ans P (mkAnn loc keep gho fin heap ext) g args K := fun h2 hxx => by
    obtain ⟨s1, e1, vs, e2, r, e3, hk⟩ := h2
    refine ⟨r.1, ⟨k, ?_⟩, hk⟩
    unfold pureI runI
    have hx' : (mkAnn loc keep gho fin heap ext).ext g = none := hx
    rw [hx']
    simp only
    rw [hf]
    simp only [Option.bind_some, hb, h1]
    have ef : (mkAnn loc keep gho fin heap ext).fin g = fin g := rfl
    rcases hxx with rfl | rfl <;> simp only [ef, e1, Option.bind_some, e2, Option.map_some, e3]
  cases x with
  | exit _ => exact absurd h2 (by simp [retQ])
  | normal => exact key h2 (.inl rfl)
  | ret => exact key h2 (.inr rfl)
end
end Go.Idl
namespace Go.Idl
section
variable {P : Program} {A : Ann} {L : List Nat} {ops : Array Oper} {base : Nat → Arg} {d : Option Nat} {ty : TypeId} {pos : String} {aft : Array Edge} {os : List Oper} {ov : List (Nat × Arg)} {m : Mem} {Q : List (Nat × Arg) → Mem → Prop} {j : Nat} {w : Bool}
theorem Wp_test {ro : Option Nat} {f : FuncId} {c : Operand} {a b : Code} {s : FS} {Q : XE → FS → Prop} : Wp P A ro f (.cond c a b) s Q = WB (Bd (rho (lookOf s.sl) c).vl) (Wp P A ro f a s Q) (Wp P A ro f b s Q) := Wp_cond
def nxt (P : Program) (A : Ann) (L : List Nat) (ops : Array Oper) (base : Nat → Arg) (d : Option Nat) (os : List Oper) (ov : List (Nat × Arg)) (Q : List (Nat × Arg) → Mem → Prop) (r : Arg × Mem) : Prop := WO P A L ops base os (ovPut d r.1 ov) r.2 Q
theorem nxt_eq {r : Arg × Mem} : nxt P A L ops base d os ov Q r = WO P A L ops base os (ovPut d r.1 ov) r.2 Q := rfl
theorem gslot_get {ops : Array Oper} {j : Nat} (h : (gslot ops j).isSome = true) : gslot ops j = some ((gslot ops j).getD 0) := by
  cases hg : gslot ops j with
  | none => rw [hg] at h; cases h
  | some s => rfl
def nxtW (P : Program) (A : Ann) (L : List Nat) (ops : Array Oper) (base : Nat → Arg) (d : Option Nat) (os : List Oper) (ov : List (Nat × Arg)) (Q : List (Nat × Arg) → Mem → Prop) (v : Vl) (m : Mem) : Prop := WO P A L ops base os (ovPut d (.v v) ov) m Q
theorem nxtW_eq {v : Vl} {m : Mem} : nxtW P A L ops base d os ov Q v m = WO P A L ops base os (ovPut d (.v v) ov) m Q := rfl
theorem w_call {fo : Operand} {as : Array Operand} {ats : Array TypeId} : WO P A L ops base (⟨d, .call ⟨.value fo, as, ats⟩, ty, pos, aft, none⟩ :: os) ov m Q =
    WC P A (rho (ovLook base ov) fo).vl (as.toList.map (rho (ovLook base ov))) m (nxtW P A L ops base d os ov Q) := WO_call
theorem g_call {fo : Operand} {as : Array Operand} {ats : Array TypeId} (h : (gslot ops j).isSome = true) : WO P A L ops base (⟨d, .call ⟨.value fo, as, ats⟩, ty, pos, aft, some (j, w)⟩ :: os) ov m Q =
    WG (Wd (wantV (ovLook base ov ((gslot ops j).getD 0)) w)) (WC P A (rho (ovLook base ov) fo).vl (as.toList.map (rho (ovLook base ov))) m (nxtW P A L ops base d os ov Q)) (WO P A L ops base os (ovPut d (.v (.tup [])) ov) m Q) := WO_guardC (gslot_get h)
theorem w_inv {fo : Operand} {name : String} {as : Array Operand} {ats : Array TypeId} : WO P A L ops base (⟨d, .call ⟨.invoke fo name, as, ats⟩, ty, pos, aft, none⟩ :: os) ov m Q =
    WV P A (rho (ovLook base ov) fo).vl name (as.toList.map (rho (ovLook base ov))) m (nxtW P A L ops base d os ov Q) := WO_inv
theorem g_inv {fo : Operand} {name : String} {as : Array Operand} {ats : Array TypeId} (h : (gslot ops j).isSome = true) : WO P A L ops base (⟨d, .call ⟨.invoke fo name, as, ats⟩, ty, pos, aft, some (j, w)⟩ :: os) ov m Q =
    WG (Wd (wantV (ovLook base ov ((gslot ops j).getD 0)) w)) (WV P A (rho (ovLook base ov) fo).vl name (as.toList.map (rho (ovLook base ov))) m (nxtW P A L ops base d os ov Q)) (WO P A L ops base os (ovPut d (.v (.tup [])) ov) m Q) := WO_guardI (gslot_get h)
theorem w_move {x : Operand} : WO P A L ops base (⟨d, .move x, ty, pos, aft, none⟩ :: os) ov m Q = OB (Od (op0 P L d (.move x) (rho (ovLook base ov)) m)) (nxt P A L ops base d os ov Q) := WO_plain rfl
theorem g_move {x : Operand} (h : (gslot ops j).isSome = true) : WO P A L ops base (⟨d, .move x, ty, pos, aft, some (j, w)⟩ :: os) ov m Q = WG (Wd (wantV (ovLook base ov ((gslot ops j).getD 0)) w)) (OB (Od (op0 P L d (.move x) (rho (ovLook base ov)) m)) (nxt P A L ops base d os ov Q)) (WO P A L ops base os (ovPut d (.v (.tup [])) ov) m Q) := WO_guard (gslot_get h) rfl
theorem w_assign {x : Operand} : WO P A L ops base (⟨d, .assign x, ty, pos, aft, none⟩ :: os) ov m Q = OB (Od (op0 P L d (.assign x) (rho (ovLook base ov)) m)) (nxt P A L ops base d os ov Q) := WO_plain rfl
theorem g_assign {x : Operand} (h : (gslot ops j).isSome = true) : WO P A L ops base (⟨d, .assign x, ty, pos, aft, some (j, w)⟩ :: os) ov m Q = WG (Wd (wantV (ovLook base ov ((gslot ops j).getD 0)) w)) (OB (Od (op0 P L d (.assign x) (rho (ovLook base ov)) m)) (nxt P A L ops base d os ov Q)) (WO P A L ops base os (ovPut d (.v (.tup [])) ov) m Q) := WO_guard (gslot_get h) rfl
theorem w_pick {c x y : Operand} : WO P A L ops base (⟨d, .pick c x y, ty, pos, aft, none⟩ :: os) ov m Q = OB (Od (op0 P L d (.pick c x y) (rho (ovLook base ov)) m)) (nxt P A L ops base d os ov Q) := WO_plain rfl
theorem g_pick {c x y : Operand} (h : (gslot ops j).isSome = true) : WO P A L ops base (⟨d, .pick c x y, ty, pos, aft, some (j, w)⟩ :: os) ov m Q = WG (Wd (wantV (ovLook base ov ((gslot ops j).getD 0)) w)) (OB (Od (op0 P L d (.pick c x y) (rho (ovLook base ov)) m)) (nxt P A L ops base d os ov Q)) (WO P A L ops base os (ovPut d (.v (.tup [])) ov) m Q) := WO_guard (gslot_get h) rfl
theorem w_alloc {t : TypeId} : WO P A L ops base (⟨d, .alloc t, ty, pos, aft, none⟩ :: os) ov m Q = OB (Od (op0 P L d (.alloc t) (rho (ovLook base ov)) m)) (nxt P A L ops base d os ov Q) := WO_plain rfl
theorem g_alloc {t : TypeId} (h : (gslot ops j).isSome = true) : WO P A L ops base (⟨d, .alloc t, ty, pos, aft, some (j, w)⟩ :: os) ov m Q = WG (Wd (wantV (ovLook base ov ((gslot ops j).getD 0)) w)) (OB (Od (op0 P L d (.alloc t) (rho (ovLook base ov)) m)) (nxt P A L ops base d os ov Q)) (WO P A L ops base os (ovPut d (.v (.tup [])) ov) m Q) := WO_guard (gslot_get h) rfl
theorem w_box {t : TypeId} {x : Operand} : WO P A L ops base (⟨d, .box t x, ty, pos, aft, none⟩ :: os) ov m Q = OB (Od (op0 P L d (.box t x) (rho (ovLook base ov)) m)) (nxt P A L ops base d os ov Q) := WO_plain rfl
theorem g_box {t : TypeId} {x : Operand} (h : (gslot ops j).isSome = true) : WO P A L ops base (⟨d, .box t x, ty, pos, aft, some (j, w)⟩ :: os) ov m Q = WG (Wd (wantV (ovLook base ov ((gslot ops j).getD 0)) w)) (OB (Od (op0 P L d (.box t x) (rho (ovLook base ov)) m)) (nxt P A L ops base d os ov Q)) (WO P A L ops base os (ovPut d (.v (.tup [])) ov) m Q) := WO_guard (gslot_get h) rfl
theorem w_build {t : TypeId} {ps : Array (Nat × Operand)} : WO P A L ops base (⟨d, .build t ps, ty, pos, aft, none⟩ :: os) ov m Q = OB (Od (op0 P L d (.build t ps) (rho (ovLook base ov)) m)) (nxt P A L ops base d os ov Q) := WO_plain rfl
theorem g_build {t : TypeId} {ps : Array (Nat × Operand)} (h : (gslot ops j).isSome = true) : WO P A L ops base (⟨d, .build t ps, ty, pos, aft, some (j, w)⟩ :: os) ov m Q = WG (Wd (wantV (ovLook base ov ((gslot ops j).getD 0)) w)) (OB (Od (op0 P L d (.build t ps) (rho (ovLook base ov)) m)) (nxt P A L ops base d os ov Q)) (WO P A L ops base os (ovPut d (.v (.tup [])) ov) m Q) := WO_guard (gslot_get h) rfl
theorem w_buildSlice {t : TypeId} {n : Nat} {ps : Array (Nat × Operand)} : WO P A L ops base (⟨d, .buildSlice t n ps, ty, pos, aft, none⟩ :: os) ov m Q = OB (Od (op0 P L d (.buildSlice t n ps) (rho (ovLook base ov)) m)) (nxt P A L ops base d os ov Q) := WO_plain rfl
theorem g_buildSlice {t : TypeId} {n : Nat} {ps : Array (Nat × Operand)} (h : (gslot ops j).isSome = true) : WO P A L ops base (⟨d, .buildSlice t n ps, ty, pos, aft, some (j, w)⟩ :: os) ov m Q = WG (Wd (wantV (ovLook base ov ((gslot ops j).getD 0)) w)) (OB (Od (op0 P L d (.buildSlice t n ps) (rho (ovLook base ov)) m)) (nxt P A L ops base d os ov Q)) (WO P A L ops base os (ovPut d (.v (.tup [])) ov) m Q) := WO_guard (gslot_get h) rfl
theorem w_load {t : TypeId} {x : Operand} : WO P A L ops base (⟨d, .load t x, ty, pos, aft, none⟩ :: os) ov m Q = OB (Od (op0 P L d (.load t x) (rho (ovLook base ov)) m)) (nxt P A L ops base d os ov Q) := WO_plain rfl
theorem g_load {t : TypeId} {x : Operand} (h : (gslot ops j).isSome = true) : WO P A L ops base (⟨d, .load t x, ty, pos, aft, some (j, w)⟩ :: os) ov m Q = WG (Wd (wantV (ovLook base ov ((gslot ops j).getD 0)) w)) (OB (Od (op0 P L d (.load t x) (rho (ovLook base ov)) m)) (nxt P A L ops base d os ov Q)) (WO P A L ops base os (ovPut d (.v (.tup [])) ov) m Q) := WO_guard (gslot_get h) rfl
theorem w_store {t : TypeId} {x y : Operand} : WO P A L ops base (⟨d, .store t x y, ty, pos, aft, none⟩ :: os) ov m Q = OB (Od (op0 P L d (.store t x y) (rho (ovLook base ov)) m)) (nxt P A L ops base d os ov Q) := WO_plain rfl
theorem g_store {t : TypeId} {x y : Operand} (h : (gslot ops j).isSome = true) : WO P A L ops base (⟨d, .store t x y, ty, pos, aft, some (j, w)⟩ :: os) ov m Q = WG (Wd (wantV (ovLook base ov ((gslot ops j).getD 0)) w)) (OB (Od (op0 P L d (.store t x y) (rho (ovLook base ov)) m)) (nxt P A L ops base d os ov Q)) (WO P A L ops base os (ovPut d (.v (.tup [])) ov) m Q) := WO_guard (gslot_get h) rfl
theorem w_nilCheck {x : Operand} : WO P A L ops base (⟨d, .nilCheck x, ty, pos, aft, none⟩ :: os) ov m Q = OB (Od (op0 P L d (.nilCheck x) (rho (ovLook base ov)) m)) (nxt P A L ops base d os ov Q) := WO_plain rfl
theorem g_nilCheck {x : Operand} (h : (gslot ops j).isSome = true) : WO P A L ops base (⟨d, .nilCheck x, ty, pos, aft, some (j, w)⟩ :: os) ov m Q = WG (Wd (wantV (ovLook base ov ((gslot ops j).getD 0)) w)) (OB (Od (op0 P L d (.nilCheck x) (rho (ovLook base ov)) m)) (nxt P A L ops base d os ov Q)) (WO P A L ops base os (ovPut d (.v (.tup [])) ov) m Q) := WO_guard (gslot_get h) rfl
theorem w_binOp {o : BinOp} {t u : TypeId} {x y : Operand} : WO P A L ops base (⟨d, .binOp o t x y u, ty, pos, aft, none⟩ :: os) ov m Q = OB (Od (op0 P L d (.binOp o t x y u) (rho (ovLook base ov)) m)) (nxt P A L ops base d os ov Q) := WO_plain rfl
theorem g_binOp {o : BinOp} {t u : TypeId} {x y : Operand} (h : (gslot ops j).isSome = true) : WO P A L ops base (⟨d, .binOp o t x y u, ty, pos, aft, some (j, w)⟩ :: os) ov m Q = WG (Wd (wantV (ovLook base ov ((gslot ops j).getD 0)) w)) (OB (Od (op0 P L d (.binOp o t x y u) (rho (ovLook base ov)) m)) (nxt P A L ops base d os ov Q)) (WO P A L ops base os (ovPut d (.v (.tup [])) ov) m Q) := WO_guard (gslot_get h) rfl
theorem w_unOp {o : UnOp} {t : TypeId} {x : Operand} : WO P A L ops base (⟨d, .unOp o t x, ty, pos, aft, none⟩ :: os) ov m Q = OB (Od (op0 P L d (.unOp o t x) (rho (ovLook base ov)) m)) (nxt P A L ops base d os ov Q) := WO_plain rfl
theorem g_unOp {o : UnOp} {t : TypeId} {x : Operand} (h : (gslot ops j).isSome = true) : WO P A L ops base (⟨d, .unOp o t x, ty, pos, aft, some (j, w)⟩ :: os) ov m Q = WG (Wd (wantV (ovLook base ov ((gslot ops j).getD 0)) w)) (OB (Od (op0 P L d (.unOp o t x) (rho (ovLook base ov)) m)) (nxt P A L ops base d os ov Q)) (WO P A L ops base os (ovPut d (.v (.tup [])) ov) m Q) := WO_guard (gslot_get h) rfl
theorem w_convert {s t : TypeId} {x : Operand} : WO P A L ops base (⟨d, .convert s t x, ty, pos, aft, none⟩ :: os) ov m Q = OB (Od (op0 P L d (.convert s t x) (rho (ovLook base ov)) m)) (nxt P A L ops base d os ov Q) := WO_plain rfl
theorem g_convert {s t : TypeId} {x : Operand} (h : (gslot ops j).isSome = true) : WO P A L ops base (⟨d, .convert s t x, ty, pos, aft, some (j, w)⟩ :: os) ov m Q = WG (Wd (wantV (ovLook base ov ((gslot ops j).getD 0)) w)) (OB (Od (op0 P L d (.convert s t x) (rho (ovLook base ov)) m)) (nxt P A L ops base d os ov Q)) (WO P A L ops base os (ovPut d (.v (.tup [])) ov) m Q) := WO_guard (gslot_get h) rfl
theorem w_typeAssert {x : Operand} {t u : TypeId} {b : Bool} : WO P A L ops base (⟨d, .typeAssert x u t b, ty, pos, aft, none⟩ :: os) ov m Q = OB (Od (op0 P L d (.typeAssert x u t b) (rho (ovLook base ov)) m)) (nxt P A L ops base d os ov Q) := WO_plain rfl
theorem g_typeAssert {x : Operand} {t u : TypeId} {b : Bool} (h : (gslot ops j).isSome = true) : WO P A L ops base (⟨d, .typeAssert x u t b, ty, pos, aft, some (j, w)⟩ :: os) ov m Q = WG (Wd (wantV (ovLook base ov ((gslot ops j).getD 0)) w)) (OB (Od (op0 P L d (.typeAssert x u t b) (rho (ovLook base ov)) m)) (nxt P A L ops base d os ov Q)) (WO P A L ops base os (ovPut d (.v (.tup [])) ov) m Q) := WO_guard (gslot_get h) rfl
theorem w_makeInterface {t : TypeId} {x : Operand} : WO P A L ops base (⟨d, .makeInterface t x, ty, pos, aft, none⟩ :: os) ov m Q = OB (Od (op0 P L d (.makeInterface t x) (rho (ovLook base ov)) m)) (nxt P A L ops base d os ov Q) := WO_plain rfl
theorem g_makeInterface {t : TypeId} {x : Operand} (h : (gslot ops j).isSome = true) : WO P A L ops base (⟨d, .makeInterface t x, ty, pos, aft, some (j, w)⟩ :: os) ov m Q = WG (Wd (wantV (ovLook base ov ((gslot ops j).getD 0)) w)) (OB (Od (op0 P L d (.makeInterface t x) (rho (ovLook base ov)) m)) (nxt P A L ops base d os ov Q)) (WO P A L ops base os (ovPut d (.v (.tup [])) ov) m Q) := WO_guard (gslot_get h) rfl
theorem w_makeFunc {g : Fn} {as cs : Array Operand} : WO P A L ops base (⟨d, .makeFunc g as cs, ty, pos, aft, none⟩ :: os) ov m Q = OB (Od (op0 P L d (.makeFunc g as cs) (rho (ovLook base ov)) m)) (nxt P A L ops base d os ov Q) := WO_plain rfl
theorem g_makeFunc {g : Fn} {as cs : Array Operand} (h : (gslot ops j).isSome = true) : WO P A L ops base (⟨d, .makeFunc g as cs, ty, pos, aft, some (j, w)⟩ :: os) ov m Q = WG (Wd (wantV (ovLook base ov ((gslot ops j).getD 0)) w)) (OB (Od (op0 P L d (.makeFunc g as cs) (rho (ovLook base ov)) m)) (nxt P A L ops base d os ov Q)) (WO P A L ops base os (ovPut d (.v (.tup [])) ov) m Q) := WO_guard (gslot_get h) rfl
theorem w_makeSlice {t : TypeId} {x y : Operand} : WO P A L ops base (⟨d, .makeSlice t x y, ty, pos, aft, none⟩ :: os) ov m Q = OB (Od (op0 P L d (.makeSlice t x y) (rho (ovLook base ov)) m)) (nxt P A L ops base d os ov Q) := WO_plain rfl
theorem g_makeSlice {t : TypeId} {x y : Operand} (h : (gslot ops j).isSome = true) : WO P A L ops base (⟨d, .makeSlice t x y, ty, pos, aft, some (j, w)⟩ :: os) ov m Q = WG (Wd (wantV (ovLook base ov ((gslot ops j).getD 0)) w)) (OB (Od (op0 P L d (.makeSlice t x y) (rho (ovLook base ov)) m)) (nxt P A L ops base d os ov Q)) (WO P A L ops base os (ovPut d (.v (.tup [])) ov) m Q) := WO_guard (gslot_get h) rfl
theorem w_slice {t : TypeId} {x : Operand} {lo hi mx : Option Operand} : WO P A L ops base (⟨d, .slice t x lo hi mx, ty, pos, aft, none⟩ :: os) ov m Q = OB (Od (op0 P L d (.slice t x lo hi mx) (rho (ovLook base ov)) m)) (nxt P A L ops base d os ov Q) := WO_plain rfl
theorem g_slice {t : TypeId} {x : Operand} {lo hi mx : Option Operand} (h : (gslot ops j).isSome = true) : WO P A L ops base (⟨d, .slice t x lo hi mx, ty, pos, aft, some (j, w)⟩ :: os) ov m Q = WG (Wd (wantV (ovLook base ov ((gslot ops j).getD 0)) w)) (OB (Od (op0 P L d (.slice t x lo hi mx) (rho (ovLook base ov)) m)) (nxt P A L ops base d os ov Q)) (WO P A L ops base os (ovPut d (.v (.tup [])) ov) m Q) := WO_guard (gslot_get h) rfl
theorem w_fieldAddr {t : TypeId} {x : Operand} {n : Nat} : WO P A L ops base (⟨d, .fieldAddr t x n, ty, pos, aft, none⟩ :: os) ov m Q = OB (Od (op0 P L d (.fieldAddr t x n) (rho (ovLook base ov)) m)) (nxt P A L ops base d os ov Q) := WO_plain rfl
theorem g_fieldAddr {t : TypeId} {x : Operand} {n : Nat} (h : (gslot ops j).isSome = true) : WO P A L ops base (⟨d, .fieldAddr t x n, ty, pos, aft, some (j, w)⟩ :: os) ov m Q = WG (Wd (wantV (ovLook base ov ((gslot ops j).getD 0)) w)) (OB (Od (op0 P L d (.fieldAddr t x n) (rho (ovLook base ov)) m)) (nxt P A L ops base d os ov Q)) (WO P A L ops base os (ovPut d (.v (.tup [])) ov) m Q) := WO_guard (gslot_get h) rfl
theorem w_field {t : TypeId} {x : Operand} {n : Nat} : WO P A L ops base (⟨d, .field t x n, ty, pos, aft, none⟩ :: os) ov m Q = OB (Od (op0 P L d (.field t x n) (rho (ovLook base ov)) m)) (nxt P A L ops base d os ov Q) := WO_plain rfl
theorem g_field {t : TypeId} {x : Operand} {n : Nat} (h : (gslot ops j).isSome = true) : WO P A L ops base (⟨d, .field t x n, ty, pos, aft, some (j, w)⟩ :: os) ov m Q = WG (Wd (wantV (ovLook base ov ((gslot ops j).getD 0)) w)) (OB (Od (op0 P L d (.field t x n) (rho (ovLook base ov)) m)) (nxt P A L ops base d os ov Q)) (WO P A L ops base os (ovPut d (.v (.tup [])) ov) m Q) := WO_guard (gslot_get h) rfl
theorem w_indexAddr {t : TypeId} {x y : Operand} : WO P A L ops base (⟨d, .indexAddr t x y, ty, pos, aft, none⟩ :: os) ov m Q = OB (Od (op0 P L d (.indexAddr t x y) (rho (ovLook base ov)) m)) (nxt P A L ops base d os ov Q) := WO_plain rfl
theorem g_indexAddr {t : TypeId} {x y : Operand} (h : (gslot ops j).isSome = true) : WO P A L ops base (⟨d, .indexAddr t x y, ty, pos, aft, some (j, w)⟩ :: os) ov m Q = WG (Wd (wantV (ovLook base ov ((gslot ops j).getD 0)) w)) (OB (Od (op0 P L d (.indexAddr t x y) (rho (ovLook base ov)) m)) (nxt P A L ops base d os ov Q)) (WO P A L ops base os (ovPut d (.v (.tup [])) ov) m Q) := WO_guard (gslot_get h) rfl
theorem w_index {t : TypeId} {x y : Operand} : WO P A L ops base (⟨d, .index t x y, ty, pos, aft, none⟩ :: os) ov m Q = OB (Od (op0 P L d (.index t x y) (rho (ovLook base ov)) m)) (nxt P A L ops base d os ov Q) := WO_plain rfl
theorem g_index {t : TypeId} {x y : Operand} (h : (gslot ops j).isSome = true) : WO P A L ops base (⟨d, .index t x y, ty, pos, aft, some (j, w)⟩ :: os) ov m Q = WG (Wd (wantV (ovLook base ov ((gslot ops j).getD 0)) w)) (OB (Od (op0 P L d (.index t x y) (rho (ovLook base ov)) m)) (nxt P A L ops base d os ov Q)) (WO P A L ops base os (ovPut d (.v (.tup [])) ov) m Q) := WO_guard (gslot_get h) rfl
theorem w_makeMap {t : TypeId} {x : Option Operand} : WO P A L ops base (⟨d, .makeMap t x, ty, pos, aft, none⟩ :: os) ov m Q = OB (Od (op0 P L d (.makeMap t x) (rho (ovLook base ov)) m)) (nxt P A L ops base d os ov Q) := WO_plain rfl
theorem g_makeMap {t : TypeId} {x : Option Operand} (h : (gslot ops j).isSome = true) : WO P A L ops base (⟨d, .makeMap t x, ty, pos, aft, some (j, w)⟩ :: os) ov m Q = WG (Wd (wantV (ovLook base ov ((gslot ops j).getD 0)) w)) (OB (Od (op0 P L d (.makeMap t x) (rho (ovLook base ov)) m)) (nxt P A L ops base d os ov Q)) (WO P A L ops base os (ovPut d (.v (.tup [])) ov) m Q) := WO_guard (gslot_get h) rfl
theorem w_lookup {t : TypeId} {x y : Operand} {b : Bool} : WO P A L ops base (⟨d, .lookup t x y b, ty, pos, aft, none⟩ :: os) ov m Q = OB (Od (op0 P L d (.lookup t x y b) (rho (ovLook base ov)) m)) (nxt P A L ops base d os ov Q) := WO_plain rfl
theorem g_lookup {t : TypeId} {x y : Operand} {b : Bool} (h : (gslot ops j).isSome = true) : WO P A L ops base (⟨d, .lookup t x y b, ty, pos, aft, some (j, w)⟩ :: os) ov m Q = WG (Wd (wantV (ovLook base ov ((gslot ops j).getD 0)) w)) (OB (Od (op0 P L d (.lookup t x y b) (rho (ovLook base ov)) m)) (nxt P A L ops base d os ov Q)) (WO P A L ops base os (ovPut d (.v (.tup [])) ov) m Q) := WO_guard (gslot_get h) rfl
theorem w_mapUpdate {t : TypeId} {x y z : Operand} : WO P A L ops base (⟨d, .mapUpdate t x y z, ty, pos, aft, none⟩ :: os) ov m Q = OB (Od (op0 P L d (.mapUpdate t x y z) (rho (ovLook base ov)) m)) (nxt P A L ops base d os ov Q) := WO_plain rfl
theorem g_mapUpdate {t : TypeId} {x y z : Operand} (h : (gslot ops j).isSome = true) : WO P A L ops base (⟨d, .mapUpdate t x y z, ty, pos, aft, some (j, w)⟩ :: os) ov m Q = WG (Wd (wantV (ovLook base ov ((gslot ops j).getD 0)) w)) (OB (Od (op0 P L d (.mapUpdate t x y z) (rho (ovLook base ov)) m)) (nxt P A L ops base d os ov Q)) (WO P A L ops base os (ovPut d (.v (.tup [])) ov) m Q) := WO_guard (gslot_get h) rfl
theorem w_extract {x : Operand} {n : Nat} : WO P A L ops base (⟨d, .extract x n, ty, pos, aft, none⟩ :: os) ov m Q = OB (Od (op0 P L d (.extract x n) (rho (ovLook base ov)) m)) (nxt P A L ops base d os ov Q) := WO_plain rfl
theorem g_extract {x : Operand} {n : Nat} (h : (gslot ops j).isSome = true) : WO P A L ops base (⟨d, .extract x n, ty, pos, aft, some (j, w)⟩ :: os) ov m Q = WG (Wd (wantV (ovLook base ov ((gslot ops j).getD 0)) w)) (OB (Od (op0 P L d (.extract x n) (rho (ovLook base ov)) m)) (nxt P A L ops base d os ov Q)) (WO P A L ops base os (ovPut d (.v (.tup [])) ov) m Q) := WO_guard (gslot_get h) rfl
theorem w_builtin {b : Builtin} {as : Array Operand} {ts : Array TypeId} : WO P A L ops base (⟨d, .call ⟨.builtin b, as, ts⟩, ty, pos, aft, none⟩ :: os) ov m Q = OB (Od (op0 P L d (.call ⟨.builtin b, as, ts⟩) (rho (ovLook base ov)) m)) (nxt P A L ops base d os ov Q) := WO_plain rfl
theorem g_builtin {b : Builtin} {as : Array Operand} {ts : Array TypeId} (h : (gslot ops j).isSome = true) : WO P A L ops base (⟨d, .call ⟨.builtin b, as, ts⟩, ty, pos, aft, some (j, w)⟩ :: os) ov m Q = WG (Wd (wantV (ovLook base ov ((gslot ops j).getD 0)) w)) (OB (Od (op0 P L d (.call ⟨.builtin b, as, ts⟩) (rho (ovLook base ov)) m)) (nxt P A L ops base d os ov Q)) (WO P A L ops base os (ovPut d (.v (.tup [])) ov) m Q) := WO_guard (gslot_get h) rfl
end
end Go.Idl
namespace Go.Idl
mutual
theorem eqVl_refl : ∀ x : Vl, eqVl x x = true
  | .int .. | .bool _ | .str _ | .nils | .nilp | .nilf | .nili | .nilm | .undef => by simp [eqVl]
  | .own .. | .ep .. | .bp .. | .yld _ | .mp _ => by simp [eqVl]
  | .agg cs => by simp [eqVl, eqVls_refl cs]
  | .tup cs => by simp [eqVl, eqVls_refl cs]
  | .lst e xs b => by simp [eqVl, eqVls_refl xs]
  | .fp b o => by simp [eqVl, eqVl_refl b]
  | .ifc t v => by simp [eqVl, eqVl_refl v]
  | .loc v => by simp [eqVl, eqVl_refl v]
  | .fn f a b => by simp [eqVl, eqVls_refl a, eqVls_refl b]
theorem eqVls_refl : ∀ x : List Vl, eqVls x x = true
  | [] => rfl
  | x :: xs => by simp [eqVls, eqVl_refl x, eqVls_refl xs]
end
theorem eqArg_refl (x : Arg) : eqArg x x = true := by cases x <;> simp [eqArg, eqVl_refl]
def hasP : List (Nat × Nat) → Nat → Nat → Bool
  | [], _, _ => false
  | p :: ps, i, j => (p.1 == i && p.2 == j) || hasP ps i j
def hasR : List (Nat × Nat) → Nat → Bool
  | [], _ => false
  | p :: ps, n => (p.1 == n && decide (n < p.2)) || hasR ps n
def hasM : List (Nat × Nat) → Nat → Bool
  | [], _ => false
  | p :: ps, n => (p.2 == n && decide (n < p.1)) || hasM ps n
theorem hasP_mem {i j : Nat} : ∀ {ps : List (Nat × Nat)}, (i, j) ∈ ps → hasP ps i j = true
  | p :: ps, h => by
    rcases List.mem_cons.1 h with e | h
    · subst e; simp [hasP]
    · simp [hasP, hasP_mem h]
theorem hasR_mem {i j : Nat} (hij : i < j) : ∀ {ps : List (Nat × Nat)}, (i, j) ∈ ps → hasR ps i = true
  | p :: ps, h => by
    rcases List.mem_cons.1 h with e | h
    · subst e; simp [hasR, hij]
    · simp [hasR, hasR_mem hij h]
theorem hasM_mem {i j : Nat} (hij : j < i) : ∀ {ps : List (Nat × Nat)}, (i, j) ∈ ps → hasM ps j = true
  | p :: ps, h => by
    rcases List.mem_cons.1 h with e | h
    · subst e; simp [hasM, hij]
    · simp [hasM, hasM_mem hij h]
def chk (P : Program) (d : Option Nat) (op : Op) (ρ : Operand → Arg) (g : Arg) (m : Mem) : Prop := (evalV P d op ρ m).map (·.1) = some g
def late (ps : List (Nat × Nat)) (n : Nat) : List (Nat × (Mem → Prop)) → Mem → Prop
  | [], _ => True
  | (i, c) :: rs, m => (hasP ps i n = true → c m) ∧ late ps n rs m
def early (ps : List (Nat × Nat)) (n : Nat) (c : Mem → Prop) : List (Nat × Mem) → Prop
  | [] => True
  | (j, m) :: ms => (hasP ps n j = true → c m) ∧ early ps n c ms
def addR (ps : List (Nat × Nat)) (n : Nat) (c : Mem → Prop) (rs : List (Nat × (Mem → Prop))) : List (Nat × (Mem → Prop)) := if hasR ps n then (n, c) :: rs else rs
def addM (ps : List (Nat × Nat)) (n : Nat) (m : Mem) (ms : List (Nat × Mem)) : List (Nat × Mem) := if hasM ps n then (n, m) :: ms else ms
section
variable {P : Program} {A : Ann} {L : List Nat} {ops : Array Oper} {base : Nat → Arg} {ps : List (Nat × Nat)}
def WD (P : Program) (A : Ann) (L : List Nat) (ops : Array Oper) (base : Nat → Arg) (ps : List (Nat × Nat)) : Nat → List Oper → List (Nat × (Mem → Prop)) → List (Nat × Mem) → List (Nat × Arg) → Mem → (List (Nat × Arg) → Mem → Prop) → Prop
  | _, [], _, _, ov, m, Q => Q ov m
  | n, o :: os, rs, ms, ov, m, Q =>
    WG (wantedI ops (ovLook base ov) o)
      (match o.op with
        | .call ⟨.value fo, as, _⟩ => WC P A (rho (ovLook base ov) fo).vl (as.toList.map (rho (ovLook base ov))) m fun v m' =>
            late ps n rs m' ∧ WD P A L ops base ps (n + 1) os rs (addM ps n m ms) (ovPut o.dst (.v v) ov) m' Q
        | .call ⟨.invoke fo name, as, _⟩ => WV P A (rho (ovLook base ov) fo).vl name (as.toList.map (rho (ovLook base ov))) m fun v m' =>
            late ps n rs m' ∧ WD P A L ops base ps (n + 1) os rs (addM ps n m ms) (ovPut o.dst (.v v) ov) m' Q
        | _ => OB (op0 P L o.dst o.op (rho (ovLook base ov)) m) fun r =>
            late ps n rs r.2 ∧ early ps n (chk P o.dst o.op (rho (ovLook base ov)) r.1) ms ∧
            WD P A L ops base ps (n + 1) os (addR ps n (chk P o.dst o.op (rho (ovLook base ov)) r.1) rs) (addM ps n m ms) (ovPut o.dst r.1 ov) r.2 Q)
      (late ps n rs m ∧ WD P A L ops base ps (n + 1) os rs (addM ps n m ms) (ovPut o.dst (.v (.tup [])) ov) m Q)
def Seen (P : Program) (base : Nat → Arg) (ps : List (Nat × Nat)) (n : Nat) (rs : List (Nat × (Mem → Prop))) (ms : List (Nat × Mem)) (tr : List TR) : Prop :=
  ∀ i j, (i, j) ∈ ps → i ≠ j →
    (n ≤ i → n ≤ j → ∀ x y, tr[i - n]? = some x → tr[j - n]? = some y → x.ran = true → chk P x.o.dst x.o.op (rho (ovLook base x.ov)) x.g (if j < i then y.m else y.m')) ∧
    (i < n → n ≤ j → ∀ c, (i, c) ∈ rs → ∀ y, tr[j - n]? = some y → c y.m') ∧
    (n ≤ i → j < n → ∀ mj, (j, mj) ∈ ms → ∀ x, tr[i - n]? = some x → x.ran = true → chk P x.o.dst x.o.op (rho (ovLook base x.ov)) x.g mj)
theorem late_mem {n : Nat} {m : Mem} {i : Nat} {c : Mem → Prop} : ∀ {rs : List (Nat × (Mem → Prop))}, late ps n rs m → (i, n) ∈ ps → (i, c) ∈ rs → c m
  | (i', c') :: rs, h, hp, hm => by
    rcases List.mem_cons.1 hm with e | hm
    · cases e; exact h.1 (hasP_mem hp)
    · exact late_mem h.2 hp hm
theorem early_mem {n : Nat} {m : Mem} {j : Nat} {c : Mem → Prop} : ∀ {ms : List (Nat × Mem)}, early ps n c ms → (n, j) ∈ ps → (j, m) ∈ ms → c m
  | (j', m') :: ms, h, hp, hm => by
    rcases List.mem_cons.1 hm with e | hm
    · cases e; exact h.1 (hasP_mem hp)
    · exact early_mem h.2 hp hm
theorem mem_addR {n : Nat} {c : Mem → Prop} {rs : List (Nat × (Mem → Prop))} {x : Nat × (Mem → Prop)} (h : x ∈ rs) : x ∈ addR ps n c rs := by
  unfold addR; split
  · exact List.mem_cons_of_mem _ h
  · exact h
theorem mem_addM {n : Nat} {m : Mem} {ms : List (Nat × Mem)} {x : Nat × Mem} (h : x ∈ ms) : x ∈ addM ps n m ms := by
  unfold addM; split
  · exact List.mem_cons_of_mem _ h
  · exact h
theorem new_addR {n j : Nat} {c : Mem → Prop} {rs : List (Nat × (Mem → Prop))} (h : (n, j) ∈ ps) (hj : n < j) : (n, c) ∈ addR ps n c rs := by
  unfold addR; rw [if_pos]
  · exact List.mem_cons_self
  · exact hasR_mem hj h
theorem new_addM {n i : Nat} {m : Mem} {ms : List (Nat × Mem)} (h : (i, n) ∈ ps) (hj : n < i) : (n, m) ∈ addM ps n m ms := by
  unfold addM; rw [if_pos]
  · exact List.mem_cons_self
  · exact hasM_mem hj h
theorem seen_step {n : Nat} {rs rs' : List (Nat × (Mem → Prop))} {ms : List (Nat × Mem)} {x : TR} {tr : List TR} (hS : Seen P base ps (n + 1) rs' (addM ps n x.m ms) tr)
    (hsub : ∀ y ∈ rs, y ∈ rs') (hlate : late ps n rs x.m') (hearly : x.ran = true → (∃ j, (n, j) ∈ ps) → early ps n (chk P x.o.dst x.o.op (rho (ovLook base x.ov)) x.g) ms)
    (hnew : x.ran = true → ∀ j, (n, j) ∈ ps → n < j → (n, chk P x.o.dst x.o.op (rho (ovLook base x.ov)) x.g) ∈ rs') : Seen P base ps n rs ms (x :: tr) := by
  intro i j hp hij
  obtain ⟨s1, s2, s3⟩ := hS i j hp hij
  have sh : ∀ a, n < a → (x :: tr)[a - n]? = tr[a - (n + 1)]? := fun a ha => by
    rw [show a - n = (a - (n + 1)) + 1 by omega]; simp
  have sn : (x :: tr)[n - n]? = some x := by simp
  refine ⟨fun hi hj x' y' hx hy hr => ?_, fun hi hj c hc y' hy => ?_, fun hi hj mj hmj x' hx hr => ?_⟩
  · rcases Nat.lt_or_ge n i with hi' | hi'
    · rcases Nat.lt_or_ge n j with hj' | hj'
      · rw [sh i hi'] at hx
        rw [sh j hj'] at hy
        exact s1 hi' hj' x' y' hx hy hr
      · obtain rfl : j = n := by omega
        rw [sh i hi'] at hx
        rw [sn] at hy
        cases hy
        rw [if_pos hi']
        exact s3 hi' (Nat.lt_succ_self _) _ (new_addM hp hi') x' hx hr
    · obtain rfl : i = n := by omega
      have hj' : i < j := by omega
      rw [sn] at hx
      cases hx
      rw [sh j hj'] at hy
      rw [if_neg (by omega)]
      exact s2 (Nat.lt_succ_self _) hj' _ (hnew hr j hp hj') y' hy
  · rcases Nat.lt_or_ge n j with hj' | hj'
    · rw [sh j hj'] at hy
      exact s2 (by omega) hj' c (hsub _ hc) y' hy
    · obtain rfl : j = n := by omega
      rw [sn] at hy
      cases hy
      exact late_mem hlate hp hc
  · rcases Nat.lt_or_ge n i with hi' | hi'
    · rw [sh i hi'] at hx
      exact s3 hi' (by omega) mj (mem_addM hmj) x' hx hr
    · obtain rfl : i = n := by omega
      rw [sn] at hx
      cases hx
      exact early_mem (hearly hr ⟨j, hp⟩) hp hmj
theorem WD_trace {Q : List (Nat × Arg) → Mem → Prop} : ∀ (os : List Oper) (n : Nat) (rs : List (Nat × (Mem → Prop))) (ms : List (Nat × Mem)) (ov : List (Nat × Arg)) (m : Mem),
    (∀ i j, (i, j) ∈ ps → n ≤ i → ∀ o, os[i - n]? = some o → isCallV o.op = false) → WD P A L ops base ps n os rs ms ov m Q →
    ∃ k tr ov' m', traceOps P (callI P A (exec P A k)) (fun d => L.elem d) ops base os ov m = some (tr, ov', m') ∧ Q ov' m' ∧ Seen P base ps n rs ms tr
  | [], n, rs, ms, ov, m, _, h => ⟨0, [], ov, m, rfl, h, fun i j hp hij => ⟨fun _ _ x y hx => by simp at hx, fun _ _ c _ y hy => by simp at hy, fun _ _ mj _ x hx => by simp at hx⟩⟩
  | o :: os, n, rs, ms, ov, m, hnc, h => by
    have hnc' : ∀ i j, (i, j) ∈ ps → n + 1 ≤ i → ∀ o, os[i - (n + 1)]? = some o → isCallV o.op = false := fun i j hp hi o' ho' =>
      hnc i j hp (by omega) o' (by rw [show i - n = (i - (n + 1)) + 1 by omega]; simpa using ho')
    unfold WD at h
    rcases h with ⟨hw, h⟩ | ⟨hw, h1, h2⟩
    · by_cases hc : isCallV o.op = true
      · obtain ⟨d, op, ty, pos, aft, gd⟩ := o
        cases op <;> try (cases hc; done)
        rename_i cl
        obtain ⟨callee, as, ats⟩ := cl
        cases callee with
        | builtin b => cases hc
        | value fo =>
          obtain ⟨v, m1, ⟨k1, hk1⟩, hl, hr⟩ := h
          obtain ⟨k2, tr, ov', m', ht, hq, hS⟩ := WD_trace os (n + 1) rs _ _ _ hnc' hr
          refine ⟨max k1 k2, ⟨⟨d, .call ⟨.value fo, as, ats⟩, ty, pos, aft, gd⟩, ov, m, true, .v v, m1⟩ :: tr, ov', m', ?_, hq, ?_⟩
          · rw [traceOps, hw]
            simp only [opI]
            have e1 := callI_mono (P := P) (A := A) (fun ro => exec_mono (Nat.le_max_left k1 k2) ro) _ _ _ _ hk1
            rw [e1]
            have e2 := traceOps_mono (callI_mono (P := P) (A := A) (fun ro => exec_mono (Nat.le_max_right k1 k2) ro)) _ _ _ _ _ _ _ ht
            simp only [Option.map_some, Option.bind_some, e2]
          · refine seen_step (x := ⟨⟨d, .call ⟨.value fo, as, ats⟩, ty, pos, aft, gd⟩, ov, m, true, .v v, m1⟩) hS (fun _ h => h) hl (fun _ ⟨j, hp⟩ => ?_) (fun _ j hp hj => ?_)
            · have q := hnc n j hp (Nat.le_refl _) ⟨d, .call ⟨.value fo, as, ats⟩, ty, pos, aft, gd⟩ (by simp)
              cases q
            · have q := hnc n j hp (Nat.le_refl _) ⟨d, .call ⟨.value fo, as, ats⟩, ty, pos, aft, gd⟩ (by simp)
              cases q
        | invoke fo name =>
          obtain ⟨t, x, g, hx, hg, v, m1, ⟨k1, hk1⟩, hl, hr⟩ := h
          obtain ⟨k2, tr, ov', m', ht, hq, hS⟩ := WD_trace os (n + 1) rs _ _ _ hnc' hr
          refine ⟨max k1 k2, ⟨⟨d, .call ⟨.invoke fo name, as, ats⟩, ty, pos, aft, gd⟩, ov, m, true, .v v, m1⟩ :: tr, ov', m', ?_, hq, ?_⟩
          · rw [traceOps, hw]
            simp only
            have e1 := callI_mono (P := P) (A := A) (fun ro => exec_mono (Nat.le_max_left k1 k2) ro) _ _ _ _ hk1
            rw [opI_inv.2 ⟨t, x, g, (v, m1), hx, hg, e1, rfl⟩]
            have e2 := traceOps_mono (callI_mono (P := P) (A := A) (fun ro => exec_mono (Nat.le_max_right k1 k2) ro)) _ _ _ _ _ _ _ ht
            simp only [Option.map_some, Option.bind_some, e2]
          · refine seen_step (x := ⟨⟨d, .call ⟨.invoke fo name, as, ats⟩, ty, pos, aft, gd⟩, ov, m, true, .v v, m1⟩) hS (fun _ h => h) hl (fun _ ⟨j, hp⟩ => ?_) (fun _ j hp hj => ?_)
            · have q := hnc n j hp (Nat.le_refl _) ⟨d, .call ⟨.invoke fo name, as, ats⟩, ty, pos, aft, gd⟩ (by simp)
              cases q
            · have q := hnc n j hp (Nat.le_refl _) ⟨d, .call ⟨.invoke fo name, as, ats⟩, ty, pos, aft, gd⟩ (by simp)
              cases q
      · have hc : isCallV o.op = false := by simpa using hc
        have h' : OB (op0 P L o.dst o.op (rho (ovLook base ov)) m) fun r =>
            late ps n rs r.2 ∧ early ps n (chk P o.dst o.op (rho (ovLook base ov)) r.1) ms ∧
            WD P A L ops base ps (n + 1) os (addR ps n (chk P o.dst o.op (rho (ovLook base ov)) r.1) rs) (addM ps n m ms) (ovPut o.dst r.1 ov) r.2 Q := by
          obtain ⟨d, op, ty, pos, aft, gd⟩ := o
          cases op <;> try exact h
          rename_i cl _
          obtain ⟨callee, as, ats⟩ := cl
          cases callee <;> first | exact h | cases hc
        obtain ⟨⟨g, m1⟩, h1, hl, he, hr⟩ := h'
        obtain ⟨k, tr, ov', m', ht, hq, hS⟩ := WD_trace os (n + 1) _ _ _ _ hnc' hr
        refine ⟨k, ⟨o, ov, m, true, g, m1⟩ :: tr, ov', m', ?_, hq, ?_⟩
        · rw [traceOps, hw]
          simp only
          obtain ⟨d, op, ty, pos, aft, gd⟩ := o
          rw [opI_op0 hc, h1]
          simp only [Option.bind_some, ht, Option.map_some]
        · exact seen_step (x := ⟨o, ov, m, true, g, m1⟩) hS (fun _ h => mem_addR h) hl (fun _ _ => he) (fun _ j hp hj => new_addR hp hj)
    · obtain ⟨k, tr, ov', m', ht, hq, hS⟩ := WD_trace os (n + 1) rs _ _ _ hnc' h2
      refine ⟨k, ⟨o, ov, m, false, .v (.tup []), m⟩ :: tr, ov', m', ?_, hq, ?_⟩
      · rw [traceOps, hw]
        simp only [ht, Option.map_some]
      · exact seen_step (x := ⟨o, ov, m, false, .v (.tup []), m⟩) hS (fun _ h => h) h1 (fun h => by cases h) (fun h => by cases h)
theorem loose_mem {loc : Nat → Bool} {i j : Nat} (h : (i, j) ∈ loosePairs loc ops) : i ≠ j ∧ ∃ o, ops.toList[i]? = some o ∧ readsOp o.op = true := by
  unfold loosePairs at h
  simp only [List.mem_flatMap] at h
  obtain ⟨⟨o, i'⟩, ho, h⟩ := h
  simp only at h
  split at h
  case isFalse => cases h
  rename_i hr
  obtain ⟨⟨o', j'⟩, ho', h⟩ := List.mem_filterMap.1 h
  simp only at h
  split at h
  case isFalse => cases h
  rename_i hc
  cases h
  simp only [Bool.and_eq_true, bne_iff_ne, ne_eq, Bool.not_eq_true'] at hc hr
  refine ⟨hc.1.1.2, o, ?_, hr.1⟩
  have := List.mem_zipIdx ho
  obtain ⟨_, h2, h3⟩ := this
  simp only [Nat.sub_zero, Nat.zero_add] at h2 h3
  rw [h3]; exact List.getElem?_eq_getElem (by omega)
theorem reads_noCall {op : Op} (h : readsOp op = true) : isCallV op = false := by
  cases op <;> first | rfl | cases h
variable {loc : Nat → List Nat} {keep : Nat → Nat → List Nat} {gho : Nat → Nat → List Gho} {fin : Nat → List Gho} {heap : Nat → Bool} {ext : Nat → Option (List Vl → Option Vl)} {ro : Option Nat} {f : FuncId}
theorem wp_draw {id : Nat} {ops : Array Oper} {s : FS} {Q : XE → FS → Prop} {ps : List (Nat × Nat)} (hst : staticOk (fun d => (loc f).elem d) ops = true) (hps : loosePairs (fun d => (loc f).elem d) ops = ps) (hn : nodupI (allocDs ops.toList) = true)
    (h : OB (Od (ghosts (gho f id) s)) fun s1 => WD P (mkAnn loc keep gho fin heap ext) (loc f) ops (baseOf s1.sl (allocDs ops.toList)) ps 0 ops.toList [] [] [] { lc := [], hp := s1.hp, nx := s1.nx } (endQ (keep f id) (baseOf s1.sl (allocDs ops.toList)) Q)) :
    Wp P (mkAnn loc keep gho fin heap ext) ro f (.region id ops true) s Q := by
  obtain ⟨s1, hg, h⟩ := h
  have hnc : ∀ i j, (i, j) ∈ ps → 0 ≤ i → ∀ o, ops.toList[i - 0]? = some o → isCallV o.op = false := fun i j hp _ o ho => by
    rw [← hps] at hp
    obtain ⟨_, o', h1, h2⟩ := loose_mem hp
    rw [Nat.sub_zero, h1] at ho
    cases ho
    exact reads_noCall h2
  obtain ⟨k, tr, ov', m', ht, hq, hS⟩ := WD_trace ops.toList 0 [] [] [] _ hnc h
  refine ⟨.normal, _, ⟨k + 1, ?_⟩, hq⟩
  have hg' : ghosts ((mkAnn loc keep gho fin heap ext).gho f id) s = some s1 := hg
  have hn' : nodupI (allocDsts ops) = true := by rw [allocDsts_list]; exact hn
  simp only [exec]
  unfold regionI
  rw [hg']
  simp only [Option.bind_some]
  rw [hn']
  simp only [Bool.not_true, Bool.false_eq_true, if_false, if_true]
  have hst' : staticOk ((mkAnn loc keep gho fin heap ext).loc f) ops = true := hst
  rw [if_pos hst']
  have ht' : traceOps P (callI P (mkAnn loc keep gho fin heap ext) (exec P (mkAnn loc keep gho fin heap ext) k)) ((mkAnn loc keep gho fin heap ext).loc f) ops (lookOf (s1.sl.filter fun p => !(allocDsts ops).contains p.1)) ops.toList [] { lc := [], hp := s1.hp, nx := s1.nx } = some (tr, ov', m') := by
    rw [allocDsts_list]; exact ht
  rw [ht']
  simp only [Option.bind_some]
  have hl : ((loosePairs ((mkAnn loc keep gho fin heap ext).loc f) ops).all (looseOk P (lookOf (s1.sl.filter fun p => !(allocDsts ops).contains p.1)) tr)) = true := by
    refine List.all_eq_true.2 fun ⟨i, j⟩ hp => ?_
    have hp0 : (i, j) ∈ loosePairs (fun d => (loc f).elem d) ops := hp
    have hne := (loose_mem hp0).1
    rw [hps] at hp0
    have := (hS i j hp0 hne).1 (Nat.zero_le _) (Nat.zero_le _)
    unfold looseOk
    simp only [Nat.sub_zero] at this ⊢
    cases hx : tr[i]? with
    | none =>
      -- there is such an operation
      obtain ⟨_, o, ho, _⟩ := loose_mem hp
      have h4 := (trace_facts (P := P) (m0 := { lc := [], hp := s1.hp, nx := s1.nx }) ops.toList [] [] _ tr ov' m' ht' (fun s => .inr ⟨fun j y hy => by simp at hy, rfl⟩) (.inr ⟨fun j y hy => by simp at hy, rfl⟩)).2.2.2
      have := List.getElem?_eq_none_iff.1 hx
      have := (List.getElem?_eq_some_iff.1 ho).1
      omega
    | some x =>
      cases hy : tr[j]? with
      | none =>
        have h4 := (trace_facts (P := P) (m0 := { lc := [], hp := s1.hp, nx := s1.nx }) ops.toList [] [] _ tr ov' m' ht' (fun s => .inr ⟨fun j y hy => by simp at hy, rfl⟩) (.inr ⟨fun j y hy => by simp at hy, rfl⟩)).2.2.2
        have h5 := List.getElem?_eq_none_iff.1 hy
        have h6 : j < ops.toList.length := by
          unfold loosePairs at hp
          simp only [List.mem_flatMap] at hp
          obtain ⟨⟨o, i'⟩, ho, hp⟩ := hp
          simp only at hp
          split at hp
          case isFalse => cases hp
          obtain ⟨⟨o', j'⟩, ho', hp⟩ := List.mem_filterMap.1 hp
          simp only at hp
          split at hp
          case isFalse => cases hp
          cases hp
          have := List.mem_zipIdx ho'
          omega
        omega
      | some y =>
        simp only
        cases hr : x.ran with
        | false => rfl
        | true =>
          have hc := this x y hx hy hr
          unfold chk at hc
          obtain ⟨⟨g, mm⟩, h1, h2⟩ := Option.map_eq_some_iff.1 hc
          simp only [Bool.not_true, Bool.false_or]
          have e : ovLook (baseOf s1.sl (allocDs ops.toList)) x.ov = ovLook (lookOf (s1.sl.filter fun p => !(allocDsts ops).contains p.1)) x.ov := by rw [allocDsts_list]; rfl
          rw [← e, h1]
          simp only at h2 ⊢
          rw [h2]; exact eqArg_refl _
  rw [if_pos hl]
  rw [allocDsts_list]
  rfl
end
end Go.Idl
namespace Go.Idl
section
variable {P : Program} {A : Ann} {L : List Nat} {ops : Array Oper} {base : Nat → Arg} {ps : List (Nat × Nat)} {n : Nat} {d : Option Nat} {ty : TypeId} {pos : String} {aft : Array Edge} {os : List Oper} {rs : List (Nat × (Mem → Prop))} {ms : List (Nat × Mem)} {ov : List (Nat × Arg)} {m : Mem} {Q : List (Nat × Arg) → Mem → Prop} {j : Nat} {w : Bool}
theorem WD_congr {base' : Nat → Arg} {ov' : List (Nat × Arg)} {m' : Mem} (h0 : base = base') (h1 : ov = ov') (h2 : m = m') : WD P A L ops base ps n os rs ms ov m Q = WD P A L ops base' ps n os rs ms ov' m' Q := by rw [h0, h1, h2]
attribute [congr] WD_congr
def nxtD (P : Program) (A : Ann) (L : List Nat) (ops : Array Oper) (base : Nat → Arg) (ps : List (Nat × Nat)) (n : Nat) (d : Option Nat) (op : Op) (os : List Oper) (rs : List (Nat × (Mem → Prop))) (ms : List (Nat × Mem)) (ov : List (Nat × Arg)) (m : Mem) (Q : List (Nat × Arg) → Mem → Prop) (r : Arg × Mem) : Prop :=
  late ps n rs r.2 ∧ early ps n (chk P d op (rho (ovLook base ov)) r.1) ms ∧ WD P A L ops base ps (n + 1) os (addR ps n (chk P d op (rho (ovLook base ov)) r.1) rs) (addM ps n m ms) (ovPut d r.1 ov) r.2 Q
theorem nxtD_eq {op : Op} {r : Arg × Mem} : nxtD P A L ops base ps n d op os rs ms ov m Q r =
  (late ps n rs r.2 ∧ early ps n (chk P d op (rho (ovLook base ov)) r.1) ms ∧ WD P A L ops base ps (n + 1) os (addR ps n (chk P d op (rho (ovLook base ov)) r.1) rs) (addM ps n m ms) (ovPut d r.1 ov) r.2 Q) := rfl
def nxtC (P : Program) (A : Ann) (L : List Nat) (ops : Array Oper) (base : Nat → Arg) (ps : List (Nat × Nat)) (n : Nat) (d : Option Nat) (os : List Oper) (rs : List (Nat × (Mem → Prop))) (ms : List (Nat × Mem)) (ov : List (Nat × Arg)) (m : Mem) (Q : List (Nat × Arg) → Mem → Prop) (v : Vl) (m' : Mem) : Prop :=
  late ps n rs m' ∧ WD P A L ops base ps (n + 1) os rs (addM ps n m ms) (ovPut d (.v v) ov) m' Q
theorem nxtC_eq {v : Vl} {m' : Mem} : nxtC P A L ops base ps n d os rs ms ov m Q v m' = (late ps n rs m' ∧ WD P A L ops base ps (n + 1) os rs (addM ps n m ms) (ovPut d (.v v) ov) m' Q) := rfl
theorem WD_nil : WD P A L ops base ps n [] rs ms ov m Q = Q ov m := rfl
theorem d_call {fo : Operand} {as : Array Operand} {ats : Array TypeId} : WD P A L ops base ps n (⟨d, .call ⟨.value fo, as, ats⟩, ty, pos, aft, none⟩ :: os) rs ms ov m Q =
    WC P A (rho (ovLook base ov) fo).vl (as.toList.map (rho (ovLook base ov))) m (nxtC P A L ops base ps n d os rs ms ov m Q) := by
  rw [WD]; exact WG_true
theorem e_call {fo : Operand} {as : Array Operand} {ats : Array TypeId} (h : (gslot ops j).isSome = true) : WD P A L ops base ps n (⟨d, .call ⟨.value fo, as, ats⟩, ty, pos, aft, some (j, w)⟩ :: os) rs ms ov m Q =
    WG (Wd (wantV (ovLook base ov ((gslot ops j).getD 0)) w)) (WC P A (rho (ovLook base ov) fo).vl (as.toList.map (rho (ovLook base ov))) m (nxtC P A L ops base ps n d os rs ms ov m Q))
      (nxtC P A L ops base ps n d os rs ms ov m Q (.tup []) m) := by
  rw [WD, wanted_gs (gslot_get h)]; rfl
theorem d_inv {fo : Operand} {name : String} {as : Array Operand} {ats : Array TypeId} : WD P A L ops base ps n (⟨d, .call ⟨.invoke fo name, as, ats⟩, ty, pos, aft, none⟩ :: os) rs ms ov m Q =
    WV P A (rho (ovLook base ov) fo).vl name (as.toList.map (rho (ovLook base ov))) m (nxtC P A L ops base ps n d os rs ms ov m Q) := by
  rw [WD]; exact WG_true
theorem e_inv {fo : Operand} {name : String} {as : Array Operand} {ats : Array TypeId} (h : (gslot ops j).isSome = true) : WD P A L ops base ps n (⟨d, .call ⟨.invoke fo name, as, ats⟩, ty, pos, aft, some (j, w)⟩ :: os) rs ms ov m Q =
    WG (Wd (wantV (ovLook base ov ((gslot ops j).getD 0)) w)) (WV P A (rho (ovLook base ov) fo).vl name (as.toList.map (rho (ovLook base ov))) m (nxtC P A L ops base ps n d os rs ms ov m Q))
      (nxtC P A L ops base ps n d os rs ms ov m Q (.tup []) m) := by
  rw [WD, wanted_gs (gslot_get h)]; rfl
theorem d_move {x : Operand} : WD P A L ops base ps n (⟨d, .move x, ty, pos, aft, none⟩ :: os) rs ms ov m Q = OB (Od (op0 P L d (.move x) (rho (ovLook base ov)) m)) (nxtD P A L ops base ps n d (.move x) os rs ms ov m Q) := by rw [WD]; exact WG_true
theorem e_move {x : Operand} (h : (gslot ops j).isSome = true) : WD P A L ops base ps n (⟨d, .move x, ty, pos, aft, some (j, w)⟩ :: os) rs ms ov m Q = WG (Wd (wantV (ovLook base ov ((gslot ops j).getD 0)) w)) (OB (Od (op0 P L d (.move x) (rho (ovLook base ov)) m)) (nxtD P A L ops base ps n d (.move x) os rs ms ov m Q)) (nxtC P A L ops base ps n d os rs ms ov m Q (.tup []) m) := by rw [WD, wanted_gs (gslot_get h)]; rfl
theorem d_assign {x : Operand} : WD P A L ops base ps n (⟨d, .assign x, ty, pos, aft, none⟩ :: os) rs ms ov m Q = OB (Od (op0 P L d (.assign x) (rho (ovLook base ov)) m)) (nxtD P A L ops base ps n d (.assign x) os rs ms ov m Q) := by rw [WD]; exact WG_true
theorem e_assign {x : Operand} (h : (gslot ops j).isSome = true) : WD P A L ops base ps n (⟨d, .assign x, ty, pos, aft, some (j, w)⟩ :: os) rs ms ov m Q = WG (Wd (wantV (ovLook base ov ((gslot ops j).getD 0)) w)) (OB (Od (op0 P L d (.assign x) (rho (ovLook base ov)) m)) (nxtD P A L ops base ps n d (.assign x) os rs ms ov m Q)) (nxtC P A L ops base ps n d os rs ms ov m Q (.tup []) m) := by rw [WD, wanted_gs (gslot_get h)]; rfl
theorem d_pick {c x y : Operand} : WD P A L ops base ps n (⟨d, .pick c x y, ty, pos, aft, none⟩ :: os) rs ms ov m Q = OB (Od (op0 P L d (.pick c x y) (rho (ovLook base ov)) m)) (nxtD P A L ops base ps n d (.pick c x y) os rs ms ov m Q) := by rw [WD]; exact WG_true
theorem e_pick {c x y : Operand} (h : (gslot ops j).isSome = true) : WD P A L ops base ps n (⟨d, .pick c x y, ty, pos, aft, some (j, w)⟩ :: os) rs ms ov m Q = WG (Wd (wantV (ovLook base ov ((gslot ops j).getD 0)) w)) (OB (Od (op0 P L d (.pick c x y) (rho (ovLook base ov)) m)) (nxtD P A L ops base ps n d (.pick c x y) os rs ms ov m Q)) (nxtC P A L ops base ps n d os rs ms ov m Q (.tup []) m) := by rw [WD, wanted_gs (gslot_get h)]; rfl
theorem d_alloc {t : TypeId} : WD P A L ops base ps n (⟨d, .alloc t, ty, pos, aft, none⟩ :: os) rs ms ov m Q = OB (Od (op0 P L d (.alloc t) (rho (ovLook base ov)) m)) (nxtD P A L ops base ps n d (.alloc t) os rs ms ov m Q) := by rw [WD]; exact WG_true
theorem e_alloc {t : TypeId} (h : (gslot ops j).isSome = true) : WD P A L ops base ps n (⟨d, .alloc t, ty, pos, aft, some (j, w)⟩ :: os) rs ms ov m Q = WG (Wd (wantV (ovLook base ov ((gslot ops j).getD 0)) w)) (OB (Od (op0 P L d (.alloc t) (rho (ovLook base ov)) m)) (nxtD P A L ops base ps n d (.alloc t) os rs ms ov m Q)) (nxtC P A L ops base ps n d os rs ms ov m Q (.tup []) m) := by rw [WD, wanted_gs (gslot_get h)]; rfl
theorem d_box {t : TypeId} {x : Operand} : WD P A L ops base ps n (⟨d, .box t x, ty, pos, aft, none⟩ :: os) rs ms ov m Q = OB (Od (op0 P L d (.box t x) (rho (ovLook base ov)) m)) (nxtD P A L ops base ps n d (.box t x) os rs ms ov m Q) := by rw [WD]; exact WG_true
theorem e_box {t : TypeId} {x : Operand} (h : (gslot ops j).isSome = true) : WD P A L ops base ps n (⟨d, .box t x, ty, pos, aft, some (j, w)⟩ :: os) rs ms ov m Q = WG (Wd (wantV (ovLook base ov ((gslot ops j).getD 0)) w)) (OB (Od (op0 P L d (.box t x) (rho (ovLook base ov)) m)) (nxtD P A L ops base ps n d (.box t x) os rs ms ov m Q)) (nxtC P A L ops base ps n d os rs ms ov m Q (.tup []) m) := by rw [WD, wanted_gs (gslot_get h)]; rfl
theorem d_build {t : TypeId} {qs : Array (Nat × Operand)} : WD P A L ops base ps n (⟨d, .build t qs, ty, pos, aft, none⟩ :: os) rs ms ov m Q = OB (Od (op0 P L d (.build t qs) (rho (ovLook base ov)) m)) (nxtD P A L ops base ps n d (.build t qs) os rs ms ov m Q) := by rw [WD]; exact WG_true
theorem e_build {t : TypeId} {qs : Array (Nat × Operand)} (h : (gslot ops j).isSome = true) : WD P A L ops base ps n (⟨d, .build t qs, ty, pos, aft, some (j, w)⟩ :: os) rs ms ov m Q = WG (Wd (wantV (ovLook base ov ((gslot ops j).getD 0)) w)) (OB (Od (op0 P L d (.build t qs) (rho (ovLook base ov)) m)) (nxtD P A L ops base ps n d (.build t qs) os rs ms ov m Q)) (nxtC P A L ops base ps n d os rs ms ov m Q (.tup []) m) := by rw [WD, wanted_gs (gslot_get h)]; rfl
theorem d_buildSlice {t : TypeId} {n' : Nat} {qs : Array (Nat × Operand)} : WD P A L ops base ps n (⟨d, .buildSlice t n' qs, ty, pos, aft, none⟩ :: os) rs ms ov m Q = OB (Od (op0 P L d (.buildSlice t n' qs) (rho (ovLook base ov)) m)) (nxtD P A L ops base ps n d (.buildSlice t n' qs) os rs ms ov m Q) := by rw [WD]; exact WG_true
theorem e_buildSlice {t : TypeId} {n' : Nat} {qs : Array (Nat × Operand)} (h : (gslot ops j).isSome = true) : WD P A L ops base ps n (⟨d, .buildSlice t n' qs, ty, pos, aft, some (j, w)⟩ :: os) rs ms ov m Q = WG (Wd (wantV (ovLook base ov ((gslot ops j).getD 0)) w)) (OB (Od (op0 P L d (.buildSlice t n' qs) (rho (ovLook base ov)) m)) (nxtD P A L ops base ps n d (.buildSlice t n' qs) os rs ms ov m Q)) (nxtC P A L ops base ps n d os rs ms ov m Q (.tup []) m) := by rw [WD, wanted_gs (gslot_get h)]; rfl
theorem d_load {t : TypeId} {x : Operand} : WD P A L ops base ps n (⟨d, .load t x, ty, pos, aft, none⟩ :: os) rs ms ov m Q = OB (Od (op0 P L d (.load t x) (rho (ovLook base ov)) m)) (nxtD P A L ops base ps n d (.load t x) os rs ms ov m Q) := by rw [WD]; exact WG_true
theorem e_load {t : TypeId} {x : Operand} (h : (gslot ops j).isSome = true) : WD P A L ops base ps n (⟨d, .load t x, ty, pos, aft, some (j, w)⟩ :: os) rs ms ov m Q = WG (Wd (wantV (ovLook base ov ((gslot ops j).getD 0)) w)) (OB (Od (op0 P L d (.load t x) (rho (ovLook base ov)) m)) (nxtD P A L ops base ps n d (.load t x) os rs ms ov m Q)) (nxtC P A L ops base ps n d os rs ms ov m Q (.tup []) m) := by rw [WD, wanted_gs (gslot_get h)]; rfl
theorem d_store {t : TypeId} {x y : Operand} : WD P A L ops base ps n (⟨d, .store t x y, ty, pos, aft, none⟩ :: os) rs ms ov m Q = OB (Od (op0 P L d (.store t x y) (rho (ovLook base ov)) m)) (nxtD P A L ops base ps n d (.store t x y) os rs ms ov m Q) := by rw [WD]; exact WG_true
theorem e_store {t : TypeId} {x y : Operand} (h : (gslot ops j).isSome = true) : WD P A L ops base ps n (⟨d, .store t x y, ty, pos, aft, some (j, w)⟩ :: os) rs ms ov m Q = WG (Wd (wantV (ovLook base ov ((gslot ops j).getD 0)) w)) (OB (Od (op0 P L d (.store t x y) (rho (ovLook base ov)) m)) (nxtD P A L ops base ps n d (.store t x y) os rs ms ov m Q)) (nxtC P A L ops base ps n d os rs ms ov m Q (.tup []) m) := by rw [WD, wanted_gs (gslot_get h)]; rfl
theorem d_nilCheck {x : Operand} : WD P A L ops base ps n (⟨d, .nilCheck x, ty, pos, aft, none⟩ :: os) rs ms ov m Q = OB (Od (op0 P L d (.nilCheck x) (rho (ovLook base ov)) m)) (nxtD P A L ops base ps n d (.nilCheck x) os rs ms ov m Q) := by rw [WD]; exact WG_true
theorem e_nilCheck {x : Operand} (h : (gslot ops j).isSome = true) : WD P A L ops base ps n (⟨d, .nilCheck x, ty, pos, aft, some (j, w)⟩ :: os) rs ms ov m Q = WG (Wd (wantV (ovLook base ov ((gslot ops j).getD 0)) w)) (OB (Od (op0 P L d (.nilCheck x) (rho (ovLook base ov)) m)) (nxtD P A L ops base ps n d (.nilCheck x) os rs ms ov m Q)) (nxtC P A L ops base ps n d os rs ms ov m Q (.tup []) m) := by rw [WD, wanted_gs (gslot_get h)]; rfl
theorem d_binOp {o : BinOp} {t u : TypeId} {x y : Operand} : WD P A L ops base ps n (⟨d, .binOp o t x y u, ty, pos, aft, none⟩ :: os) rs ms ov m Q = OB (Od (op0 P L d (.binOp o t x y u) (rho (ovLook base ov)) m)) (nxtD P A L ops base ps n d (.binOp o t x y u) os rs ms ov m Q) := by rw [WD]; exact WG_true
theorem e_binOp {o : BinOp} {t u : TypeId} {x y : Operand} (h : (gslot ops j).isSome = true) : WD P A L ops base ps n (⟨d, .binOp o t x y u, ty, pos, aft, some (j, w)⟩ :: os) rs ms ov m Q = WG (Wd (wantV (ovLook base ov ((gslot ops j).getD 0)) w)) (OB (Od (op0 P L d (.binOp o t x y u) (rho (ovLook base ov)) m)) (nxtD P A L ops base ps n d (.binOp o t x y u) os rs ms ov m Q)) (nxtC P A L ops base ps n d os rs ms ov m Q (.tup []) m) := by rw [WD, wanted_gs (gslot_get h)]; rfl
theorem d_unOp {o : UnOp} {t : TypeId} {x : Operand} : WD P A L ops base ps n (⟨d, .unOp o t x, ty, pos, aft, none⟩ :: os) rs ms ov m Q = OB (Od (op0 P L d (.unOp o t x) (rho (ovLook base ov)) m)) (nxtD P A L ops base ps n d (.unOp o t x) os rs ms ov m Q) := by rw [WD]; exact WG_true
theorem e_unOp {o : UnOp} {t : TypeId} {x : Operand} (h : (gslot ops j).isSome = true) : WD P A L ops base ps n (⟨d, .unOp o t x, ty, pos, aft, some (j, w)⟩ :: os) rs ms ov m Q = WG (Wd (wantV (ovLook base ov ((gslot ops j).getD 0)) w)) (OB (Od (op0 P L d (.unOp o t x) (rho (ovLook base ov)) m)) (nxtD P A L ops base ps n d (.unOp o t x) os rs ms ov m Q)) (nxtC P A L ops base ps n d os rs ms ov m Q (.tup []) m) := by rw [WD, wanted_gs (gslot_get h)]; rfl
theorem d_convert {s t : TypeId} {x : Operand} : WD P A L ops base ps n (⟨d, .convert s t x, ty, pos, aft, none⟩ :: os) rs ms ov m Q = OB (Od (op0 P L d (.convert s t x) (rho (ovLook base ov)) m)) (nxtD P A L ops base ps n d (.convert s t x) os rs ms ov m Q) := by rw [WD]; exact WG_true
theorem e_convert {s t : TypeId} {x : Operand} (h : (gslot ops j).isSome = true) : WD P A L ops base ps n (⟨d, .convert s t x, ty, pos, aft, some (j, w)⟩ :: os) rs ms ov m Q = WG (Wd (wantV (ovLook base ov ((gslot ops j).getD 0)) w)) (OB (Od (op0 P L d (.convert s t x) (rho (ovLook base ov)) m)) (nxtD P A L ops base ps n d (.convert s t x) os rs ms ov m Q)) (nxtC P A L ops base ps n d os rs ms ov m Q (.tup []) m) := by rw [WD, wanted_gs (gslot_get h)]; rfl
theorem d_typeAssert {x : Operand} {t u : TypeId} {b : Bool} : WD P A L ops base ps n (⟨d, .typeAssert x u t b, ty, pos, aft, none⟩ :: os) rs ms ov m Q = OB (Od (op0 P L d (.typeAssert x u t b) (rho (ovLook base ov)) m)) (nxtD P A L ops base ps n d (.typeAssert x u t b) os rs ms ov m Q) := by rw [WD]; exact WG_true
theorem e_typeAssert {x : Operand} {t u : TypeId} {b : Bool} (h : (gslot ops j).isSome = true) : WD P A L ops base ps n (⟨d, .typeAssert x u t b, ty, pos, aft, some (j, w)⟩ :: os) rs ms ov m Q = WG (Wd (wantV (ovLook base ov ((gslot ops j).getD 0)) w)) (OB (Od (op0 P L d (.typeAssert x u t b) (rho (ovLook base ov)) m)) (nxtD P A L ops base ps n d (.typeAssert x u t b) os rs ms ov m Q)) (nxtC P A L ops base ps n d os rs ms ov m Q (.tup []) m) := by rw [WD, wanted_gs (gslot_get h)]; rfl
theorem d_makeInterface {t : TypeId} {x : Operand} : WD P A L ops base ps n (⟨d, .makeInterface t x, ty, pos, aft, none⟩ :: os) rs ms ov m Q = OB (Od (op0 P L d (.makeInterface t x) (rho (ovLook base ov)) m)) (nxtD P A L ops base ps n d (.makeInterface t x) os rs ms ov m Q) := by rw [WD]; exact WG_true
theorem e_makeInterface {t : TypeId} {x : Operand} (h : (gslot ops j).isSome = true) : WD P A L ops base ps n (⟨d, .makeInterface t x, ty, pos, aft, some (j, w)⟩ :: os) rs ms ov m Q = WG (Wd (wantV (ovLook base ov ((gslot ops j).getD 0)) w)) (OB (Od (op0 P L d (.makeInterface t x) (rho (ovLook base ov)) m)) (nxtD P A L ops base ps n d (.makeInterface t x) os rs ms ov m Q)) (nxtC P A L ops base ps n d os rs ms ov m Q (.tup []) m) := by rw [WD, wanted_gs (gslot_get h)]; rfl
theorem d_makeFunc {g : Fn} {as cs : Array Operand} : WD P A L ops base ps n (⟨d, .makeFunc g as cs, ty, pos, aft, none⟩ :: os) rs ms ov m Q = OB (Od (op0 P L d (.makeFunc g as cs) (rho (ovLook base ov)) m)) (nxtD P A L ops base ps n d (.makeFunc g as cs) os rs ms ov m Q) := by rw [WD]; exact WG_true
theorem e_makeFunc {g : Fn} {as cs : Array Operand} (h : (gslot ops j).isSome = true) : WD P A L ops base ps n (⟨d, .makeFunc g as cs, ty, pos, aft, some (j, w)⟩ :: os) rs ms ov m Q = WG (Wd (wantV (ovLook base ov ((gslot ops j).getD 0)) w)) (OB (Od (op0 P L d (.makeFunc g as cs) (rho (ovLook base ov)) m)) (nxtD P A L ops base ps n d (.makeFunc g as cs) os rs ms ov m Q)) (nxtC P A L ops base ps n d os rs ms ov m Q (.tup []) m) := by rw [WD, wanted_gs (gslot_get h)]; rfl
theorem d_makeSlice {t : TypeId} {x y : Operand} : WD P A L ops base ps n (⟨d, .makeSlice t x y, ty, pos, aft, none⟩ :: os) rs ms ov m Q = OB (Od (op0 P L d (.makeSlice t x y) (rho (ovLook base ov)) m)) (nxtD P A L ops base ps n d (.makeSlice t x y) os rs ms ov m Q) := by rw [WD]; exact WG_true
theorem e_makeSlice {t : TypeId} {x y : Operand} (h : (gslot ops j).isSome = true) : WD P A L ops base ps n (⟨d, .makeSlice t x y, ty, pos, aft, some (j, w)⟩ :: os) rs ms ov m Q = WG (Wd (wantV (ovLook base ov ((gslot ops j).getD 0)) w)) (OB (Od (op0 P L d (.makeSlice t x y) (rho (ovLook base ov)) m)) (nxtD P A L ops base ps n d (.makeSlice t x y) os rs ms ov m Q)) (nxtC P A L ops base ps n d os rs ms ov m Q (.tup []) m) := by rw [WD, wanted_gs (gslot_get h)]; rfl
theorem d_slice {t : TypeId} {x : Operand} {lo hi mx : Option Operand} : WD P A L ops base ps n (⟨d, .slice t x lo hi mx, ty, pos, aft, none⟩ :: os) rs ms ov m Q = OB (Od (op0 P L d (.slice t x lo hi mx) (rho (ovLook base ov)) m)) (nxtD P A L ops base ps n d (.slice t x lo hi mx) os rs ms ov m Q) := by rw [WD]; exact WG_true
theorem e_slice {t : TypeId} {x : Operand} {lo hi mx : Option Operand} (h : (gslot ops j).isSome = true) : WD P A L ops base ps n (⟨d, .slice t x lo hi mx, ty, pos, aft, some (j, w)⟩ :: os) rs ms ov m Q = WG (Wd (wantV (ovLook base ov ((gslot ops j).getD 0)) w)) (OB (Od (op0 P L d (.slice t x lo hi mx) (rho (ovLook base ov)) m)) (nxtD P A L ops base ps n d (.slice t x lo hi mx) os rs ms ov m Q)) (nxtC P A L ops base ps n d os rs ms ov m Q (.tup []) m) := by rw [WD, wanted_gs (gslot_get h)]; rfl
theorem d_fieldAddr {t : TypeId} {x : Operand} {n' : Nat} : WD P A L ops base ps n (⟨d, .fieldAddr t x n', ty, pos, aft, none⟩ :: os) rs ms ov m Q = OB (Od (op0 P L d (.fieldAddr t x n') (rho (ovLook base ov)) m)) (nxtD P A L ops base ps n d (.fieldAddr t x n') os rs ms ov m Q) := by rw [WD]; exact WG_true
theorem e_fieldAddr {t : TypeId} {x : Operand} {n' : Nat} (h : (gslot ops j).isSome = true) : WD P A L ops base ps n (⟨d, .fieldAddr t x n', ty, pos, aft, some (j, w)⟩ :: os) rs ms ov m Q = WG (Wd (wantV (ovLook base ov ((gslot ops j).getD 0)) w)) (OB (Od (op0 P L d (.fieldAddr t x n') (rho (ovLook base ov)) m)) (nxtD P A L ops base ps n d (.fieldAddr t x n') os rs ms ov m Q)) (nxtC P A L ops base ps n d os rs ms ov m Q (.tup []) m) := by rw [WD, wanted_gs (gslot_get h)]; rfl
theorem d_field {t : TypeId} {x : Operand} {n' : Nat} : WD P A L ops base ps n (⟨d, .field t x n', ty, pos, aft, none⟩ :: os) rs ms ov m Q = OB (Od (op0 P L d (.field t x n') (rho (ovLook base ov)) m)) (nxtD P A L ops base ps n d (.field t x n') os rs ms ov m Q) := by rw [WD]; exact WG_true
theorem e_field {t : TypeId} {x : Operand} {n' : Nat} (h : (gslot ops j).isSome = true) : WD P A L ops base ps n (⟨d, .field t x n', ty, pos, aft, some (j, w)⟩ :: os) rs ms ov m Q = WG (Wd (wantV (ovLook base ov ((gslot ops j).getD 0)) w)) (OB (Od (op0 P L d (.field t x n') (rho (ovLook base ov)) m)) (nxtD P A L ops base ps n d (.field t x n') os rs ms ov m Q)) (nxtC P A L ops base ps n d os rs ms ov m Q (.tup []) m) := by rw [WD, wanted_gs (gslot_get h)]; rfl
theorem d_indexAddr {t : TypeId} {x y : Operand} : WD P A L ops base ps n (⟨d, .indexAddr t x y, ty, pos, aft, none⟩ :: os) rs ms ov m Q = OB (Od (op0 P L d (.indexAddr t x y) (rho (ovLook base ov)) m)) (nxtD P A L ops base ps n d (.indexAddr t x y) os rs ms ov m Q) := by rw [WD]; exact WG_true
theorem e_indexAddr {t : TypeId} {x y : Operand} (h : (gslot ops j).isSome = true) : WD P A L ops base ps n (⟨d, .indexAddr t x y, ty, pos, aft, some (j, w)⟩ :: os) rs ms ov m Q = WG (Wd (wantV (ovLook base ov ((gslot ops j).getD 0)) w)) (OB (Od (op0 P L d (.indexAddr t x y) (rho (ovLook base ov)) m)) (nxtD P A L ops base ps n d (.indexAddr t x y) os rs ms ov m Q)) (nxtC P A L ops base ps n d os rs ms ov m Q (.tup []) m) := by rw [WD, wanted_gs (gslot_get h)]; rfl
theorem d_index {t : TypeId} {x y : Operand} : WD P A L ops base ps n (⟨d, .index t x y, ty, pos, aft, none⟩ :: os) rs ms ov m Q = OB (Od (op0 P L d (.index t x y) (rho (ovLook base ov)) m)) (nxtD P A L ops base ps n d (.index t x y) os rs ms ov m Q) := by rw [WD]; exact WG_true
theorem e_index {t : TypeId} {x y : Operand} (h : (gslot ops j).isSome = true) : WD P A L ops base ps n (⟨d, .index t x y, ty, pos, aft, some (j, w)⟩ :: os) rs ms ov m Q = WG (Wd (wantV (ovLook base ov ((gslot ops j).getD 0)) w)) (OB (Od (op0 P L d (.index t x y) (rho (ovLook base ov)) m)) (nxtD P A L ops base ps n d (.index t x y) os rs ms ov m Q)) (nxtC P A L ops base ps n d os rs ms ov m Q (.tup []) m) := by rw [WD, wanted_gs (gslot_get h)]; rfl
theorem d_makeMap {t : TypeId} {x : Option Operand} : WD P A L ops base ps n (⟨d, .makeMap t x, ty, pos, aft, none⟩ :: os) rs ms ov m Q = OB (Od (op0 P L d (.makeMap t x) (rho (ovLook base ov)) m)) (nxtD P A L ops base ps n d (.makeMap t x) os rs ms ov m Q) := by rw [WD]; exact WG_true
theorem e_makeMap {t : TypeId} {x : Option Operand} (h : (gslot ops j).isSome = true) : WD P A L ops base ps n (⟨d, .makeMap t x, ty, pos, aft, some (j, w)⟩ :: os) rs ms ov m Q = WG (Wd (wantV (ovLook base ov ((gslot ops j).getD 0)) w)) (OB (Od (op0 P L d (.makeMap t x) (rho (ovLook base ov)) m)) (nxtD P A L ops base ps n d (.makeMap t x) os rs ms ov m Q)) (nxtC P A L ops base ps n d os rs ms ov m Q (.tup []) m) := by rw [WD, wanted_gs (gslot_get h)]; rfl
theorem d_lookup {t : TypeId} {x y : Operand} {b : Bool} : WD P A L ops base ps n (⟨d, .lookup t x y b, ty, pos, aft, none⟩ :: os) rs ms ov m Q = OB (Od (op0 P L d (.lookup t x y b) (rho (ovLook base ov)) m)) (nxtD P A L ops base ps n d (.lookup t x y b) os rs ms ov m Q) := by rw [WD]; exact WG_true
theorem e_lookup {t : TypeId} {x y : Operand} {b : Bool} (h : (gslot ops j).isSome = true) : WD P A L ops base ps n (⟨d, .lookup t x y b, ty, pos, aft, some (j, w)⟩ :: os) rs ms ov m Q = WG (Wd (wantV (ovLook base ov ((gslot ops j).getD 0)) w)) (OB (Od (op0 P L d (.lookup t x y b) (rho (ovLook base ov)) m)) (nxtD P A L ops base ps n d (.lookup t x y b) os rs ms ov m Q)) (nxtC P A L ops base ps n d os rs ms ov m Q (.tup []) m) := by rw [WD, wanted_gs (gslot_get h)]; rfl
theorem d_mapUpdate {t : TypeId} {x y z : Operand} : WD P A L ops base ps n (⟨d, .mapUpdate t x y z, ty, pos, aft, none⟩ :: os) rs ms ov m Q = OB (Od (op0 P L d (.mapUpdate t x y z) (rho (ovLook base ov)) m)) (nxtD P A L ops base ps n d (.mapUpdate t x y z) os rs ms ov m Q) := by rw [WD]; exact WG_true
theorem e_mapUpdate {t : TypeId} {x y z : Operand} (h : (gslot ops j).isSome = true) : WD P A L ops base ps n (⟨d, .mapUpdate t x y z, ty, pos, aft, some (j, w)⟩ :: os) rs ms ov m Q = WG (Wd (wantV (ovLook base ov ((gslot ops j).getD 0)) w)) (OB (Od (op0 P L d (.mapUpdate t x y z) (rho (ovLook base ov)) m)) (nxtD P A L ops base ps n d (.mapUpdate t x y z) os rs ms ov m Q)) (nxtC P A L ops base ps n d os rs ms ov m Q (.tup []) m) := by rw [WD, wanted_gs (gslot_get h)]; rfl
theorem d_extract {x : Operand} {n' : Nat} : WD P A L ops base ps n (⟨d, .extract x n', ty, pos, aft, none⟩ :: os) rs ms ov m Q = OB (Od (op0 P L d (.extract x n') (rho (ovLook base ov)) m)) (nxtD P A L ops base ps n d (.extract x n') os rs ms ov m Q) := by rw [WD]; exact WG_true
theorem e_extract {x : Operand} {n' : Nat} (h : (gslot ops j).isSome = true) : WD P A L ops base ps n (⟨d, .extract x n', ty, pos, aft, some (j, w)⟩ :: os) rs ms ov m Q = WG (Wd (wantV (ovLook base ov ((gslot ops j).getD 0)) w)) (OB (Od (op0 P L d (.extract x n') (rho (ovLook base ov)) m)) (nxtD P A L ops base ps n d (.extract x n') os rs ms ov m Q)) (nxtC P A L ops base ps n d os rs ms ov m Q (.tup []) m) := by rw [WD, wanted_gs (gslot_get h)]; rfl
theorem d_builtin {b : Builtin} {as : Array Operand} {ts : Array TypeId} : WD P A L ops base ps n (⟨d, .call ⟨.builtin b, as, ts⟩, ty, pos, aft, none⟩ :: os) rs ms ov m Q = OB (Od (op0 P L d (.call ⟨.builtin b, as, ts⟩) (rho (ovLook base ov)) m)) (nxtD P A L ops base ps n d (.call ⟨.builtin b, as, ts⟩) os rs ms ov m Q) := by rw [WD]; exact WG_true
theorem e_builtin {b : Builtin} {as : Array Operand} {ts : Array TypeId} (h : (gslot ops j).isSome = true) : WD P A L ops base ps n (⟨d, .call ⟨.builtin b, as, ts⟩, ty, pos, aft, some (j, w)⟩ :: os) rs ms ov m Q = WG (Wd (wantV (ovLook base ov ((gslot ops j).getD 0)) w)) (OB (Od (op0 P L d (.call ⟨.builtin b, as, ts⟩) (rho (ovLook base ov)) m)) (nxtD P A L ops base ps n d (.call ⟨.builtin b, as, ts⟩) os rs ms ov m Q)) (nxtC P A L ops base ps n d os rs ms ov m Q (.tup []) m) := by rw [WD, wanted_gs (gslot_get h)]; rfl
theorem chk_load {t : TypeId} {x : Operand} {ρ : Operand → Arg} {g : Arg} : chk P d (.load t x) ρ g m = OB (loadV (tdOf P t) (ρ x) m) (fun r => r.1 = g) := by
  unfold chk OB
  show ((loadV (tdOf P t) (ρ x) m).map (·.1) = some g) = _
  cases loadV (tdOf P t) (ρ x) m <;> simp
theorem chk_indexAddr {t : TypeId} {x y : Operand} {ρ : Operand → Arg} {g : Arg} : chk P d (.indexAddr t x y) ρ g m = OB (indexAddrV (tdOf P t).k (ρ x) (ρ y).vl m) (fun r => r.1 = g) := by
  unfold chk OB
  show ((indexAddrV (tdOf P t).k (ρ x) (ρ y).vl m).map (·.1) = some g) = _
  cases indexAddrV (tdOf P t).k (ρ x) (ρ y).vl m <;> simp
theorem late_nil {n : Nat} {m : Mem} : late ps n [] m = True := rfl
theorem late_cons {n i : Nat} {c : Mem → Prop} {rs : List (Nat × (Mem → Prop))} {m : Mem} : late ps n ((i, c) :: rs) m = ((hasP ps i n = true → c m) ∧ late ps n rs m) := rfl
theorem early_nil {n : Nat} {c : Mem → Prop} : early ps n c [] = True := rfl
theorem early_cons {n j : Nat} {c : Mem → Prop} {ms : List (Nat × Mem)} {m : Mem} : early ps n c ((j, m) :: ms) = ((hasP ps n j = true → c m) ∧ early ps n c ms) := rfl
theorem addR_eq {n : Nat} {c : Mem → Prop} {rs : List (Nat × (Mem → Prop))} : addR ps n c rs = if hasR ps n then (n, c) :: rs else rs := rfl
theorem addM_eq {n : Nat} {m : Mem} {ms : List (Nat × Mem)} : addM ps n m ms = if hasM ps n then (n, m) :: ms else ms := rfl
theorem hasP_cons {p : Nat × Nat} {ps : List (Nat × Nat)} {i j : Nat} : hasP (p :: ps) i j = ((p.1 == i && p.2 == j) || hasP ps i j) := rfl
theorem hasP_nil {i j : Nat} : hasP [] i j = false := rfl
theorem hasR_cons {p : Nat × Nat} {ps : List (Nat × Nat)} {i : Nat} : hasR (p :: ps) i = ((p.1 == i && decide (i < p.2)) || hasR ps i) := rfl
theorem hasR_nil {i : Nat} : hasR [] i = false := rfl
theorem hasM_cons {p : Nat × Nat} {ps : List (Nat × Nat)} {i : Nat} : hasM (p :: ps) i = ((p.2 == i && decide (i < p.1)) || hasM ps i) := rfl
theorem hasM_nil {i : Nat} : hasM [] i = false := rfl
end
end Go.Idl
namespace Go.Idl
attribute [go_sem] w_move g_move d_move e_move w_assign g_assign d_assign e_assign w_pick g_pick d_pick e_pick w_alloc g_alloc d_alloc e_alloc w_box g_box d_box e_box w_build g_build d_build e_build w_buildSlice g_buildSlice d_buildSlice e_buildSlice w_load g_load d_load e_load w_store g_store d_store e_store w_nilCheck g_nilCheck d_nilCheck e_nilCheck w_binOp g_binOp d_binOp e_binOp w_unOp g_unOp d_unOp e_unOp w_convert g_convert d_convert e_convert w_typeAssert g_typeAssert d_typeAssert e_typeAssert w_makeInterface g_makeInterface d_makeInterface e_makeInterface w_makeFunc g_makeFunc d_makeFunc e_makeFunc w_makeSlice g_makeSlice d_makeSlice e_makeSlice w_slice g_slice d_slice e_slice w_fieldAddr g_fieldAddr d_fieldAddr e_fieldAddr w_field g_field d_field e_field w_indexAddr g_indexAddr d_indexAddr e_indexAddr w_index g_index d_index e_index w_makeMap g_makeMap d_makeMap e_makeMap w_lookup g_lookup d_lookup e_lookup w_mapUpdate g_mapUpdate d_mapUpdate e_mapUpdate w_extract g_extract d_extract e_extract w_builtin g_builtin d_builtin e_builtin w_inv g_inv d_inv e_inv Wp_scope Wp_label op0_typeAssert assertV convV_str w_call nxtW_eq g_call d_call e_call nxt_eq nxtD_eq nxtC_eq WO_nil WD_nil late_nil late_cons early_nil early_cons addR_eq addM_eq hasP_cons hasP_nil hasR_cons hasR_nil hasM_cons hasM_nil chk_load chk_indexAddr OB_some OB_none OB_map OB_bind WG_true WG_false WB_true WB_false keepS_nil keepS_cons keep1_v keep1_pl seqQ_normal seqQ_ret seqQ_exit Wp_seq Wp_skip Wp_exit Wp_ret Wp_block Wp_test Od_some Od_map Od_bind Wd_some Bd_bool blockQ_normal blockQ_ret blockQ_exit Wp_reg endQ ghosts_nil retQ_ret retQ_normal allocDs allocOp nodupI ovLook_cons ovLook_nil baseOf_eq lookOf_cons lookOf_nil ovPut_some ovPut_none rho_tmp rho_const rho_func vl_v zipS ofConst ofScalar isCell mapO resultI tupled gslot wantV op0_move op0_assign op0_pick pickV_true pickV_false op0_alloc allocV newObj_none newObj_some op0_box boxV op0_build buildV op0_buildSlice buildSliceV op0_load loadV op0_store storeV op0_nilCheck nilCheckV op0_bin isNumK bin_add bin_sub bin_mul bin_lss bin_leq bin_gtr bin_geq bin_eqI bin_neI op0_notV notV_bool op0_negV negV_int op0_conv convV_int op0_makeFunc op0_fieldAddr fieldAddrV op0_field fieldV op0_extract tupV_tup op0_builtin op0_indexAddr op0_index Arg.shift mread_pl mread_fp mread_bp readB_box mwrite_pl mwrite_bp writeB_box setL fillAll fillL Vl.size Vl.cells Vl.undef?
attribute [go_sem] List.getElem?_toArray List.getElem?_cons_succ List.getElem?_cons_zero Option.bind_some Option.map_some Option.isSome_some Option.getD_some decide_true decide_false beq_self_eq_true Bool.false_beq Bool.true_beq Bool.not_true Bool.not_false Bool.true_and Bool.false_and Bool.and_true Bool.and_false Bool.or_false Bool.false_or Bool.or_true Bool.true_or Bool.false_eq_true false_implies true_implies implies_true true_and and_true false_and and_false and_self List.elem_nil List.elem_cons List.map_cons List.map_nil List.length_cons List.length_nil List.length_map List.drop_zero List.drop_succ_cons List.take_succ_cons List.take_zero List.head?_cons List.lookup_nil List.lookup_cons List.filter_nil List.filter_cons List.cons_append List.nil_append List.drop_nil Nat.le_refl List.take_nil List.append_nil Option.getD_none List.elem_nil Bool.not_false Option.map_none
attribute [go_sem] sub_cons put_cons
attribute [go_sem] Nat.zero_add Nat.add_zero bne Int.cast_ofNat_Int
end Go.Idl
namespace Go.Idl
section
variable {P : Program} {A : Ann} {hp : Nat → Ob}
theorem reify_int {k : IntKind} {n : Int} : reify hp (.int k n) = some (.int k n, []) := rfl
theorem reify_bool {b : Bool} : reify hp (.bool b) = some (.bool b, []) := rfl
theorem reify_str {s : ByteArray} : reify hp (.str s) = some (.str s, []) := rfl
theorem reify_nils : reify hp .nils = some (.nils, []) := rfl
theorem reify_nilp : reify hp .nilp = some (.nilp, []) := rfl
theorem reify_nilf : reify hp .nilf = some (.nilf, []) := rfl
theorem reify_nili : reify hp .nili = some (.nili, []) := rfl
theorem reify_nilm : reify hp .nilm = some (.nilm, []) := rfl
theorem reify_undef : reify hp .undef = some (.undef, []) := rfl
def reifyLs (hp : Nat → Ob) : List Vl → Option (List Vl × List Nat) := reifyL (reifyF (reifyF closedV hp) hp) hp
theorem reifyLs_nil : reifyLs hp [] = some ([], []) := rfl
theorem reifyLs_cons {x : Vl} {xs : List Vl} : reifyLs hp (x :: xs) = (reify hp x).bind fun r => (reifyLs hp xs).map fun s => (r.1 :: s.1, r.2 ++ s.2) := rfl
theorem reify_agg {cs : List Vl} : reify hp (.agg cs) = (reifyLs hp cs).map fun r => (.agg r.1, r.2) := rfl
theorem reify_tup {cs : List Vl} : reify hp (.tup cs) = (reifyLs hp cs).map fun r => (.tup r.1, r.2) := rfl
theorem reify_lst {e : Nat} {xs : List Vl} {x : Bool} (h : closedL xs = true) : reify hp (.lst e xs x) = some (.lst e xs x, []) := by
  show (if closedL xs then some (Vl.lst e xs x, []) else none) = _
  rw [if_pos h]
theorem reifyAs_nil {m : Mem} : reifyAs m [] = some ([], [], false) := rfl
theorem reifyAs_v {m : Mem} {x : Vl} {xs : List Arg} : reifyAs m (.v x :: xs) = (reify m.hp x).bind fun r => (reifyAs m xs).map fun s => (r.1 :: s.1, r.2 ++ s.2.1, s.2.2) := by
  show (reifyA m (.v x)).bind _ = _
  unfold reifyA
  simp only
  cases reify m.hp x with
  | none => rfl
  | some r => simp
theorem Ans.mono {g : FuncId} {args : List Vl} {K K' : Vl → Prop} (h : Ans P A g args K) (k : ∀ v, K v → K' v) : Ans P A g args K' := by
  obtain ⟨v, h1, h2⟩ := h
  exact ⟨v, h1, k v h2⟩
theorem calls_flat {g : FuncId} {args : List Arg} {vs : List Vl} {ks : List Nat} {p : Bool} {m : Mem} {v : Vl} (hh : A.heap g = false) (ha : reifyAs m args = some (vs, ks, p)) (h : Pures P A g vs v) (hf : v.flat = true) :
    CallsTo P A (.fn (.func g) [] []) args m v m := by
  obtain ⟨k, h⟩ := h
  refine ⟨k, ?_⟩
  simp only [callI, callF, List.map_nil, List.nil_append, List.append_nil, hh, Bool.false_eq_true, if_false]
  rw [ha]
  simp only [Option.bind_some, h, hf, if_true]
theorem calls_kill {g : FuncId} {args : List Arg} {vs : List Vl} {ks : List Nat} {m : Mem} {v : Vl} (hh : A.heap g = false) (ha : reifyAs m args = some (vs, ks, false)) (h : Pures P A g vs v) (hf : v.flat = false) (hc : v.closed = true) :
    CallsTo P A (.fn (.func g) [] []) args m v { m with hp := killHp ks m.hp } := by
  obtain ⟨k, h⟩ := h
  refine ⟨k, ?_⟩
  simp only [callI, callF, List.map_nil, List.nil_append, List.append_nil, hh, Bool.false_eq_true, if_false]
  rw [ha]
  simp only [Option.bind_some, h, hf, Bool.not_false, Bool.true_and, hc, if_true, Bool.false_eq_true, if_false]
theorem WC_flat {g : FuncId} {args : List Arg} {vs : List Vl} {ks : List Nat} {p : Bool} {m : Mem} {r : Vl} {K : Vl → Mem → Prop} (hh : A.heap g = false) (ha : reifyAs m args = some (vs, ks, p)) (h : Ans P A g vs fun v => v = r) (hf : r.flat = true) :
    WC P A (.fn (.func g) [] []) args m K = K r m := by
  obtain ⟨v, h1, rfl⟩ := h
  exact WC_eq (calls_flat hh ha h1 hf)
theorem wrap_i64 {n : Int} (h1 : -9223372036854775808 ≤ n) (h2 : n ≤ 9223372036854775807) : IntKind.wrap .i64 n = n := by
  show (if (true && decide (n % 18446744073709551616 ≥ 9223372036854775808)) = true then n % 18446744073709551616 - 18446744073709551616 else n % 18446744073709551616) = n
  by_cases h : n % 18446744073709551616 ≥ 9223372036854775808
  · simp only [h, decide_true, Bool.and_self, if_true]; omega
  · simp only [h, decide_false, Bool.and_false, Bool.false_eq_true, if_false]; omega
end
attribute [go_sem] reify_int reify_bool reify_str reify_nils reify_nilp reify_nilf reify_nili reify_nilm reify_undef reifyLs_nil reifyLs_cons reify_agg reify_tup reifyAs_nil reifyAs_v
end Go.Idl
namespace Go.Idl
def SL (e : Nat) (xs : List Vl) (o : Option Bool) : Vl :=
  match o with
  | some x => .lst e xs x
  | none => if xs.isEmpty then .nils else .lst e xs false
theorem SL_cases (e : Nat) (xs : List Vl) (o : Option Bool) : (xs = [] ∧ SL e xs o = .nils) ∨ ∃ x, SL e xs o = .lst e xs x := by
  cases o with
  | some x => exact .inr ⟨x, rfl⟩
  | none =>
    cases xs with
    | nil => exact .inl ⟨rfl, rfl⟩
    | cons a l => exact .inr ⟨false, rfl⟩
theorem SL_lst {e : Nat} {xs : List Vl} {x : Bool} : Vl.lst e xs x = SL e xs (some x) := rfl
section
variable {e : Nat} {xs : List Vl} {o : Option Bool} {P : Program} {m : Mem}
theorem SL_undef : (SL e xs o).undef? = false := by rcases SL_cases e xs o with ⟨_, h⟩ | ⟨x, h⟩ <;> rw [h] <;> rfl
theorem SL_cells : (SL e xs o).cells = [SL e xs o] := by rcases SL_cases e xs o with ⟨_, h⟩ | ⟨x, h⟩ <;> rw [h] <;> rfl
theorem SL_slot {t : Nat} : slotV t (SL e xs o) = .v (SL e xs o) := by rcases SL_cases e xs o with ⟨_, h⟩ | ⟨x, h⟩ <;> rw [h] <;> rfl
def isSliceK : TK → Bool
  | .slice .. => true
  | _ => false
theorem len_SL {t : TypeId} {ts : List TypeId} {vs : List Vl} (h : isSliceK (tdOf P t).k = true) : builtinV P .len (t :: ts) (SL e xs o :: vs) m = some (.int .i64 xs.length, m) := by
  simp only [builtinV]
  cases hk : (tdOf P t).k <;> rw [hk] at h <;> try (cases h; done)
  rcases SL_cases e xs o with ⟨rfl, h⟩ | ⟨x, h⟩ <;> rw [h] <;> rfl
theorem len_nils {t : TypeId} {ts : List TypeId} {vs : List Vl} (h : isSliceK (tdOf P t).k = true) : builtinV P .len (t :: ts) (.nils :: vs) m = some (.int .i64 0, m) := by
  simp only [builtinV]
  cases hk : (tdOf P t).k <;> rw [hk] at h <;> try (cases h; done)
theorem len_lst {t : TypeId} {ts : List TypeId} {vs : List Vl} {x : Bool} (h : isSliceK (tdOf P t).k = true) : builtinV P .len (t :: ts) (.lst e xs x :: vs) m = some (.int .i64 xs.length, m) := by
  simp only [builtinV]
  cases hk : (tdOf P t).k <;> rw [hk] at h <;> try (cases h; done)
theorem len_own {t : TypeId} {ts : List TypeId} {vs : List Vl} {id n : Nat} (h : isSliceK (tdOf P t).k = true) : builtinV P .len (t :: ts) (.own id n :: vs) m = some (.int .i64 n, m) := by
  simp only [builtinV]
  cases hk : (tdOf P t).k <;> rw [hk] at h <;> try (cases h; done)
theorem max_int {ts : List TypeId} {k : IntKind} {a b : Int} : builtinV P .max ts [.int k a, .int k b] m = some (.int k (max a b), m) := by
  simp only [builtinV]
  congr 3; split <;> omega
theorem min_int {ts : List TypeId} {k : IntKind} {a b : Int} : builtinV P .min ts [.int k a, .int k b] m = some (.int k (min a b), m) := by
  simp only [builtinV]
  congr 3; split <;> omega
theorem indexAddr_SL {eb : Nat} {ez : Vl} {k : IntKind} {i : Int} (h : 0 ≤ i ∧ i < xs.length) (he : e ≠ 0) : indexAddrV (.slice e eb ez) (.v (SL e xs o)) (.int k i) m = some (.v (.fp (xs.getD i.toNat .undef) 0), m) := by
  rcases SL_cases e xs o with ⟨rfl, _⟩ | ⟨x, hx⟩
  · simp at h; omega
  · rw [hx]; exact indexAddr_lst h he
theorem reify_SL {hp : Nat → Ob} (h : closedL xs = true) : reify hp (SL e xs o) = some (SL e xs o, []) := by
  rcases SL_cases e xs o with ⟨_, hx⟩ | ⟨x, hx⟩ <;> rw [hx]
  · rfl
  · exact reify_lst h
theorem closed_SL (h : closedL xs = true) : (SL e xs o).closed = true := by
  rcases SL_cases e xs o with ⟨_, hx⟩ | ⟨x, hx⟩ <;> rw [hx]
  · rfl
  · exact h
def kc : List (Int × Int) → List Vl
  | [] => []
  | p :: ks => .int .i64 p.1 :: .int .i64 p.2 :: kc ks
theorem zero_kc : Vl.agg (List.replicate 40 (.int .i64 0)) = .agg (kc (List.replicate 20 (0, 0))) := rfl
def isOne : Vl → Bool
  | .agg _ => false
  | _ => true
theorem isOne_SL : isOne (SL e xs o) = true := by rcases SL_cases e xs o with ⟨_, h⟩ | ⟨x, h⟩ <;> rw [h] <;> rfl
theorem sub_1 {x : Vl} (h : isOne x = true) : sub false 1 0 x = some x := by
  cases x <;> first | rfl | cases h
theorem put_1 {x v : Vl} (hx : isOne x = true) (hv : isOne v = true) : put 0 v x = some v := by
  cases x <;> first | cases hx | skip
  all_goals cases v <;> first | rfl | cases hv
end
attribute [go_sem] SL_undef SL_cells SL_slot len_SL len_nils len_lst len_own isSliceK max_int min_int closed_SL slotV_loc slotV_int slotV_bool slotV_str slotV_agg slotV_tup slotV_lst slotV_own slotV_bp slotV_ep slotV_fp slotV_nils slotV_nilp slotV_nilf slotV_nili slotV_nilm slotV_undef slotV_mp slotV_yld slotV_fn slotV_ifc zero_kc
end Go.Idl
namespace Go.Idl
section
variable {P : Program} {A : Ann} {ro : Option Nat} {f : FuncId}
def loopQ (N : FS → Prop) (Q : XE → FS → Prop) : XE → FS → Prop
  | .normal, s => N s
  | .exit j, s => Q (.exit j) s
  | .ret, s => Q .ret s
theorem loopQ_normal {N : FS → Prop} {Q : XE → FS → Prop} {s : FS} : loopQ N Q .normal s = N s := rfl
theorem loopQ_exit {N : FS → Prop} {Q : XE → FS → Prop} {s : FS} {j : Nat} : loopQ N Q (.exit j) s = Q (.exit j) s := rfl
theorem loopQ_ret {N : FS → Prop} {Q : XE → FS → Prop} {s : FS} : loopQ N Q .ret s = Q .ret s := rfl
theorem wp_loop_I {c : Code} {ι : Type} {Q : XE → FS → Prop} (I : ι → FS → Prop) (μ : ι → Nat) (hI : ∀ i s, I i s → Wp P A ro f c s (loopQ (fun s' => ∃ j, I j s' ∧ μ j < μ i) Q)) {s : FS} (i : ι) (h : I i s) :
    Wp P A ro f (.loop c) s Q :=
  wp_loop_inv I μ (fun i s hi => (hI i s hi).mono fun x s' hx => by cases x <;> exact hx) i s h
theorem wp_loop_to {c : Code} {Q : XE → FS → Prop} (n : Nat) (I : Nat → FS → Prop) (hI : ∀ i s, i ≤ n → I i s → Wp P A ro f c s (loopQ (fun s' => i < n ∧ I (i + 1) s') Q)) {s : FS} (i : Nat) (hi : i ≤ n) (h : I i s) :
    Wp P A ro f (.loop c) s Q :=
  wp_loop_I (fun i s => i ≤ n ∧ I i s) (fun i => n - i) (fun i s ⟨h1, h2⟩ => (hI i s h1 h2).mono fun x s' hx => by
    cases x with
    | normal => exact ⟨i + 1, ⟨by have := hx.1; omega, hx.2⟩, by have := hx.1; omega⟩
    | exit j => exact hx
    | ret => exact hx) i ⟨hi, h⟩
end
attribute [go_sem] loopQ_normal loopQ_exit loopQ_ret
end Go.Idl
namespace Go.Idl
theorem OB_intro {α : Type} {a : Option α} {r : α} {f : α → Prop} (h : a = some r) (k : f r) : OB a f := ⟨r, h, k⟩
theorem upd_upd {α : Type} (f : Nat → α) (i : Nat) (v w : α) : upd (upd f i v) i w = upd f i w := by
  funext j
  unfold upd
  by_cases h : j = i <;> simp [h]
section
variable {P : Program} {A : Ann} {loc : Nat → List Nat} {keep : Nat → Nat → List Nat} {gho : Nat → Nat → List Gho} {fin : Nat → List Gho} {heap : Nat → Bool} {ext : Nat → Option (List Vl → Option Vl)}
def hretQ (P : Program) (A : Ann) (g : FuncId) (rs : List ResultVar) (K : Vl → (Nat → Ob) → Nat → Prop) (x : XE) (s : FS) : Prop :=
  match x with
  | .exit _ => False
  | _ => OB (ghosts (A.fin g) s) fun s => OB (mapO (resultI P s) rs) fun vs => K (tupled vs) s.hp s.nx
theorem hretQ_ret {g : FuncId} {rs : List ResultVar} {K : Vl → (Nat → Ob) → Nat → Prop} {s : FS} :
    hretQ P (mkAnn loc keep gho fin heap ext) g rs K .ret s = OB (Od (ghosts (fin g) s)) fun s => OB (mapO (resultI P s) rs) fun vs => K (tupled vs) s.hp s.nx := rfl
theorem hretQ_normal {g : FuncId} {rs : List ResultVar} {K : Vl → (Nat → Ob) → Nat → Prop} {s : FS} :
    hretQ P (mkAnn loc keep gho fin heap ext) g rs K .normal s = OB (Od (ghosts (fin g) s)) fun s => OB (mapO (resultI P s) rs) fun vs => K (tupled vs) s.hp s.nx := rfl
def HAns (P : Program) (A : Ann) (g : FuncId) (args : List Vl) (hp : Nat → Ob) (nx : Nat) (K : Vl → (Nat → Ob) → Nat → Prop) : Prop := ∃ v hp' nx', Runs P A g args hp nx v hp' nx' ∧ K v hp' nx'
theorem HAns_of {g : FuncId} {fn : Func} {c : Code} {args : List Vl} {hp : Nat → Ob} {nx : Nat} {K : Vl → (Nat → Ob) → Nat → Prop} (hf : P.funcs[g]? = some fn) (hb : fn.body = some c)
    (h : Wp P (mkAnn loc keep gho fin heap ext) none g c { sl := zipS 0 args, hp := hp, nx := nx } (hretQ P (mkAnn loc keep gho fin heap ext) g fn.results.toList K)) : HAns P (mkAnn loc keep gho fin heap ext) g args hp nx K := by
  obtain ⟨x, s', ⟨k, h1⟩, h2⟩ := h
  have key : OB (ghosts (fin g) s') (fun s => OB (mapO (resultI P s) fn.results.toList) fun vs => K (tupled vs) s.hp s.nx) → (x = .normal ∨ x = .ret) → HAns P (mkAnn loc keep gho fin heap ext) g args hp nx K := fun h2 hxx => by
    obtain ⟨s1, e1, vs, e2, hk⟩ := h2
    refine ⟨_, _, _, ⟨k, ?_⟩, hk⟩
    unfold runI
    rw [hf]
    simp only [Option.bind_some, hb, h1]
    have ef : (mkAnn loc keep gho fin heap ext).fin g = fin g := rfl
    rcases hxx with rfl | rfl <;> simp only [ef, e1, Option.bind_some, e2, Option.map_some]
  cases x with
  | exit _ => exact absurd h2 (by simp [hretQ])
  | normal => exact key h2 (.inl rfl)
  | ret => exact key h2 (.inr rfl)
theorem HAns.mono {g : FuncId} {args : List Vl} {hp : Nat → Ob} {nx : Nat} {K K' : Vl → (Nat → Ob) → Nat → Prop} (h : HAns P A g args hp nx K) (k : ∀ v hp' nx', K v hp' nx' → K' v hp' nx') : HAns P A g args hp nx K' := by
  obtain ⟨v, hp', nx', h1, h2⟩ := h
  exact ⟨v, hp', nx', h1, k _ _ _ h2⟩
theorem wc_heap {g : FuncId} {first cap : List Vl} {args : List Arg} {vs : List Vl} {m : Mem} {K : Vl → Mem → Prop} {K0 : Vl → (Nat → Ob) → Nat → Prop} (hh : A.heap g = true) (ha : mapO argV (first.map .v ++ args ++ cap.map .v) = some vs) (h : HAns P A g vs m.hp m.nx K0)
    (hk : ∀ v hp' nx', K0 v hp' nx' → K v { m with hp := hp', nx := nx' }) (hb : A.bld g = none := by rfl) : WC P A (.fn (.func g) first cap) args m K := by
  obtain ⟨v, hp', nx', ⟨k, h1⟩, h2⟩ := h
  refine ⟨v, _, ⟨k, ?_⟩, hk _ _ _ h2⟩
  simp only [callI, callF, hh, if_true]
  rw [ha]
  simp only [runH, hb, Option.bind_some, h1, Option.map_some]
def makeSliceV (k : TK) (l c : Vl) (m : Mem) : Option (Arg × Mem) := match k, l, c with
    | .slice esz eb z, .int .i64 a, .int .i64 b =>
      if decide (0 ≤ a) && decide (a = b) && decide (a * eb ≤ 140737488355328) && decide (a ≤ 140737488355328) && !z.undef? && z.size == esz && decide (0 < esz) then
        some (.v (.own m.nx a.toNat), { m with hp := upd m.hp m.nx (.arr esz (List.replicate a.toNat z)), nx := m.nx + 1 }) else none
    | _, _, _ => none
theorem op0_makeSlice {L : List Nat} {d : Option Nat} {ρ : Operand → Arg} {m : Mem} {t : TypeId} {x y : Operand} : op0 P L d (.makeSlice t x y) ρ m = makeSliceV (tdOf P t).k (ρ x).vl (ρ y).vl m := rfl
theorem append_nils {td td1 : TD} {m : Mem} {esz eb eb1 : Nat} {ez ez1 : Vl} {ys : List Vl} {b : Bool} (hk : td.k = .slice esz eb ez) (hk1 : td1.k = .slice esz eb1 ez1) (hg : okGrow eb esz ez ys.length = true) :
    appendV td td1 .nils (.lst esz ys b) m = some (.own m.nx ys.length, { m with hp := upd m.hp m.nx (.arr esz ys), nx := m.nx + 1 }) := by
  unfold appendV
  simp only [hk, hk1, Mem.elems, if_true, Option.bind_some, hg]
theorem append_own {td td1 : TD} {m : Mem} {esz eb eb1 id n : Nat} {ez ez1 : Vl} {xs ys : List Vl} {b : Bool} (hk : td.k = .slice esz eb ez) (hk1 : td1.k = .slice esz eb1 ez1) (ho : m.hp id = .arr esz xs) (hn : xs.length = n) (hg : okGrow eb esz ez (xs.length + ys.length) = true) :
    appendV td td1 (.own id n) (.lst esz ys b) m = some (.own id (n + ys.length), { m with hp := upd m.hp id (.arr esz (xs ++ ys)) }) := by
  unfold appendV
  simp only [hk, hk1, Mem.elems, if_true, Option.bind_some, ho]
  subst hn; rw [if_pos (by simp [hg])]
def xorI (k : IntKind) (a b : Int) : Int := k.wrap (BitVec.ofInt k.bits a ^^^ BitVec.ofInt k.bits b).toNat
def orI (k : IntKind) (a b : Int) : Int := k.wrap (BitVec.ofInt k.bits a ||| BitVec.ofInt k.bits b).toNat
def andI (k : IntKind) (a b : Int) : Int := k.wrap (BitVec.ofInt k.bits a &&& BitVec.ofInt k.bits b).toNat
def shlI (k : IntKind) (a b : Int) : Int := k.wrap (a * 2 ^ (min b.toNat k.bits))
def shrI (k : IntKind) (a b : Int) : Int := a.fdiv (2 ^ (min b.toNat k.bits))
theorem bin_xor {td : TD} {k : IntKind} {a b : Int} : binOpV td .xor (.int k a) (.int k b) = some (.int k (xorI k a b)) := by simp [binOpV, intOp, xorI]
theorem bin_or {td : TD} {k : IntKind} {a b : Int} : binOpV td .or (.int k a) (.int k b) = some (.int k (orI k a b)) := by simp [binOpV, intOp, orI]
theorem bin_and {td : TD} {k : IntKind} {a b : Int} : binOpV td .and (.int k a) (.int k b) = some (.int k (andI k a b)) := by simp [binOpV, intOp, andI]
theorem bin_shl {td : TD} {k j : IntKind} {a b : Int} (h : 0 ≤ b) : binOpV td .shl (.int k a) (.int j b) = some (.int k (shlI k a b)) := by
  unfold binOpV; simp only; rw [if_neg (by omega)]; rfl
theorem bin_shr {td : TD} {k j : IntKind} {a b : Int} (h : 0 ≤ b) : binOpV td .shr (.int k a) (.int j b) = some (.int k (shrI k a b)) := by
  unfold binOpV; simp only; rw [if_neg (by omega)]; rfl
def isAppend (P : Program) (t t1 : TypeId) (s x : Vl) (m : Mem) : Option (Vl × Mem) := appendV (tdOf P t) (tdOf P t1) s x m
theorem builtin_append {t t1 : TypeId} {s x : Vl} {m : Mem} : builtinV P .append [t, t1] [s, x] m = isAppend P t t1 s x m := rfl
end
attribute [go_sem] op0_makeSlice bin_xor bin_or bin_and bin_shl bin_shr hretQ_ret hretQ_normal upd_same upd_upd builtin_append
end Go.Idl
namespace Go.Idl
section
variable {P : Program} {m : Mem} {t e eb id n : Nat} {ez x : Vl} {xs : List Vl} {b : Bool}
theorem app1_nils (hk : (tdOf P t).k = .slice e eb ez) (hg : okGrow eb e ez 1 = true) : isAppend P t t .nils (.lst e [x] b) m = some (.own m.nx 1, { m with hp := upd m.hp m.nx (.arr e [x]), nx := m.nx + 1 }) :=
  append_nils hk hk hg
theorem app1_own (hk : (tdOf P t).k = .slice e eb ez) (ho : m.hp id = .arr e xs) (hn : xs.length = n) (hg : okGrow eb e ez (n + 1) = true) :
    isAppend P t t (.own id n) (.lst e [x] b) m = some (.own id (n + 1), { m with hp := upd m.hp id (.arr e (xs ++ [x])) }) :=
  append_own hk hk ho hn (by rw [hn]; exact hg)
theorem grow_ok {k : Nat} (hz : ez.undef? = false) (hs : ez.size = e) (he : 0 < e) (hb : 0 < eb) (hk : k * eb ≤ 140737488355328) : okGrow eb e ez k = true := by
  unfold okGrow
  simp [hz, hs, he, hb, hk]
end
end Go.Idl
namespace Go.Idl
def repV : Nat → Vl → List Vl
  | 0, _ => []
  | n + 1, z => z :: repV n z
theorem repV_zero {z : Vl} : repV 0 z = [] := rfl
theorem repV_succ {n : Nat} {z : Vl} : repV (n + 1) z = z :: repV n z := rfl
theorem repV_eq (n : Nat) (z : Vl) : repV n z = List.replicate n z := by
  induction n with
  | zero => rfl
  | succ n ih => rw [repV, ih, List.replicate_succ]
def litPut (sz : Nat) : List Vl → List (Nat × Vl) → Option (List Vl)
  | l, [] => some l
  | l, (i, v) :: ps => if v.undef? then none else if i < l.length ∧ v.size = sz then litPut sz (l.set i v) ps else none
theorem litPut_nil {sz : Nat} {l : List Vl} : litPut sz l [] = some l := rfl
theorem litPut_cons {sz i : Nat} {v : Vl} {l : List Vl} {ps : List (Nat × Vl)} : litPut sz l ((i, v) :: ps) = if v.undef? then none else if i < l.length ∧ v.size = sz then litPut sz (l.set i v) ps else none := rfl
theorem litElems_eq {z : Vl} {n : Nat} {ps : List (Nat × Vl)} : litElems z n ps = litPut z.size (repV n z) ps := by
  rw [repV_eq]
  unfold litElems
  simp only
  generalize List.replicate n z = l
  induction ps generalizing l with
  | nil => rfl
  | cons p ps ih =>
    obtain ⟨i, v⟩ := p
    rw [List.foldlM_cons, litPut]
    by_cases h1 : v.undef? = true
    · simp [h1]
    · by_cases h2 : i < l.length ∧ v.size = z.size
      · simp only [h1, h2]; simpa using ih _
      · simp only [h1, h2]; simp
theorem sub1_int {k1 : IntKind} {n1 : Int} : sub false 1 0 (.int k1 n1) = some (.int k1 n1) := sub_1 rfl
theorem sub1_bool {b1 : Bool} : sub false 1 0 (.bool b1) = some (.bool b1) := sub_1 rfl
theorem sub1_str {s1 : ByteArray} : sub false 1 0 (.str s1) = some (.str s1) := sub_1 rfl
theorem sub1_nils  : sub false 1 0 (.nils) = some (.nils) := sub_1 rfl
theorem sub1_lst {e1 : Nat} {xs1 : List Vl} {x1 : Bool} : sub false 1 0 (.lst e1 xs1 x1) = some (.lst e1 xs1 x1) := sub_1 rfl
theorem sub1_own {i1 n1 : Nat} : sub false 1 0 (.own i1 n1) = some (.own i1 n1) := sub_1 rfl
theorem sub1_SL {e1 : Nat} {xs1 : List Vl} {o1 : Option Bool} : sub false 1 0 (SL e1 xs1 o1) = some (SL e1 xs1 o1) := sub_1 isOne_SL
theorem sub1_nilp  : sub false 1 0 (.nilp) = some (.nilp) := sub_1 rfl
theorem sub1_bp {i1 o1 : Nat} : sub false 1 0 (.bp i1 o1) = some (.bp i1 o1) := sub_1 rfl
theorem sub1_ep {i1 n1 j1 o1 : Nat} : sub false 1 0 (.ep i1 n1 j1 o1) = some (.ep i1 n1 j1 o1) := sub_1 rfl
theorem sub1_fp {v1 : Vl} {o1 : Nat} : sub false 1 0 (.fp v1 o1) = some (.fp v1 o1) := sub_1 rfl
theorem sub1_nilf  : sub false 1 0 (.nilf) = some (.nilf) := sub_1 rfl
theorem sub1_fn {f1 : Fn} {a1 c1 : List Vl} : sub false 1 0 (.fn f1 a1 c1) = some (.fn f1 a1 c1) := sub_1 rfl
theorem sub1_nilm  : sub false 1 0 (.nilm) = some (.nilm) := sub_1 rfl
theorem sub1_mp {i1 : Nat} : sub false 1 0 (.mp i1) = some (.mp i1) := sub_1 rfl
theorem sub1_nili  : sub false 1 0 (.nili) = some (.nili) := sub_1 rfl
theorem sub1_ifc {t1 : TypeId} {v1 : Vl} : sub false 1 0 (.ifc t1 v1) = some (.ifc t1 v1) := sub_1 rfl
theorem put1_int_int {k1 : IntKind} {n1 : Int} {k2 : IntKind} {n2 : Int} : put 0 (.int k2 n2) (.int k1 n1) = some (.int k2 n2) := put_1 rfl rfl
theorem put1_bool_bool {b1 : Bool} {b2 : Bool} : put 0 (.bool b2) (.bool b1) = some (.bool b2) := put_1 rfl rfl
theorem put1_str_str {s1 : ByteArray} {s2 : ByteArray} : put 0 (.str s2) (.str s1) = some (.str s2) := put_1 rfl rfl
theorem put1_nils_nils   : put 0 (.nils) (.nils) = some (.nils) := put_1 rfl rfl
theorem put1_nils_lst  {e2 : Nat} {xs2 : List Vl} {x2 : Bool} : put 0 (.lst e2 xs2 x2) (.nils) = some (.lst e2 xs2 x2) := put_1 rfl rfl
theorem put1_nils_own  {i2 n2 : Nat} : put 0 (.own i2 n2) (.nils) = some (.own i2 n2) := put_1 rfl rfl
theorem put1_nils_SL  {e2 : Nat} {xs2 : List Vl} {o2 : Option Bool} : put 0 (SL e2 xs2 o2) (.nils) = some (SL e2 xs2 o2) := put_1 rfl isOne_SL
theorem put1_lst_nils {e1 : Nat} {xs1 : List Vl} {x1 : Bool}  : put 0 (.nils) (.lst e1 xs1 x1) = some (.nils) := put_1 rfl rfl
theorem put1_lst_lst {e1 : Nat} {xs1 : List Vl} {x1 : Bool} {e2 : Nat} {xs2 : List Vl} {x2 : Bool} : put 0 (.lst e2 xs2 x2) (.lst e1 xs1 x1) = some (.lst e2 xs2 x2) := put_1 rfl rfl
theorem put1_lst_own {e1 : Nat} {xs1 : List Vl} {x1 : Bool} {i2 n2 : Nat} : put 0 (.own i2 n2) (.lst e1 xs1 x1) = some (.own i2 n2) := put_1 rfl rfl
theorem put1_lst_SL {e1 : Nat} {xs1 : List Vl} {x1 : Bool} {e2 : Nat} {xs2 : List Vl} {o2 : Option Bool} : put 0 (SL e2 xs2 o2) (.lst e1 xs1 x1) = some (SL e2 xs2 o2) := put_1 rfl isOne_SL
theorem put1_own_nils {i1 n1 : Nat}  : put 0 (.nils) (.own i1 n1) = some (.nils) := put_1 rfl rfl
theorem put1_own_lst {i1 n1 : Nat} {e2 : Nat} {xs2 : List Vl} {x2 : Bool} : put 0 (.lst e2 xs2 x2) (.own i1 n1) = some (.lst e2 xs2 x2) := put_1 rfl rfl
theorem put1_own_own {i1 n1 : Nat} {i2 n2 : Nat} : put 0 (.own i2 n2) (.own i1 n1) = some (.own i2 n2) := put_1 rfl rfl
theorem put1_own_SL {i1 n1 : Nat} {e2 : Nat} {xs2 : List Vl} {o2 : Option Bool} : put 0 (SL e2 xs2 o2) (.own i1 n1) = some (SL e2 xs2 o2) := put_1 rfl isOne_SL
theorem put1_SL_nils {e1 : Nat} {xs1 : List Vl} {o1 : Option Bool}  : put 0 (.nils) (SL e1 xs1 o1) = some (.nils) := put_1 isOne_SL rfl
theorem put1_SL_lst {e1 : Nat} {xs1 : List Vl} {o1 : Option Bool} {e2 : Nat} {xs2 : List Vl} {x2 : Bool} : put 0 (.lst e2 xs2 x2) (SL e1 xs1 o1) = some (.lst e2 xs2 x2) := put_1 isOne_SL rfl
theorem put1_SL_own {e1 : Nat} {xs1 : List Vl} {o1 : Option Bool} {i2 n2 : Nat} : put 0 (.own i2 n2) (SL e1 xs1 o1) = some (.own i2 n2) := put_1 isOne_SL rfl
theorem put1_SL_SL {e1 : Nat} {xs1 : List Vl} {o1 : Option Bool} {e2 : Nat} {xs2 : List Vl} {o2 : Option Bool} : put 0 (SL e2 xs2 o2) (SL e1 xs1 o1) = some (SL e2 xs2 o2) := put_1 isOne_SL isOne_SL
theorem put1_nilp_nilp   : put 0 (.nilp) (.nilp) = some (.nilp) := put_1 rfl rfl
theorem put1_nilp_bp  {i2 o2 : Nat} : put 0 (.bp i2 o2) (.nilp) = some (.bp i2 o2) := put_1 rfl rfl
theorem put1_nilp_ep  {i2 n2 j2 o2 : Nat} : put 0 (.ep i2 n2 j2 o2) (.nilp) = some (.ep i2 n2 j2 o2) := put_1 rfl rfl
theorem put1_nilp_fp  {v2 : Vl} {o2 : Nat} : put 0 (.fp v2 o2) (.nilp) = some (.fp v2 o2) := put_1 rfl rfl
theorem put1_bp_nilp {i1 o1 : Nat}  : put 0 (.nilp) (.bp i1 o1) = some (.nilp) := put_1 rfl rfl
theorem put1_bp_bp {i1 o1 : Nat} {i2 o2 : Nat} : put 0 (.bp i2 o2) (.bp i1 o1) = some (.bp i2 o2) := put_1 rfl rfl
theorem put1_bp_ep {i1 o1 : Nat} {i2 n2 j2 o2 : Nat} : put 0 (.ep i2 n2 j2 o2) (.bp i1 o1) = some (.ep i2 n2 j2 o2) := put_1 rfl rfl
theorem put1_bp_fp {i1 o1 : Nat} {v2 : Vl} {o2 : Nat} : put 0 (.fp v2 o2) (.bp i1 o1) = some (.fp v2 o2) := put_1 rfl rfl
theorem put1_ep_nilp {i1 n1 j1 o1 : Nat}  : put 0 (.nilp) (.ep i1 n1 j1 o1) = some (.nilp) := put_1 rfl rfl
theorem put1_ep_bp {i1 n1 j1 o1 : Nat} {i2 o2 : Nat} : put 0 (.bp i2 o2) (.ep i1 n1 j1 o1) = some (.bp i2 o2) := put_1 rfl rfl
theorem put1_ep_ep {i1 n1 j1 o1 : Nat} {i2 n2 j2 o2 : Nat} : put 0 (.ep i2 n2 j2 o2) (.ep i1 n1 j1 o1) = some (.ep i2 n2 j2 o2) := put_1 rfl rfl
theorem put1_ep_fp {i1 n1 j1 o1 : Nat} {v2 : Vl} {o2 : Nat} : put 0 (.fp v2 o2) (.ep i1 n1 j1 o1) = some (.fp v2 o2) := put_1 rfl rfl
theorem put1_fp_nilp {v1 : Vl} {o1 : Nat}  : put 0 (.nilp) (.fp v1 o1) = some (.nilp) := put_1 rfl rfl
theorem put1_fp_bp {v1 : Vl} {o1 : Nat} {i2 o2 : Nat} : put 0 (.bp i2 o2) (.fp v1 o1) = some (.bp i2 o2) := put_1 rfl rfl
theorem put1_fp_ep {v1 : Vl} {o1 : Nat} {i2 n2 j2 o2 : Nat} : put 0 (.ep i2 n2 j2 o2) (.fp v1 o1) = some (.ep i2 n2 j2 o2) := put_1 rfl rfl
theorem put1_fp_fp {v1 : Vl} {o1 : Nat} {v2 : Vl} {o2 : Nat} : put 0 (.fp v2 o2) (.fp v1 o1) = some (.fp v2 o2) := put_1 rfl rfl
theorem put1_nilf_nilf   : put 0 (.nilf) (.nilf) = some (.nilf) := put_1 rfl rfl
theorem put1_nilf_fn  {f2 : Fn} {a2 c2 : List Vl} : put 0 (.fn f2 a2 c2) (.nilf) = some (.fn f2 a2 c2) := put_1 rfl rfl
theorem put1_fn_nilf {f1 : Fn} {a1 c1 : List Vl}  : put 0 (.nilf) (.fn f1 a1 c1) = some (.nilf) := put_1 rfl rfl
theorem put1_fn_fn {f1 : Fn} {a1 c1 : List Vl} {f2 : Fn} {a2 c2 : List Vl} : put 0 (.fn f2 a2 c2) (.fn f1 a1 c1) = some (.fn f2 a2 c2) := put_1 rfl rfl
theorem put1_nilm_nilm   : put 0 (.nilm) (.nilm) = some (.nilm) := put_1 rfl rfl
theorem put1_nilm_mp  {i2 : Nat} : put 0 (.mp i2) (.nilm) = some (.mp i2) := put_1 rfl rfl
theorem put1_mp_nilm {i1 : Nat}  : put 0 (.nilm) (.mp i1) = some (.nilm) := put_1 rfl rfl
theorem put1_mp_mp {i1 : Nat} {i2 : Nat} : put 0 (.mp i2) (.mp i1) = some (.mp i2) := put_1 rfl rfl
theorem put1_nili_nili   : put 0 (.nili) (.nili) = some (.nili) := put_1 rfl rfl
theorem put1_nili_ifc  {t2 : TypeId} {v2 : Vl} : put 0 (.ifc t2 v2) (.nili) = some (.ifc t2 v2) := put_1 rfl rfl
theorem put1_ifc_nili {t1 : TypeId} {v1 : Vl}  : put 0 (.nili) (.ifc t1 v1) = some (.nili) := put_1 rfl rfl
theorem put1_ifc_ifc {t1 : TypeId} {v1 : Vl} {t2 : TypeId} {v2 : Vl} : put 0 (.ifc t2 v2) (.ifc t1 v1) = some (.ifc t2 v2) := put_1 rfl rfl
attribute [go_sem] repV_zero repV_succ litPut_nil litPut_cons litElems_eq List.set_cons_zero List.set_cons_succ sub1_int sub1_bool sub1_str sub1_nils sub1_lst sub1_own sub1_SL sub1_nilp sub1_bp sub1_ep sub1_fp sub1_nilf sub1_fn sub1_nilm sub1_mp sub1_nili sub1_ifc put1_int_int put1_bool_bool put1_str_str put1_nils_nils put1_nils_lst put1_nils_own put1_nils_SL put1_lst_nils put1_lst_lst put1_lst_own put1_lst_SL put1_own_nils put1_own_lst put1_own_own put1_own_SL put1_SL_nils put1_SL_lst put1_SL_own put1_SL_SL put1_nilp_nilp put1_nilp_bp put1_nilp_ep put1_nilp_fp put1_bp_nilp put1_bp_bp put1_bp_ep put1_bp_fp put1_ep_nilp put1_ep_bp put1_ep_ep put1_ep_fp put1_fp_nilp put1_fp_bp put1_fp_ep put1_fp_fp put1_nilf_nilf put1_nilf_fn put1_fn_nilf put1_fn_fn put1_nilm_nilm put1_nilm_mp put1_mp_nilm put1_mp_mp put1_nili_nili put1_nili_ifc put1_ifc_nili put1_ifc_ifc
end Go.Idl
