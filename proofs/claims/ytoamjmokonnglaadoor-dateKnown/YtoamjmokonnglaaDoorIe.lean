/- Parts of the own ideal machine over the model (no addresses, no capacities, no tape) and of the proof that it is sound; generic in the program; no conditions. -/
import Derived.Test.YtoamjmokonnglaaDoorId
set_option linter.all false
set_option linter.unusedSectionVars false
set_option linter.unusedSimpArgs false
set_option linter.unusedVariables false
namespace Go.Idl
theorem mem_hasP {i j : Nat} : ∀ {ps : List (Nat × Nat)}, hasP ps i j = true → (i, j) ∈ ps
  | p :: ps, h => by
    unfold hasP at h
    rcases Bool.or_eq_true_iff.1 h with h | h
    · simp only [Bool.and_eq_true, beq_iff_eq] at h
      obtain ⟨rfl, rfl⟩ := h
      exact List.mem_cons_self
    · exact List.mem_cons_of_mem _ (mem_hasP h)
theorem late_of {ps : List (Nat × Nat)} {n : Nat} {m : Mem} : ∀ {rs : List (Nat × (Mem → Prop))}, (∀ i c, (i, c) ∈ rs → (i, n) ∈ ps → c m) → late ps n rs m
  | [], _ => trivial
  | (i, c) :: rs, h => ⟨fun hp => h i c List.mem_cons_self (mem_hasP hp), late_of fun i c hm hp => h i c (List.mem_cons_of_mem _ hm) hp⟩
theorem early_of {ps : List (Nat × Nat)} {n : Nat} {c : Mem → Prop} : ∀ {ms : List (Nat × Mem)}, (∀ j m, (j, m) ∈ ms → (n, j) ∈ ps → c m) → early ps n c ms
  | [], _ => trivial
  | (j, m) :: ms, h => ⟨fun hp => h j m List.mem_cons_self (mem_hasP hp), early_of fun j m hm hp => h j m (List.mem_cons_of_mem _ hm) hp⟩
theorem addR_mem {ps : List (Nat × Nat)} {n : Nat} {c : Mem → Prop} {rs : List (Nat × (Mem → Prop))} {x : Nat × (Mem → Prop)} (h : x ∈ addR ps n c rs) : x = (n, c) ∨ x ∈ rs := by
  unfold addR at h; split at h
  · exact List.mem_cons.1 h
  · exact .inr h
theorem addM_mem {ps : List (Nat × Nat)} {n : Nat} {m : Mem} {ms : List (Nat × Mem)} {x : Nat × Mem} (h : x ∈ addM ps n m ms) : x = (n, m) ∨ x ∈ ms := by
  unfold addM at h; split at h
  · exact List.mem_cons.1 h
  · exact .inr h
section
variable {P : Program} {A : Ann} {L : List Nat} {ops : Array Oper} {base : Nat → Arg} {ps : List (Nat × Nat)}
theorem seen_tail {n : Nat} {rs rs' : List (Nat × (Mem → Prop))} {ms : List (Nat × Mem)} {x : TR} {tr : List TR} (hS : Seen P base ps n rs ms (x :: tr)) (hne : ∀ i j, (i, j) ∈ ps → i ≠ j) (hr : ∀ y ∈ rs, y.1 < n) (hm : ∀ y ∈ ms, y.1 < n)
    (hsub : ∀ y ∈ rs', (x.ran = true ∧ y = (n, chk P x.o.dst x.o.op (rho (ovLook base x.ov)) x.g)) ∨ y ∈ rs) : Seen P base ps (n + 1) rs' (addM ps n x.m ms) tr := by
  intro i j hp hij
  obtain ⟨s1, s2, s3⟩ := hS i j hp hij
  have sh : ∀ a, n < a → (x :: tr)[a - n]? = tr[a - (n + 1)]? := fun a ha => by
    rw [show a - n = (a - (n + 1)) + 1 by omega]; simp
  have sn : (x :: tr)[n - n]? = some x := by simp
  refine ⟨fun hi hj x' y' hx hy hr' => ?_, fun hi hj c hc y' hy => ?_, fun hi hj mj hmj x' hx hr' => ?_⟩
  · exact s1 (by omega) (by omega) x' y' (by rw [sh i (by omega)]; exact hx) (by rw [sh j (by omega)]; exact hy) hr'
  · rcases hsub _ hc with ⟨hran, e⟩ | hc
    · cases e
      have := s1 (Nat.le_refl _) (by omega) x y' sn (by rw [sh j (by omega)]; exact hy) hran
      rwa [if_neg (by omega)] at this
    · have hi' := hr _ hc
      exact s2 hi' (by omega) c hc y' (by rw [sh j (by omega)]; exact hy)
  · rcases addM_mem hmj with e | hmj
    · cases e
      have := s1 (by omega) (Nat.le_refl _) x' x (by rw [sh i (by omega)]; exact hx) sn hr'
      rwa [if_pos (by omega)] at this
    · have hj' := hm _ hmj
      exact s3 (by omega) hj' mj hmj x' (by rw [sh i (by omega)]; exact hx) hr'
theorem trace_WD {Q : List (Nat × Arg) → Mem → Prop} (hne : ∀ i j, (i, j) ∈ ps → i ≠ j) {k : Nat} {ov' : List (Nat × Arg)} {m' : Mem} (hQ : Q ov' m') : ∀ (os : List Oper) (n : Nat) (rs : List (Nat × (Mem → Prop))) (ms : List (Nat × Mem)) (ov : List (Nat × Arg)) (m : Mem) (tr : List TR),
    (∀ y ∈ rs, y.1 < n) → (∀ y ∈ ms, y.1 < n) →
    traceOps P (callI P A (exec P A k)) (fun d => L.elem d) ops base os ov m = some (tr, ov', m') → Seen P base ps n rs ms tr → WD P A L ops base ps n os rs ms ov m Q
  | [], n, rs, ms, ov, m, tr, _, _, h, _ => by cases h; exact hQ
  | o :: os, n, rs, ms, ov, m, tr, hr, hm, h, hS => by
    have hm' : ∀ m1 : Mem, ∀ y ∈ addM ps n m1 ms, y.1 < n + 1 := fun m1 y hy => by
      rcases addM_mem hy with rfl | hy
      · exact Nat.lt_succ_self _
      · exact Nat.lt_succ_of_lt (hm _ hy)
    have hr0 : ∀ y ∈ rs, y.1 < n + 1 := fun y hy => Nat.lt_succ_of_lt (hr _ hy)
    have hlate : ∀ (x : TR) (tr1 : List TR), tr = x :: tr1 → late ps n rs x.m' := fun x tr1 e => by
      subst e
      exact late_of fun i c hc hp => (hS i n hp (hne _ _ hp)).2.1 (hr _ hc) (Nat.le_refl _) c hc x (by simp)
    rw [traceOps] at h
    unfold WD
    cases hw : wantedI ops (ovLook base ov) o with
    | none => rw [hw] at h; cases h
    | some b =>
      rw [hw] at h
      cases b with
      | false =>
        simp only at h
        obtain ⟨⟨tr1, ov1, m1⟩, h1, h2⟩ := Option.map_eq_some_iff.1 h
        cases h2
        refine .inr ⟨rfl, hlate _ _ rfl, trace_WD hne hQ os (n + 1) _ _ _ _ _ hr0 (hm' m) h1 (seen_tail hS hne hr hm fun y hy => .inr hy)⟩
      | true =>
        simp only at h
        refine .inl ⟨rfl, ?_⟩
        obtain ⟨⟨g, m1⟩, h1, h2⟩ := Option.bind_eq_some_iff.1 h
        simp only at h2
        obtain ⟨⟨tr1, ov1, m2⟩, h3, h4⟩ := Option.map_eq_some_iff.1 h2
        cases h4
        by_cases hc : isCallV o.op = true
        · obtain ⟨d, op, ty, pos, aft, gd⟩ := o
          cases op <;> try (cases hc; done)
          rename_i cl
          obtain ⟨callee, as, ats⟩ := cl
          cases callee with
          | builtin _ => cases hc
          | value fo =>
            simp only [opI] at h1
            obtain ⟨⟨v, m3⟩, h5, h6⟩ := Option.map_eq_some_iff.1 h1
            cases h6
            exact ⟨v, _, ⟨k, h5⟩, hlate _ _ rfl, trace_WD hne hQ os (n + 1) _ _ _ _ _ hr0 (hm' m) h3 (seen_tail hS hne hr hm fun y hy => .inr hy)⟩
          | invoke fo name =>
            obtain ⟨t, x, q, ⟨v, m3⟩, hx, hg, h5, h6⟩ := opI_inv.1 h1
            cases h6
            exact ⟨t, x, q, hx, hg, v, _, ⟨k, h5⟩, hlate _ _ rfl, trace_WD hne hQ os (n + 1) _ _ _ _ _ hr0 (hm' m) h3 (seen_tail hS hne hr hm fun y hy => .inr hy)⟩
        · have hc : isCallV o.op = false := by simpa using hc
          have key : OB (op0 P L o.dst o.op (rho (ovLook base ov)) m) fun r =>
              late ps n rs r.2 ∧ early ps n (chk P o.dst o.op (rho (ovLook base ov)) r.1) ms ∧
              WD P A L ops base ps (n + 1) os (addR ps n (chk P o.dst o.op (rho (ovLook base ov)) r.1) rs) (addM ps n m ms) (ovPut o.dst r.1 ov) r.2 Q := by
            refine ⟨(g, m1), ?_, hlate _ _ rfl, ?_, ?_⟩
            · obtain ⟨d, op, ty, pos, aft, gd⟩ := o
              rw [opI_op0 hc] at h1
              exact h1
            · exact early_of fun j mj hmj hp => (hS n j hp (hne _ _ hp)).2.2 (Nat.le_refl _) (hm _ hmj) mj hmj _ (by simp; rfl) rfl
            · refine trace_WD hne hQ os (n + 1) _ _ _ _ _ (fun y hy => ?_) (hm' m) h3 (seen_tail hS hne hr hm fun y hy => ?_)
              · rcases addR_mem hy with rfl | hy
                · exact Nat.lt_succ_self _
                · exact Nat.lt_succ_of_lt (hr _ hy)
              · rcases addR_mem hy with rfl | hy
                · exact .inl ⟨rfl, rfl⟩
                · exact .inr hy
          obtain ⟨d, op, ty, pos, aft, gd⟩ := o
          cases op <;> try exact key
          rename_i cl _
          obtain ⟨callee, as, ats⟩ := cl
          cases callee <;> first | exact key | cases hc
variable {loc : Nat → List Nat} {keep : Nat → Nat → List Nat} {gho : Nat → Nat → List Gho} {fin : Nat → List Gho} {heap : Nat → Bool} {ext : Nat → Option (List Vl → Option Vl)} {ro : Option Nat} {f : FuncId}
theorem Wp_draw {id : Nat} {s : FS} {Q : XE → FS → Prop} (hst : staticOk (fun d => (loc f).elem d) ops = true) (hps : loosePairs (fun d => (loc f).elem d) ops = ps) (hn : nodupI (allocDs ops.toList) = true) :
    Wp P (mkAnn loc keep gho fin heap ext) ro f (.region id ops true) s Q =
      OB (Od (ghosts (gho f id) s)) fun s1 => WD P (mkAnn loc keep gho fin heap ext) (loc f) ops (baseOf s1.sl (allocDs ops.toList)) ps 0 ops.toList [] [] [] { lc := [], hp := s1.hp, nx := s1.nx } (endQ (keep f id) (baseOf s1.sl (allocDs ops.toList)) Q) := by
  refine propext ⟨fun ⟨x, s', ⟨k, h⟩, hq⟩ => ?_, fun h => wp_draw hst hps hn h⟩
  cases k with
  | zero => cases h
  | succ k =>
    simp only [exec] at h
    obtain ⟨s2, h1, h2⟩ := Option.map_eq_some_iff.1 h
    cases h2
    unfold regionI at h1
    obtain ⟨s1, hg, h1⟩ := Option.bind_eq_some_iff.1 h1
    have hn' : nodupI (allocDsts ops) = true := by rw [allocDsts_list]; exact hn
    have hst' : staticOk ((mkAnn loc keep gho fin heap ext).loc f) ops = true := hst
    dsimp only at h1
    rw [hn'] at h1
    simp only [Bool.not_true, Bool.false_eq_true, if_false, if_true, hst'] at h1
    obtain ⟨⟨tr, ov', m'⟩, ht, h1⟩ := Option.bind_eq_some_iff.1 h1
    simp only at h1
    split at h1
    case isFalse => cases h1
    rename_i hl
    cases h1
    refine ⟨s1, hg, ?_⟩
    rw [allocDsts_list] at ht hq
    have ht' : traceOps P (callI P (mkAnn loc keep gho fin heap ext) (exec P (mkAnn loc keep gho fin heap ext) k)) (fun d => (loc f).elem d) ops (baseOf s1.sl (allocDs ops.toList)) ops.toList [] { lc := [], hp := s1.hp, nx := s1.nx } = some (tr, ov', m') := ht
    have hne : ∀ i j, (i, j) ∈ ps → i ≠ j := fun i j hp => by
      rw [← hps] at hp
      exact (loose_mem hp).1
    have hseen : Seen P (baseOf s1.sl (allocDs ops.toList)) ps 0 [] [] tr := fun i j hp hij => by
     refine ⟨fun _ _ x y hx hy hr => ?_, fun hi => absurd hi (Nat.not_lt_zero _), fun _ hj => absurd hj (Nat.not_lt_zero _)⟩
     simp only [Nat.sub_zero] at hx hy
     have hp' : (i, j) ∈ loosePairs ((mkAnn loc keep gho fin heap ext).loc f) ops := by
       have : (i, j) ∈ loosePairs (fun d => (loc f).elem d) ops := by rw [hps]; exact hp
       exact this
     have := List.all_eq_true.1 hl _ hp'
     unfold looseOk at this
     simp only [hx, hy, hr, Bool.not_true, Bool.false_or] at this
     unfold chk
     split at this
     · rename_i g _ he
       rw [allocDsts_list] at he
       have he' : evalV P x.o.dst x.o.op (rho (ovLook (baseOf s1.sl (allocDs ops.toList)) x.ov)) (if j < i then y.m else y.m') = some (g, _) := he
       rw [he', Option.map_some, eqArg_sound this]
     · cases this
    have hres := @trace_WD P (mkAnn loc keep gho fin heap ext) (loc f) ops (baseOf s1.sl (allocDs ops.toList)) ps (endQ (keep f id) (baseOf s1.sl (allocDs ops.toList)) Q) hne k ov' m' hq ops.toList 0 [] [] [] { lc := [], hp := s1.hp, nx := s1.nx } tr (fun y hy => nomatch hy) (fun y hy => nomatch hy) ht' hseen
    exact hres
end
end Go.Idl
namespace Go.Idl
noncomputable def D (p : Prop) : Bool := @decide p (Classical.propDecidable p)
theorem D_eq {p : Prop} : (D p = true) = p := by unfold D; simp
theorem D_ff {p : Prop} : (D p = false) = ¬ p := by unfold D; simp
theorem D_True : D True = true := by unfold D; simp
theorem D_False : D False = false := by unfold D; simp
theorem D_dec {p : Prop} [Decidable p] : D p = decide p := by unfold D; congr
noncomputable def IA (p : Prop) (x y : Arg) : Arg := @ite _ p (Classical.propDecidable p) x y
noncomputable def IV (p : Prop) (x y : Vl) : Vl := @ite _ p (Classical.propDecidable p) x y
theorem IA_True {x y : Arg} : IA True x y = x := by unfold IA; simp
theorem IA_False {x y : Arg} : IA False x y = y := by unfold IA; simp
theorem IV_True {x y : Vl} : IV True x y = x := by unfold IV; simp
theorem IV_False {x y : Vl} : IV False x y = y := by unfold IV; simp
theorem IA_pos {p : Prop} (h : p) {x y : Arg} : IA p x y = x := by unfold IA; simp [h]
theorem IA_neg {p : Prop} (h : ¬ p) {x y : Arg} : IA p x y = y := by unfold IA; simp [h]
theorem IV_pos {p : Prop} (h : p) {x y : Vl} : IV p x y = x := by unfold IV; simp [h]
theorem IV_neg {p : Prop} (h : ¬ p) {x y : Vl} : IV p x y = y := by unfold IV; simp [h]
theorem IA_congr {p p' : Prop} {x x' y y' : Arg} (h : p = p') (hx : p' → x = x') (hy : ¬ p' → y = y') : IA p x y = IA p' x' y' := by
  subst h
  by_cases h : p
  · rw [IA_pos h, IA_pos h, hx h]
  · rw [IA_neg h, IA_neg h, hy h]
theorem IV_congr {p p' : Prop} {x x' y y' : Vl} (h : p = p') (hx : p' → x = x') (hy : ¬ p' → y = y') : IV p x y = IV p' x' y' := by
  subst h
  by_cases h : p
  · rw [IV_pos h, IV_pos h, hx h]
  · rw [IV_neg h, IV_neg h, hy h]
attribute [congr] IA_congr IV_congr
theorem IA_v {p : Prop} {x y : Vl} : IA p (.v x) (.v y) = .v (IV p x y) := by
  by_cases h : p
  · rw [IA_pos h, IV_pos h]
  · rw [IA_neg h, IV_neg h]
theorem IV_same {p : Prop} {x : Vl} : IV p x x = x := by
  by_cases h : p
  · rw [IV_pos h]
  · rw [IV_neg h]
theorem IV_bool {p : Prop} {a b : Bool} : IV p (.bool a) (.bool b) = .bool (D ((p ∧ a = true) ∨ (¬ p ∧ b = true))) := by
  by_cases h : p
  · rw [IV_pos h]; cases a <;> simp [h, D_True, D_False]
  · rw [IV_neg h]; cases b <;> simp [h, D_True, D_False]
theorem IV_and {p : Prop} {a : Bool} : IV p (.bool a) (.bool false) = .bool (D (p ∧ a = true)) := by rw [IV_bool]; simp
theorem IV_or {p : Prop} {a : Bool} : IV p (.bool true) (.bool a) = .bool (D (p ∨ a = true)) := by
  rw [IV_bool]; congr 2
  by_cases h : p <;> simp [h]
theorem IV_nand {p : Prop} {a : Bool} : IV p (.bool false) (.bool a) = .bool (D (¬ p ∧ a = true)) := by rw [IV_bool]; simp
theorem IV_imp {p : Prop} {a : Bool} : IV p (.bool a) (.bool true) = .bool (D (p → a = true)) := by
  rw [IV_bool]; congr 2
  by_cases h : p <;> simp [h]
noncomputable def IZ (p : Prop) (x y : Int) : Int := @ite _ p (Classical.propDecidable p) x y
theorem IV_int {p : Prop} {k : IntKind} {a b : Int} : IV p (.int k a) (.int k b) = .int k (IZ p a b) := by
  unfold IV IZ
  split <;> rfl
def WI (p X Y : Prop) : Prop := (p → X) ∧ (¬ p → Y)
theorem WI_congr {p p' X X' Y Y' : Prop} (h : p = p') (hx : p' → X = X') (hy : ¬ p' → Y = Y') : WI p X Y = WI p' X' Y' := by
  subst h
  unfold WI
  by_cases h : p
  · simp [h, hx h]
  · simp [h, hy h]
attribute [congr] WI_congr
theorem WI_True {X Y : Prop} : WI True X Y = X := by unfold WI; simp
theorem WI_False {X Y : Prop} : WI False X Y = Y := by unfold WI; simp
theorem WB_und {b : Bool} {X Y : Prop} : WB (.bool b) X Y = WI (b = true) X Y := by
  cases b
  · rw [WB_false]; simp [WI]
  · rw [WB_true]; simp [WI]
def WGm {α : Type} (p : Prop) (a : Option α) (N : α → Prop) (Y : Prop) : Prop := (p → OB a N) ∧ (¬ p → Y)
theorem WGm_congr {α : Type} {p p' : Prop} {a a' : Option α} {N : α → Prop} {Y : Prop} (h : p = p') (ha : p' → a = a') : WGm p a N Y = WGm p' a' N Y := by
  subst h
  unfold WGm
  by_cases h : p
  · simp [h, ha h]
  · simp [h]
attribute [congr] WGm_congr
theorem WGm_True {α : Type} {a : Option α} {N : α → Prop} {Y : Prop} : WGm True a N Y = OB a N := by unfold WGm; simp
theorem WGm_False {α : Type} {a : Option α} {N : α → Prop} {Y : Prop} : WGm False a N Y = Y := by unfold WGm; simp
theorem WG_und {α : Type} {b : Bool} {a : Option α} {N : α → Prop} {Y : Prop} : WG (some b) (OB a N) Y = WGm (b = true) a N Y := by
  cases b
  · rw [WG_false]; simp [WGm]
  · rw [WG_true]; simp [WGm]
theorem WGm_split {α : Type} {p : Prop} {a : α} {N : α → Prop} {Y : Prop} : WGm p (some a) N Y = WI p (N a) Y := by unfold WGm WI; rw [OB_some]
section
variable {P : Program} {A : Ann} {L : List Nat} {ops : Array Oper} {base : Nat → Arg} {d : Option Nat} {op : Op} {os : List Oper} {ov : List (Nat × Arg)} {m : Mem} {Q : List (Nat × Arg) → Mem → Prop}
theorem WGm_merge {p : Prop} {v : Arg} : WGm p (some (v, m)) (nxt P A L ops base d os ov Q) (WO P A L ops base os (ovPut d (.v (.tup [])) ov) m Q) = WO P A L ops base os (ovPut d (IA p v (.v (.tup []))) ov) m Q := by
  rw [WGm_split]
  unfold WI
  rw [nxt_eq]
  by_cases h : p
  · rw [IA_pos h]; simp [h]
  · rw [IA_neg h]; simp [h]
variable {ps : List (Nat × Nat)} {n : Nat} {rs rs' : List (Nat × (Mem → Prop))} {ms : List (Nat × Mem)}
theorem late_addR {k : Nat} {c c' : Mem → Prop} (h : ∀ n m, late ps n rs m = late ps n rs' m) (hc : ∀ m, c m = c' m) (n : Nat) (m : Mem) : late ps n (addR ps k c rs) m = late ps n (addR ps k c' rs') m := by
  unfold addR
  split
  · show (_ ∧ _) = (_ ∧ _); rw [h, hc]
  · exact h n m
theorem WD_late : ∀ (os : List Oper) {n : Nat} {rs rs' : List (Nat × (Mem → Prop))} {ms : List (Nat × Mem)} {ov : List (Nat × Arg)} {m : Mem}, (∀ n m, late ps n rs m = late ps n rs' m) →
    WD P A L ops base ps n os rs ms ov m Q = WD P A L ops base ps n os rs' ms ov m Q
  | [], _, _, _, _, _, _, _ => rfl
  | o :: os, n, rs, rs', ms, ov, m, h => by
    rw [WD, WD]
    congr 1
    · split
      · congr 1
        funext v m'
        rw [h, WD_late os h]
      · congr 1
        funext v m'
        rw [h, WD_late os h]
      · congr 1
        funext r
        rw [h, WD_late os (late_addR h fun _ => rfl)]
    · rw [h, WD_late os h]
theorem late_skip {k : Nat} {c : Mem → Prop} (hc : ∀ m, c m) (n : Nat) (m : Mem) : late ps n (addR ps k c rs) m = late ps n rs m := by
  unfold addR
  split
  · show (_ ∧ _) = _
    simp [hc m]
  · rfl
theorem early_skip {k : Nat} {c : Mem → Prop} (hc : ∀ m, c m) : ∀ ms : List (Nat × Mem), early ps k c ms
  | [] => trivial
  | (j, m) :: ms => ⟨fun _ => hc m, early_skip hc ms⟩
def nxtG (P : Program) (A : Ann) (L : List Nat) (ops : Array Oper) (base : Nat → Arg) (ps : List (Nat × Nat)) (n : Nat) (d : Option Nat) (op : Op) (os : List Oper) (rs : List (Nat × (Mem → Prop))) (ms : List (Nat × Mem)) (ov : List (Nat × Arg)) (m : Mem) (Q : List (Nat × Arg) → Mem → Prop) (p : Prop) (v : Arg) : Prop :=
  late ps n rs m ∧ early ps n (fun m' => p → chk P d op (rho (ovLook base ov)) v m') ms ∧
    WD P A L ops base ps (n + 1) os (addR ps n (fun m' => p → chk P d op (rho (ovLook base ov)) v m') rs) (addM ps n m ms) (ovPut d (IA p v (.v (.tup []))) ov) m Q
theorem nxtG_eq {p : Prop} {v : Arg} : nxtG P A L ops base ps n d op os rs ms ov m Q p v = (late ps n rs m ∧ early ps n (fun m' => p → chk P d op (rho (ovLook base ov)) v m') ms ∧
    WD P A L ops base ps (n + 1) os (addR ps n (fun m' => p → chk P d op (rho (ovLook base ov)) v m') rs) (addM ps n m ms) (ovPut d (IA p v (.v (.tup []))) ov) m Q) := rfl
theorem WGm_mergeD {p : Prop} {v : Arg} : WGm p (some (v, m)) (nxtD P A L ops base ps n d op os rs ms ov m Q) (nxtC P A L ops base ps n d os rs ms ov m Q (.tup []) m) = nxtG P A L ops base ps n d op os rs ms ov m Q p v := by
  rw [WGm_split, nxtG_eq, nxtD_eq, nxtC_eq]
  unfold WI
  by_cases h : p
  · have e : (fun m' => p → chk P d op (rho (ovLook base ov)) v m') = chk P d op (rho (ovLook base ov)) v := by funext m'; simp [h]
    rw [e, IA_pos h]; simp [h]
  · have e : ∀ m', (p → chk P d op (rho (ovLook base ov)) v m') := fun m' hp => absurd hp h
    rw [IA_neg h, WD_late os (late_skip e)]
    simp only [h, false_implies, true_and, not_false_eq_true, forall_const]
    exact propext ⟨fun ⟨a, b⟩ => ⟨a, early_skip (fun _ => trivial) ms, b⟩, fun ⟨a, _, b⟩ => ⟨a, b⟩⟩
def H2 (K : Vl → Mem → Prop) (v : Vl) (m : Mem) : Prop := K v m
def WGc (p X Y : Prop) : Prop := (p → X) ∧ (¬ p → Y)
theorem WGc_congr {p p' X X' Y : Prop} (h : p = p') (hx : p' → X = X') : WGc p X Y = WGc p' X' Y := by
  subst h
  unfold WGc
  by_cases h : p
  · simp [h, hx h]
  · simp [h]
attribute [congr] WGc_congr
theorem WGc_True {X Y : Prop} : WGc True X Y = X := by unfold WGc; simp
theorem WGc_False {X Y : Prop} : WGc False X Y = Y := by unfold WGc; simp
theorem WG_undC {b : Bool} {c : Vl} {args : List Arg} {m : Mem} {K : Vl → Mem → Prop} {Y : Prop} : WG (some b) (WC P A c args m K) Y = WGc (b = true) (WC P A c args m (H2 K)) Y := by
  cases b
  · rw [WG_false]; simp [WGc]
  · rw [WG_true]; simp [WGc]; rfl
theorem WGc_split {p : Prop} {v : Vl} {m : Mem} {K : Vl → Mem → Prop} {Y : Prop} : WGc p (H2 K v m) Y = WI p (K v m) Y := rfl
theorem WGc_merge {p : Prop} {v : Vl} : WGc p (H2 (nxtW P A L ops base d os ov Q) v m) (WO P A L ops base os (ovPut d (.v (.tup [])) ov) m Q) = WO P A L ops base os (ovPut d (.v (IV p v (.tup []))) ov) m Q := by
  rw [WGc_split]
  unfold WI
  rw [nxtW_eq]
  by_cases h : p
  · rw [IV_pos h]; simp [h]
  · rw [IV_neg h]; simp [h]
theorem WGc_mergeD {p : Prop} {v : Vl} : WGc p (H2 (nxtC P A L ops base ps n d os rs ms ov m Q) v m) (nxtC P A L ops base ps n d os rs ms ov m Q (.tup []) m) = nxtC P A L ops base ps n d os rs ms ov m Q (IV p v (.tup [])) m := by
  rw [WGc_split]
  unfold WI
  by_cases h : p
  · rw [IV_pos h]; simp [h]
  · rw [IV_neg h]; simp [h]
theorem wantV_IV {p : Prop} {b : Bool} {l : List Vl} {w : Bool} : wantV (.v (IV p (.bool b) (.tup l))) w = some (D (p ∧ b = w)) := by
  by_cases h : p
  · rw [IV_pos h]
    show some (b == w) = _
    cases b <;> cases w <;> simp [h, D_True, D_False]
  · rw [IV_neg h]
    show some false = _
    simp [h, D_False]
theorem wantV_b {b w : Bool} : wantV (.v (.bool b)) w = some (b == w) := rfl
theorem beq_tt {b : Bool} : (b == true) = b := by cases b <;> rfl
theorem beq_ff {b : Bool} : (b == false) = !b := by cases b <;> rfl
theorem pickV_und {b : Bool} {x y : Vl} : pickV (.bool b) x y m = some (.v (IV (b = true) x y), m) := by
  cases b
  · rw [pickV_false, IV_neg (by simp)]
  · rw [pickV_true, IV_pos rfl]
end
end Go.Idl
namespace Go.Idl
theorem ghosts_cons {g : Gho} {gs : List Gho} {s : FS} : ghosts (g :: gs) s = (g.run s).bind (ghosts gs) := rfl
theorem lookup_if {a t : Nat} {v : Vl} {l : List (Nat × Vl)} : List.lookup t ((a, v) :: l) = if t = a then some v else List.lookup t l := by
  rw [List.lookup_cons]
  by_cases h : t = a
  · subst h; simp
  · have e : (t == a) = false := by simp [h]
    rw [e, if_neg h]
def delS (t : Nat) : List (Nat × Vl) → List (Nat × Vl)
  | [] => []
  | (a, v) :: l => if a = t then delS t l else (a, v) :: delS t l
theorem delS_nil {t : Nat} : delS t [] = [] := rfl
theorem delS_cons {t a : Nat} {v : Vl} {l : List (Nat × Vl)} : delS t ((a, v) :: l) = if a = t then delS t l else (a, v) :: delS t l := rfl
theorem setS_del {sl : List (Nat × Vl)} {t : Nat} {v : Vl} : setS sl t v = (t, v) :: delS t sl := by
  unfold setS
  congr 1
  induction sl with
  | nil => rfl
  | cons x l ih =>
    obtain ⟨a, w⟩ := x
    rw [List.filter_cons, delS_cons]
    by_cases h : a = t
    · subst h; simpa using ih
    · simp [h, ih]
def ownFV (s : FS) (t off e : Nat) : Option Vl → Option FS
  | some (.loc (.agg cs)) => match cs[off]? with
    | some .nils => if 0 < e then some { sl := setS s.sl t (.loc (.agg (cs.set off (.own s.nx 0)))), hp := upd s.hp s.nx (.arr e []), nx := s.nx + 1 } else none
    | _ => none
  | _ => none
theorem run_ownF {s : FS} {t off e : Nat} : (Gho.ownF t off e).run s = ownFV s t off e (s.sl.lookup t) := by
  unfold Gho.run ownFV
  rfl
theorem ownFV_loc {s : FS} {t off e : Nat} {cs : List Vl} (h : cs[off]? = some .nils) (he : 0 < e) : ownFV s t off e (some (.loc (.agg cs))) = some { sl := setS s.sl t (.loc (.agg (cs.set off (.own s.nx 0)))), hp := upd s.hp s.nx (.arr e []), nx := s.nx + 1 } := by
  simp only [ownFV, h, if_pos he]
def frzV (s : FS) (t : Nat) : Option Vl → Option FS
  | some (.loc c) => match reify s.hp c with
    | some r => some { s with sl := setS s.sl t (.loc r.1), hp := killHp r.2 s.hp }
    | none => some s
  | some v => if v.frz? then
      match reify s.hp v with
      | some r => some { s with sl := setS s.sl t r.1, hp := killHp r.2 s.hp }
      | none => some s
    else some s
  | none => some s
theorem run_frz {s : FS} {t : Nat} : (Gho.frz t).run s = frzV s t (s.sl.lookup t) := by
  unfold Gho.run frzV
  rfl
theorem frzV_lst {s : FS} {t e : Nat} {xs : List Vl} {x : Bool} : frzV s t (some (.lst e xs x)) = some s := rfl
theorem frzV_nils {s : FS} {t : Nat} : frzV s t (some .nils) = some s := rfl
attribute [go_sem] ghosts_cons lookup_if delS_nil delS_cons setS_del run_ownF ownFV_loc List.set_cons_zero List.set_cons_succ Nat.zero_lt_succ
theorem kr {p : Prop} (h : p) : p := h
theorem krS {f : Nat → Bool} {ops : Array Oper} (h : staticOk f ops = true) : staticOk f ops = true := h
theorem krP {f : Nat → Bool} {ops : Array Oper} {l : List (Nat × Nat)} (h : loosePairs f ops = l) : loosePairs f ops = l := h
theorem krN {l : List Oper} (h : nodupI (allocDs l) = true) : nodupI (allocDs l) = true := h
theorem krG {ops : Array Oper} {j : Nat} (h : (gslot ops j).isSome = true) : (gslot ops j).isSome = true := h
section
variable {P : Program} {A : Ann}
theorem WC_heap {g : FuncId} {first cap : List Vl} {args : List Arg} {vs : List Vl} {m : Mem} {K : Vl → Mem → Prop} {r : Vl} {hp' : Nat → Ob} {nx' : Nat} (hh : A.heap g = true) (ha : mapO argV (first.map .v ++ args ++ cap.map .v) = some vs)
    (h : HAns P A g vs m.hp m.nx fun v h n => v = r ∧ h = hp' ∧ n = nx') (hb : A.bld g = none := by rfl) : WC P A (.fn (.func g) first cap) args m K = K r { m with hp := hp', nx := nx' } := by
  obtain ⟨v, h1, n1, ⟨k, hr⟩, rfl, rfl, rfl⟩ := h
  refine WC_eq ⟨k, ?_⟩
  simp only [callI, callF, hh, if_true]
  rw [ha]
  simp only [runH, hb, Option.bind_some, hr, Option.map_some]
theorem WC_pure {g : FuncId} {args : List Arg} {vs : List Vl} {ks : List Nat} {m : Mem} {K : Vl → Mem → Prop} {r : Vl} (hh : A.heap g = false) (ha : reifyAs m args = some (vs, ks, false)) (hf : r.flat = false) (hc : r.closed = true)
    (h : Ans P A g vs fun v => v = r) : WC P A (.fn (.func g) [] []) args m K = K r { m with hp := killHp ks m.hp } := by
  obtain ⟨v, h1, rfl⟩ := h
  exact WC_eq (calls_kill hh ha h1 hf hc)
variable {m : Mem}
theorem ix_map {α : Type} [Inhabited α] {e eb : Nat} {ez : Vl} {f : α → Vl} {xs : List α} {o : Option Bool} {k : IntKind} {i : Int} (h0 : 0 ≤ i) (h1 : i < xs.length) (he : e ≠ 0) :
    indexAddrV (.slice e eb ez) (.v (SL e (xs.map f) o)) (.int k i) m = some (.v (.fp (f xs[i.toNat]!) 0), m) := by
  rw [indexAddr_SL (by rw [List.length_map]; exact ⟨h0, h1⟩) he]
  have hl : i.toNat < xs.length := by omega
  simp [List.getD_eq_getElem?_getD, List.getElem?_eq_getElem hl]
theorem ix_lst {α : Type} [Inhabited α] {e eb : Nat} {ez : Vl} {f : α → Vl} {xs : List α} {x : Bool} {k : IntKind} {i : Int} (h0 : 0 ≤ i) (h1 : i < xs.length) (he : e ≠ 0) :
    indexAddrV (.slice e eb ez) (.v (.lst e (xs.map f) x)) (.int k i) m = some (.v (.fp (f xs[i.toNat]!) 0), m) := by
  rw [SL_lst]; exact ix_map h0 h1 he
theorem get!_eq {α : Type} [Inhabited α] {xs : List α} {i : Nat} (h : i < xs.length) : xs[i]! = xs[i] := getElem!_pos xs i h
theorem get!_mem {α : Type} [Inhabited α] {xs : List α} {i : Nat} (h : i < xs.length) : xs[i]! ∈ xs := by rw [get!_eq h]; exact List.getElem_mem h
end
end Go.Idl
namespace Go.Idl
section
variable {P : Program} {A : Ann} {L : List Nat} {ops : Array Oper} {base : Nat → Arg} {ov : List (Nat × Arg)} {d : Option Nat} {op : Op} {os : List Oper} {m : Mem} {Q : List (Nat × Arg) → Mem → Prop}
theorem late_noP {n : Nat} {m : Mem} : ∀ {rs : List (Nat × (Mem → Prop))}, late [] n rs m = True
  | [] => rfl
  | (i, c) :: rs => by rw [late_cons, hasP_nil, late_noP]; simp
theorem early_noP {n : Nat} {c : Mem → Prop} : ∀ {ms : List (Nat × Mem)}, early [] n c ms = True
  | [] => rfl
  | (j, m) :: ms => by
    show ((hasP [] n j = true → c m) ∧ early [] n c ms) = True
    rw [hasP_nil, early_noP]; simp
theorem WD_WO : ∀ (os : List Oper) (n : Nat) (rs : List (Nat × (Mem → Prop))) (ms : List (Nat × Mem)) (ov : List (Nat × Arg)) (m : Mem), WD P A L ops base [] n os rs ms ov m Q = WO P A L ops base os ov m Q
  | [], n, rs, ms, ov, m => by rw [WD_nil, WO_nil]
  | o :: os, n, rs, ms, ov, m => by
    rw [WD]
    cases hw : wantedI ops (ovLook base ov) o with
    | none =>
      refine propext ⟨fun h => ?_, fun h => absurd h (WO_none hw)⟩
      rcases h with ⟨h, _⟩ | ⟨h, _⟩ <;> cases h
    | some b =>
      cases b with
      | false => rw [WG_false, WO_skip hw, late_noP, WD_WO os]; simp
      | true =>
        rw [WG_true]
        by_cases hc : isCallV o.op = true
        · obtain ⟨d, op, ty, pos, aft, gd⟩ := o
          cases op <;> try (cases hc; done)
          rename_i cl
          obtain ⟨callee, as, ats⟩ := cl
          cases callee with
          | builtin _ => cases hc
          | value fo =>
            rw [WO_callW hw]
            simp only [late_noP, true_and, WD_WO os]
          | invoke fo name =>
            rw [WO_invW hw]
            simp only [late_noP, true_and, WD_WO os]
        · have hc : isCallV o.op = false := by simpa using hc
          rw [WO_step hc hw]
          have key : (OB (op0 P L o.dst o.op (rho (ovLook base ov)) m) fun r => late [] n rs r.2 ∧ early [] n (chk P o.dst o.op (rho (ovLook base ov)) r.1) ms ∧
              WD P A L ops base [] (n + 1) os (addR [] n (chk P o.dst o.op (rho (ovLook base ov)) r.1) rs) (addM [] n m ms) (ovPut o.dst r.1 ov) r.2 Q) =
              OB (op0 P L o.dst o.op (rho (ovLook base ov)) m) fun r => WO P A L ops base os (ovPut o.dst r.1 ov) r.2 Q := by
            simp only [late_noP, early_noP, true_and, WD_WO os]
          obtain ⟨d, op, ty, pos, aft, gd⟩ := o
          cases op <;> try exact key
          rename_i cl _
          obtain ⟨callee, as, ats⟩ := cl
          cases callee <;> first | exact key | cases hc
theorem ovLook_putS {a t : Nat} {g : Arg} : ovLook base (ovPut (some a) g ov) t = if t = a then g else ovLook base ov t := ovLook_cons
theorem ovLook_putn {t : Nat} {g : Arg} : ovLook base (ovPut none g ov) t = ovLook base ov t := rfl
theorem nxt_mk {v : Arg} : nxt P A L ops base d os ov Q (v, m) = WO P A L ops base os (ovPut d v ov) m Q := rfl
def stS (kp : List Nat) (base : Nat → Arg) (ov : List (Nat × Arg)) (m : Mem) : Option FS := some { sl := keepS kp (ovLook base ov) m, hp := m.hp, nx := m.nx }
theorem stS_mk {kp : List Nat} : stS kp base ov m = some { sl := keepS kp (ovLook base ov) m, hp := m.hp, nx := m.nx } := rfl
theorem endQ_st {kp : List Nat} {Q : XE → FS → Prop} : endQ kp base Q ov m = OB (Od (stS kp base ov m)) (Q .normal) := by
  show Q .normal _ = OB (stS kp base ov m) (Q .normal)
  rw [stS_mk, OB_some]
def aft1 (P : Program) (A : Ann) (L : List Nat) (kp : List Nat) (l : List Oper) (Q : XE → FS → Prop) (s : FS) : Prop :=
  WO P A L l.toArray (baseOf s.sl (allocDs l)) l [] { lc := [], hp := s.hp, nx := s.nx } (endQ kp (baseOf s.sl (allocDs l)) Q)
def aft2 (P : Program) (A : Ann) (L : List Nat) (l : List Oper) (Q : XE → FS → Prop) (s : FS) (p : List Nat × List Nat) : Prop :=
  WO P A L l.toArray (baseOf s.sl p.2) l [] { lc := [], hp := s.hp, nx := s.nx } (endQ p.1 (baseOf s.sl p.2) Q)
theorem aft1_mk {kp : List Nat} {l : List Oper} {Q : XE → FS → Prop} {s : FS} : aft1 P A L kp l Q s = OB (Od (some (kp, allocDs l))) (aft2 P A L l Q s) := by
  show _ = OB (some (kp, allocDs l)) (aft2 P A L l Q s)
  rw [OB_some]; rfl
theorem aft2_mk {kp ds : List Nat} {l : List Oper} {Q : XE → FS → Prop} {sl : List (Nat × Vl)} {hp : Nat → Ob} {nx : Nat} : aft2 P A L l Q ⟨sl, hp, nx⟩ (kp, ds) = WO P A L l.toArray (baseOf sl ds) l [] ⟨[], hp, nx⟩ (endQ kp (baseOf sl ds) Q) := rfl
variable {loc : Nat → List Nat} {keep : Nat → Nat → List Nat} {gho : Nat → Nat → List Gho} {fin : Nat → List Gho} {heap : Nat → Bool} {ext : Nat → Option (List Vl → Option Vl)} {ro : Option Nat} {f : FuncId}
theorem Wp_regF {id : Nat} {l : List Oper} {s : FS} {Q : XE → FS → Prop} (hn : nodupI (allocDs l) = true) :
    Wp P (mkAnn loc keep gho fin heap ext) ro f (.region id l.toArray false) s Q = OB (Od (ghosts (gho f id) s)) (aft1 P (mkAnn loc keep gho fin heap ext) (loc f) (keep f id) l Q) := Wp_reg (ops := l.toArray) hn
theorem Wp_drF {id : Nat} {l : List Oper} {s : FS} {Q : XE → FS → Prop} (hst : staticOk (fun d => (loc f).elem d) l.toArray = true) (hps : loosePairs (fun d => (loc f).elem d) l.toArray = []) (hn : nodupI (allocDs l) = true) :
    Wp P (mkAnn loc keep gho fin heap ext) ro f (.region id l.toArray true) s Q = OB (Od (ghosts (gho f id) s)) (aft1 P (mkAnn loc keep gho fin heap ext) (loc f) (keep f id) l Q) := by
  rw [Wp_draw hst hps hn]
  congr 1
  funext s1
  rw [WD_WO]
  rfl
def gsl : List Oper → Nat → Option Nat
  | [], _ => none
  | o :: _, 0 => o.dst
  | _ :: os, n + 1 => gsl os n
theorem gsl_eq {l : List Oper} {j : Nat} : gslot l.toArray j = gsl l j := by
  unfold gslot
  rw [List.getElem?_toArray]
  induction l generalizing j with
  | nil => rfl
  | cons o l ih => cases j with
    | zero => rfl
    | succ j => exact ih
theorem gsl_zero {d : Option Nat} {op : Op} {ty : TypeId} {pos : String} {aft : Array Edge} {gd : Option (Nat × Bool)} {l : List Oper} : gsl (⟨d, op, ty, pos, aft, gd⟩ :: l) 0 = d := rfl
theorem gsl_succ {o : Oper} {l : List Oper} {j : Nat} : gsl (o :: l) (j + 1) = gsl l j := rfl
end
end Go.Idl
namespace Go.Idl
section
variable {P : Program} {A : Ann} {ro : Option Nat} {f : FuncId}
theorem wp_rangeFunc {g : Operand} {ps : Array Tmp} {asg bd : Code} {s : FS} {Q : XE → FS → Prop} {h : FuncId} {first cap : List Vl}
    (hro : ro = none ∨ ∃ k, ro = some k ∧ (s.hp k).rk = 1) (hg : (rho (lookOf s.sl) g).vl = .fn (.func h) first cap)
    (hr : HAns P A h (first ++ [.yld s.nx] ++ cap) (upd s.hp s.nx (.loop f (noLoc s.sl) ps.toList asg bd .ready)) (s.nx + 1) fun _ hp' nx' =>
      (∃ g' sl ps asg bd, hp' s.nx = .loop g' sl ps asg bd .ready ∧ Q .normal { s with hp := upd hp' s.nx .dead, nx := nx' }) ∨
      (∃ g' sl ps asg bd e, hp' s.nx = .loop g' sl ps asg bd (.done e) ∧ Q e { s with hp := upd hp' s.nx .dead, nx := nx' })) :
    Wp P A ro f (.rangeFunc g ps asg bd) s Q := by
  obtain ⟨v, hp', nx', ⟨k, hk⟩, hq⟩ := hr
  rcases hq with ⟨g', sl, ps', asg', bd', h1, hq⟩ | ⟨g', sl, ps', asg', bd', e, h1, hq⟩
  all_goals
    refine ⟨_, _, ⟨k + 1, ?_⟩, hq⟩
    rcases hro with rfl | ⟨j, rfl, hj⟩
    · simp only [exec]
      rw [if_pos trivial, hg]
      simp only [hk, Option.bind_some, h1]
    · simp only [exec]
      rw [if_pos (by simp [hj]), hg]
      simp only [hk, Option.bind_some, h1]
def endSt : XE → LSt
  | .normal => .ready
  | e => .done e
theorem endSt_normal : endSt .normal = .ready := rfl
theorem endSt_ret : endSt .ret = .done .ret := rfl
theorem endSt_exit {i : Nat} : endSt (.exit i) = .done (.exit i) := rfl
theorem wc_yld {k : Nat} {args : List Arg} {vs : List Vl} {m : Mem} {K : Vl → Mem → Prop} {g : FuncId} {sl : List (Nat × Vl)} {ps : List Nat} {asg bd : Code} (ha : mapO argV args = some vs) (hl : vs.length = ps.length)
    (hk : m.hp k = .loop g sl ps asg bd .ready)
    (hr : Wp P A (some k) g asg { sl := setPs sl ps vs, hp := m.hp, nx := m.nx } fun x s => x = .normal ∧ s.hp k = .loop g sl ps asg bd .ready ∧
      Wp P A (some k) g bd { s with hp := upd s.hp k (.loop g sl ps asg bd .busy) } fun x q => q.hp k = .loop g sl ps asg bd .busy ∧
        K (.bool (x == .normal)) { m with hp := upd q.hp k (.loop g sl ps asg bd (endSt x)), nx := q.nx }) :
    WC P A (.yld k) args m K := by
  obtain ⟨x, s, ⟨k1, h1⟩, rfl, h2, y, q, ⟨k2, h3⟩, h4, hK⟩ := hr
  refine ⟨_, _, ⟨max k1 k2, ?_⟩, hK⟩
  have e1 := exec_mono (P := P) (A := A) (Nat.le_max_left k1 k2) _ _ _ _ _ h1
  have e2 := exec_mono (P := P) (A := A) (Nat.le_max_right k1 k2) _ _ _ _ _ h3
  simp only [callI]
  rw [ha]
  simp only [Option.bind_some, roundI, hk, hl, if_true, e1, h2, e2, h4]
  cases y <;> rfl
variable {hp : Nat → Ob} {id n nx e : Nat} {lc : List (Nat × Vl)} {xs : List Vl}
theorem ixU {eb : Nat} {ez : Vl} {k : IntKind} {i : Int} (hn : xs.length = n) (h0 : 0 ≤ i) (h1 : i < n) (he : e ≠ 0) : indexAddrV (.slice e eb ez) (.v (.own id n)) (.int k i) { lc := lc, hp := upd hp id (.arr e xs), nx := nx } = some (.v (.ep id n i.toNat 0), { lc := lc, hp := upd hp id (.arr e xs), nx := nx }) :=
  indexAddr_own (upd_same _ _ _) hn ⟨h0, h1⟩ he
theorem rdU {ag : Bool} {sz j off : Nat} (hn : xs.length = n) : Mem.read { lc := lc, hp := upd hp id (.arr e xs), nx := nx } ag sz (.v (.ep id n j off)) = (xs[j]?).bind (sub ag sz off) := by
  simp only [Mem.read, upd_same, hn, if_true]
theorem wrU {v : Vl} {j off : Nat} (hn : xs.length = n) : Mem.write { lc := lc, hp := upd hp id (.arr e xs), nx := nx } v (.v (.ep id n j off)) = (xs[j]?).bind fun x => (put off v x).map fun c => { lc := lc, hp := upd hp id (.arr e (xs.set j c)), nx := nx } := by
  simp only [Mem.write, upd_same, hn, if_true, upd_upd]
mutual
theorem reify_flatV {inn : Vl → Option (Vl × List Nat)} {hp : Nat → Ob} : ∀ x : Vl, x.flat = true → reifyF inn hp x = some (x, [])
  | .int .., _ | .bool _, _ | .str _, _ | .nils, _ | .nilp, _ | .nilf, _ | .nili, _ | .nilm, _ => rfl
  | .agg cs, h => by simp only [reifyF, reify_flatL cs h]; rfl
  | .tup cs, h => by simp only [reifyF, reify_flatL cs h]; rfl
  | .ifc t v, h => by simp only [reifyF, reify_flatV v h]; rfl
theorem reify_flatL {inn : Vl → Option (Vl × List Nat)} {hp : Nat → Ob} : ∀ xs : List Vl, flatL xs = true → reifyL inn hp xs = some (xs, [])
  | [], _ => rfl
  | x :: xs, h => by
    simp only [flatL, Bool.and_eq_true] at h
    simp only [reifyL, reify_flatV x h.1, reify_flatL xs h.2, Option.bind_some, Option.map_some]
    rfl
end
theorem mapR_flat {inn : Vl → Option (Vl × List Nat)} : ∀ xs : List Vl, flatL xs = true → mapR (reifyF inn hp) xs = some (xs, [])
  | [], _ => rfl
  | x :: xs, h => by
    simp only [flatL, Bool.and_eq_true] at h
    simp only [mapR, reify_flatV x h.1, mapR_flat xs h.2, Option.bind_some, Option.map_some]
    rfl
theorem rfU (hn : xs.length = n) (hf : flatL xs = true) : reify (upd hp id (.arr e xs)) (.own id n) = some (.lst e xs false, [id]) := by
  unfold reify
  simp only [reifyF, upd_same, hn, if_true, mapR_flat xs hf, Option.map_some]
theorem kill1 {o : Ob} : killHp [id] (upd hp id o) = upd hp id (froOb o) := by
  show upd (upd hp id o) id (froOb (upd hp id o id)) = _
  rw [upd_same, upd_upd]
theorem froOb_arr : froOb (.arr e xs) = .fro e xs := rfl
end
def frzR (f : Vl → Vl) (s : FS) (t : Nat) : Option (Vl × List Nat) → Option FS
  | some r => some { s with sl := setS s.sl t (f r.1), hp := killHp r.2 s.hp }
  | none => some s
theorem frzR_some {f : Vl → Vl} {s : FS} {t : Nat} {y : Vl} {ks : List Nat} : frzR f s t (some (y, ks)) = some { s with sl := setS s.sl t (f y), hp := killHp ks s.hp } := rfl
theorem frzV_own2 {s : FS} {t id n : Nat} : frzV s t (some (.own id n)) = frzR (fun y => y) s t (reify s.hp (.own id n)) := by
  cases h : reify s.hp (.own id n) with
  | none => simp only [frzV, h, frzR, Vl.frz?, if_true]
  | some r => simp only [frzV, h, frzR, Vl.frz?, if_true]
theorem frzV_agg2 {s : FS} {t : Nat} {cs : List Vl} : frzV s t (some (.agg cs)) = frzR (fun y => y) s t (reify s.hp (.agg cs)) := by
  cases h : reify s.hp (.agg cs) with
  | none => simp only [frzV, h, frzR, Vl.frz?, if_true]
  | some r => simp only [frzV, h, frzR, Vl.frz?, if_true]
theorem frzV_loc2 {s : FS} {t : Nat} {c : Vl} : frzV s t (some (.loc c)) = frzR Vl.loc s t (reify s.hp c) := by
  cases h : reify s.hp c with
  | none => simp only [frzV, h, frzR]
  | some r => simp only [frzV, h, frzR]
attribute [go_sem] run_frz frzR_some frzV_own2 frzV_agg2 frzV_loc2 frzV_lst frzV_nils
attribute [go_sem] ixU rdU wrU rfU kill1 froOb_arr flatL Vl.flat
end Go.Idl
namespace Go.Idl
section
variable {P : Program} {L : List Nat} {d : Option Nat} {ρ : Operand → Arg} {m : Mem}
def makeMapV (k : TK) (m : Mem) : Option (Arg × Mem) := match k with
  | .map (some kk) _ => some (.v (.mp m.nx), { m with hp := upd m.hp m.nx (.map kk []), nx := m.nx + 1 })
  | _ => none
theorem op0_makeMap {t : TypeId} : op0 P L d (.makeMap t none) ρ m = makeMapV (tdOf P t).k m := by
  show evalV P d (.makeMap t none) ρ m = _
  simp only [evalV, makeMapV]
  generalize (tdOf P t).k = k
  cases k <;> try rfl
  rename_i kk ez
  cases kk <;> rfl
theorem makeMapV_eq {kk : KK} {ez : Vl} : makeMapV (.map (some kk) ez) m = some (.v (.mp m.nx), { m with hp := upd m.hp m.nx (.map kk []), nx := m.nx + 1 }) := rfl
def mapEs (kk : KK) (x : Vl) (m : Mem) : Option (List (Vl × Vl)) := match x with
  | .nilm => some []
  | .mp id => match m.hp id with
    | .map kk' es => if kk = kk' then some es else none
    | _ => none
  | _ => none
def lookV (ez i : Vl) (ok : Bool) (es : List (Vl × Vl)) : Vl := match findI i es with
  | some v => if ok then .tup [v, .bool true] else v
  | none => if ok then .tup [ez, .bool false] else ez
def lookupV (k : TK) (x i : Vl) (ok : Bool) (m : Mem) : Option (Arg × Mem) := match k with
  | .map (some kk) ez => if keyOk kk i && !ez.undef? then (mapEs kk x m).map fun es => (.v (lookV ez i ok es), m) else none
  | _ => none
theorem op0_lookup {t : TypeId} {x i : Operand} {ok : Bool} : op0 P L d (.lookup t x i ok) ρ m = lookupV (tdOf P t).k (ρ x).vl (ρ i).vl ok m := by
  show evalV P d (.lookup t x i ok) ρ m = _
  simp only [evalV, lookupV]
  generalize (tdOf P t).k = k
  cases k <;> try rfl
  rename_i kk ez
  cases kk <;> try rfl
  rename_i kk
  simp only [mapEs]
  split
  · congr 1
    funext es
    unfold lookV
    split <;> rename_i h <;> rw [h]
  · rfl
def mapUpdateV (k : TK) (x i y : Vl) (m : Mem) : Option (Arg × Mem) := match k, x with
  | .map (some kk) _, .mp id => match m.hp id with
    | .map kk' es => if keyOk kk i && decide (kk = kk') then some (.v .undef, { m with hp := upd m.hp id (.map kk (setI i y es)) }) else none
    | _ => none
  | _, _ => none
theorem op0_mapUpdate {t : TypeId} {x i y : Operand} : op0 P L d (.mapUpdate t x i y) ρ m = mapUpdateV (tdOf P t).k (ρ x).vl (ρ i).vl (ρ y).vl m := rfl
theorem keyOk_i {k : IntKind} {n : Int} : keyOk (.i k) (.int k n) = true := by simp [keyOk]
theorem keyOk_s {s : ByteArray} : keyOk .s (.str s) = true := rfl
theorem keyOk_b {b : Bool} : keyOk .b (.bool b) = true := rfl
def sliceV (k : TK) (x : Vl) (lo hi mx : Option Vl) (m : Mem) : Option (Arg × Mem) := match k, x with
  | .str, .str s => if mx.isNone then (cutV s.size lo hi).map fun p => (.v (.str (s.extract p.1 p.2)), m) else none
  | .slice esz _ _, x =>
    let c : Option (List Vl) := match x with
      | .nils => some []
      | .lst e xs _ => if e = esz then some xs else none
      | .own id n => match m.hp id with
        | .fro e xs => if xs.length = n ∧ e = esz then some xs else none
        | _ => none
      | _ => none
    if esz = 0 then none else c.bind fun xs =>
    match mx with
    | none => (cutV xs.length lo hi).map fun p => (.v (.lst esz ((xs.take p.2).drop p.1) false), m)
    | some mv => (intOf? mv).bind fun mi => if 0 ≤ mi ∧ mi ≤ xs.length then
        if hi.isSome then (cutV mi.toNat lo hi).map fun p => (.v (.lst esz ((xs.take p.2).drop p.1) (p.2 == mi.toNat)), m) else none
      else none
  | _, _ => none
theorem op0_slice {t : TypeId} {x : Operand} {lo hi mx : Option Operand} (hL : (d.map fun d => L.elem d).getD false = false) : op0 P L d (.slice t x lo hi mx) ρ m = sliceV (tdOf P t).k (ρ x).vl (lo.map fun o => (ρ o).vl) (hi.map fun o => (ρ o).vl) (mx.map fun o => (ρ o).vl) m := by
  show opI P _ _ _ _ m = _
  unfold opI
  simp only
  rw [hL]
  simp only [Bool.false_eq_true, if_false, evalV, sliceV, Option.isNone_map, Option.isSome_map]
  rfl
theorem slice_from {e eb : Nat} {ez : Vl} {xs : List Vl} {x : Bool} {k : IntKind} {l : Int} (he : e ≠ 0) (h0 : 0 ≤ l) (h1 : l ≤ xs.length) : sliceV (.slice e eb ez) (.lst e xs x) (some (.int k l)) none none m = some (.v (.lst e (xs.drop l.toNat) false), m) := by
  simp only [sliceV, he, if_false, if_true, Option.bind_some, cutV, intOf?, h0, h1, and_self, Option.map_some, List.take_length]
theorem slice_to {e eb : Nat} {ez : Vl} {xs : List Vl} {x : Bool} {k : IntKind} {l : Int} (he : e ≠ 0) (h0 : 0 ≤ l) (h1 : l ≤ xs.length) : sliceV (.slice e eb ez) (.lst e xs x) none (some (.int k l)) none m = some (.v (.lst e (xs.take l.toNat) false), m) := by
  simp only [sliceV, he, if_false, if_true, Option.bind_some, cutV, intOf?, h0, h1, and_self, Option.map_some, List.drop_zero]
theorem slice_fromM {α : Type} {f : α → Vl} {e eb : Nat} {ez : Vl} {xs : List α} {x : Bool} {k : IntKind} {l : Int} (he : e ≠ 0) (h0 : 0 ≤ l) (h1 : l ≤ xs.length) : sliceV (.slice e eb ez) (.lst e (xs.map f) x) (some (.int k l)) none none m = some (.v (.lst e ((xs.drop l.toNat).map f) false), m) := by
  rw [slice_from he h0 (by rw [List.length_map]; exact h1), List.map_drop]
theorem slice_toM {α : Type} {f : α → Vl} {e eb : Nat} {ez : Vl} {xs : List α} {x : Bool} {k : IntKind} {l : Int} (he : e ≠ 0) (h0 : 0 ≤ l) (h1 : l ≤ xs.length) : sliceV (.slice e eb ez) (.lst e (xs.map f) x) none (some (.int k l)) none m = some (.v (.lst e ((xs.take l.toNat).map f) false), m) := by
  rw [slice_to he h0 (by rw [List.length_map]; exact h1), List.map_take]
theorem slice_all {e eb : Nat} {ez : Vl} {xs : List Vl} {x : Bool} {k k' : IntKind} {l l' : Int} (he : e ≠ 0) (h1 : l = xs.length) (h2 : l' = xs.length) : sliceV (.slice e eb ez) (.lst e xs x) none (some (.int k l)) (some (.int k' l')) m = some (.v (.lst e xs true), m) := by
  subst h1 h2
  have h0 : (0 : Int) ≤ (xs.length : Int) := by omega
  have h3 : (xs.length : Int).toNat = xs.length := by omega
  simp [sliceV, he, cutV, intOf?, h0, h3]
def nilV (k : TK) (v : Vl) : Option Bool := if kindOf k v then isNil v else none
theorem nil_bin {td : TD} {op : BinOp} {k : TK} {c : Value} {x : Vl} (h : nilOf k c = true) : binOpV td op x (ofConst c) = none := by
  unfold nilOf at h
  split at h <;> first | (cases x <;> rfl) | cases h
theorem op0_neqNil {look : Nat → Arg} {t yt : TypeId} {x : Operand} {c : Value} (h : nilOf (tdOf P t).k c = true) : op0 P L d (.binOp .neq t x (.const c) yt) (rho look) m = (nilV (tdOf P t).k ((rho look) x).vl).map fun b => (.v (.bool !b), m) := by
  show evalV P d (.binOp .neq t x (.const c) yt) (rho look) m = _
  simp only [evalV, nilCmp, nilConst, h, if_true]
  have e : (if kindOf (tdOf P t).k ((rho look) x).vl = true then isNil ((rho look) x).vl else none) = nilV (tdOf P t).k ((rho look) x).vl := rfl
  rw [e]
  cases nilV (tdOf P t).k ((rho look) x).vl with
  | some b => rfl
  | none =>
    have hb : binOpV (tdOf P t) .neq ((rho look) x).vl ((rho look) (.const c)).vl = none := nil_bin h
    simp only [hb, Option.map_none]
theorem op0_eqlNil {look : Nat → Arg} {t yt : TypeId} {x : Operand} {c : Value} (h : nilOf (tdOf P t).k c = true) : op0 P L d (.binOp .eql t x (.const c) yt) (rho look) m = (nilV (tdOf P t).k ((rho look) x).vl).map fun b => (.v (.bool b), m) := by
  show evalV P d (.binOp .eql t x (.const c) yt) (rho look) m = _
  simp only [evalV, nilCmp, nilConst, h, if_true]
  have e : (if kindOf (tdOf P t).k ((rho look) x).vl = true then isNil ((rho look) x).vl else none) = nilV (tdOf P t).k ((rho look) x).vl := rfl
  rw [e]
  cases nilV (tdOf P t).k ((rho look) x).vl with
  | some b => rfl
  | none =>
    have hb : binOpV (tdOf P t) .eql ((rho look) x).vl ((rho look) (.const c)).vl = none := nil_bin h
    simp only [hb, Option.map_none]
theorem nilV_nils {e eb : Nat} {ez : Vl} : nilV (.slice e eb ez) .nils = some true := rfl
def ownV (s : FS) (t e : Nat) : Option Vl → Option FS
  | some .nils => if 0 < e then some { sl := setS s.sl t (.own s.nx 0), hp := upd s.hp s.nx (.arr e []), nx := s.nx + 1 } else none
  | _ => none
theorem run_own {s : FS} {t e : Nat} : (Gho.own t e).run s = ownV s t e (s.sl.lookup t) := by
  unfold Gho.run ownV
  rfl
theorem ownV_nils {s : FS} {t e : Nat} (he : 0 < e) : ownV s t e (some .nils) = some { sl := setS s.sl t (.own s.nx 0), hp := upd s.hp s.nx (.arr e []), nx := s.nx + 1 } := by
  simp only [ownV, if_pos he]
theorem killHp_one {hp : Nat → Ob} {i : Nat} : killHp [i] hp = upd hp i (froOb (hp i)) := rfl
def cutQ (J : FS → Prop) (Q : XE → FS → Prop) (x : XE) (s : FS) : Prop := match x with
  | .normal => J s
  | x => Q x s
theorem cutQ_normal {J : FS → Prop} {Q : XE → FS → Prop} {s : FS} : cutQ J Q .normal s = J s := rfl
theorem cutQ_ret {J : FS → Prop} {Q : XE → FS → Prop} {s : FS} : cutQ J Q .ret s = Q .ret s := rfl
theorem cutQ_exit {J : FS → Prop} {Q : XE → FS → Prop} {s : FS} {i : Nat} : cutQ J Q (.exit i) s = Q (.exit i) s := rfl
theorem wantV_tup {l : List Vl} {w : Bool} : wantV (.v (.tup l)) w = some false := rfl
end
attribute [go_sem] wantV_tup wantV_b wantV_IV Bool.not_eq_false'
attribute [go_sem ↓] cutQ_normal cutQ_ret cutQ_exit op0_neqNil op0_eqlNil
attribute [go_sem high] slice_fromM slice_toM
attribute [go_sem] run_own ownV_nils nilV_nils nilOf
attribute [go_sem] op0_makeMap makeMapV_eq op0_lookup op0_mapUpdate keyOk_i keyOk_s keyOk_b op0_slice slice_from slice_to slice_all lookupV mapEs mapUpdateV Option.isNone_none
end Go.Idl
