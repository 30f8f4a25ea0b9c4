/- What functions of the given program do in the ideal machine (G3, G4, G4b, G5, G6, G7), and the plain laws of what they answer; the conditions stand in each theorem. -/
import Derived.Test.YtencmmlmeifffaaGa
import Derived.Test.YtencmmlmeifffaaEg
import Derived.Test.YtencmmlmeifffaaIe
import Derived.Test.YtencmmlmeifffaaEf
set_option linter.all false
set_option linter.unusedSectionVars false
set_option linter.unusedSimpArgs false
set_option linter.unusedVariables false
namespace Go.Proofs
open Go Go.Idl
set_option linter.unusedSimpArgs false
variable {b : Bool}
def idx (r : Roll) (a : Int) (n : Nat) : List Nat := (List.range n).filter fun i => !r.cs[i]!.kin && decide (r.cs[i]!.man = a)
theorem idx_succ {r : Roll} {a : Int} {n : Nat} : idx r a (n + 1) = idx r a n ++ (if r.cs[n]!.kin = false ∧ r.cs[n]!.man = a then [n] else []) := by
  unfold idx
  rw [List.range_succ, List.filter_append]
  congr 1
  by_cases h1 : r.cs[n]!.kin <;> by_cases h2 : r.cs[n]!.man = a <;> simp [h1, h2, List.filter_cons]
theorem idx_lt {r : Roll} {a : Int} {n i : Nat} (h : i ∈ idx r a n) : i < n ∧ r.cs[i]!.kin = false ∧ r.cs[i]!.man = a := by
  unfold idx at h
  simpa using h
theorem idx_len {r : Roll} {a : Int} {n : Nat} : (idx r a n).length ≤ n := by
  have := List.length_filter_le (fun i => !r.cs[i]!.kin && decide (r.cs[i]!.man = a)) (List.range n)
  simpa [idx] using this
@[reducible] def IN (i : Nat) : Vl := I i
structure MapSt (r : Roll) (n : Nat) (hp : Nat → Ob) (nx : Nat) (es : List (Vl × Vl)) (f : Int → Option Nat) : Prop where
  hp0 : hp 0 = .map (.i .i64) es
  nx1 : 1 ≤ nx
  look : ∀ a : Int, findI (I a) es = (f a).map fun id => .own id (idx r a n).length
  no : ∀ a, f a = none → idx r a n = []
  arr : ∀ a id, f a = some id → 1 ≤ id ∧ id < nx ∧ hp id = .arr 1 ((idx r a n).map IN)
  inj : ∀ a a' id, f a = some id → f a' = some id → a = a'
theorem findI_setI {a c : Int} {v : Vl} : ∀ {es : List (Vl × Vl)}, findI (I a) (setI (I c) v es) = if a = c then some v else findI (I a) es
  | [] => by
    show (if eqKey (I a) (I c) then some v else none) = _
    simp [eqKey, findI]
  | (k, w) :: es => by
    simp only [setI]
    by_cases h : eqKey (I c) k = true
    · rw [if_pos h]
      cases k <;> simp only [eqKey, Bool.false_eq_true] at h
      rename_i kk n
      simp only [findI, eqKey, beq_iff_eq] at h ⊢
      subst h
      by_cases e : a = c <;> simp [e]
    · rw [if_neg h]
      simp only [findI]
      by_cases e : eqKey (I a) k = true
      · rw [if_pos e]
        have : a ≠ c := fun hac => h (by rw [← hac]; exact e)
        rw [if_neg this, if_pos e]
      · rw [if_neg e, findI_setI (es := es), if_neg e]
theorem ap32m {m : Mem} {x : Vl} {o : Bool} : isAppend Try.prog 32 32 .nils (.lst 1 [x] o) m = some (.own m.nx 1, { m with hp := upd m.hp m.nx (.arr 1 [x]), nx := m.nx + 1 }) := app1_nils (by rw [td32]) rfl
theorem ap32w {m : Mem} {id n : Nat} {xs : List Vl} {x : Vl} {o : Bool} (ho : m.hp id = .arr 1 xs) (hn : xs.length = n) (hs : n < 100000) : isAppend Try.prog 32 32 (.own id n) (.lst 1 [x] o) m = some (.own id (n + 1), { m with hp := upd m.hp id (.arr 1 (xs ++ [x])) }) :=
  app1_own (by rw [td32]) ho hn (grow_ok rfl rfl (by decide) (by decide) (by omega))
def rowP (l : List Nat) (a : Nat) : List (Nat × Nat) := (l.drop (a + 1)).map fun k => (l[a]!, k)
def pairsTo (l : List Nat) (n : Nat) : List (Nat × Nat) := ((List.range n).map (rowP l)).flatten
def waysOf (r : Roll) (ps : List (Nat × Nat)) : List (List (List Rule)) := ps.filterMap fun p => pairF r.os r.fs r.cs[p.1]! r.cs[p.2]! p.1 p.2
def manWays (r : Roll) (a : Nat) : List (List (List Rule)) := waysOf r (pairsTo (idx r a r.cs.length) (idx r a r.cs.length).length)
def choicesTo (r : Roll) (m : Nat) : List (List (List Rule)) := ((List.range m).map (manWays r)).flatten
def choicesF (r : Roll) : List (List (List Rule)) := choicesTo r r.ms.length
theorem pairsTo_succ {l : List Nat} {n : Nat} : pairsTo l (n + 1) = pairsTo l n ++ rowP l n := by simp [pairsTo, List.range_succ]
theorem choicesTo_succ {r : Roll} {n : Nat} : choicesTo r (n + 1) = choicesTo r n ++ manWays r n := by simp [choicesTo, List.range_succ]
theorem waysOf_append {r : Roll} {p q : List (Nat × Nat)} : waysOf r (p ++ q) = waysOf r p ++ waysOf r q := by simp [waysOf]
def encWO (p : List (List Rule) × Bool) : Vl := .lst 1 (p.1.map encAlt) p.2
theorem clAlt (x : List Rule) : (encAlt x).closed = true := closedL_map clR x
theorem clWO (p : List (List Rule) × Bool) : (encWO p).closed = true := closedL_map clAlt p.1
theorem pairF_ne {os : List Office} {fs : List (List Bool)} {a c : Rec} {i k : Nat} {l : List (List Rule)} (h : pairF os fs a c i k = some l) : l ≠ [] := by
  unfold pairF at h
  split at h
  · cases h; simp [apart]
  · split at h
    · split at h
      · cases h; simp [apart]
      · cases h
    · simp only at h
      split at h <;> (cases h; simp)
theorem ap123w {m : Mem} {id n : Nat} {xs : List Vl} {x : Vl} {o : Bool} (ho : m.hp id = .arr 1 xs) (hn : xs.length = n) (hs : n < 100000) : isAppend Try.prog 123 123 (.own id n) (.lst 1 [x] o) m = some (.own id (n + 1), { m with hp := upd m.hp id (.arr 1 (xs ++ [x])) }) :=
  app1_own (by rw [td123]) ho hn (grow_ok rfl rfl (by decide) (by decide) (by omega))
set_option maxRecDepth 10000 in
set_option maxHeartbeats 4000000 in
theorem choices_to {r : Roll} {o1 o2 o3 o4 : Option Bool} (hv : Val r) :
    Ans Try.prog (AA b) 81 [encRoll o1 o2 o3 o4 r] (fun v => ∃ wos : List (List (List Rule) × Bool), wos.map (·.1) = choicesF r ∧ v = .lst 1 (wos.map encWO) false) := by
  refine Ans_of Try.func81 rfl rfl ?_
  have hcl := hv.cs_l
  simp +contextual (maxSteps := 1000000) (disch := first | omega | (with_reducible first | refine krN ?_ | refine krS ?_ | refine krP ?_ | refine krG ?_); kernel_rfl | refine kr ?_; simp only [go_sem, seval, -List.reduceReplicate]; done | fail) only [go_sem, seval, -List.reduceReplicate]
  refine wp_loop_to r.cs.length (fun n st => ∃ hp nx es f ex, MapSt r n hp nx es f ∧ st = ({ sl := (1, .loc (encRoll o1 o2 o3 o4 r)) :: (3, .mp 0) :: (16, SL 7 (r.cs.map encC) o4) :: (17, I r.cs.length) :: (18, I n) :: ex, hp := hp, nx := nx } : FS)) ?_ 0 (Nat.zero_le _)
    ⟨_, _, [], fun _ => none, _, ⟨rfl, by decide, fun _ => rfl, fun _ _ => rfl, fun _ _ h => (by cases h), fun _ _ _ h => (by cases h)⟩, rfl⟩
  rintro n st hn ⟨hp, nx, es, f, ex, hS, rfl⟩
  have hn1 := hS.nx1
  by_cases hc : n < r.cs.length
  · cases hk : r.cs[n]!.kin with
    | true =>
      simp +contextual (maxSteps := 1000000) (disch := first | omega | (with_reducible first | refine krN ?_ | refine krS ?_ | refine krP ?_ | refine krG ?_); kernel_rfl | refine kr ?_; simp only [go_sem, seval, -List.reduceReplicate, encC, ix_map, Int.ofNat_lt, hc, hk]; done | fail) only [go_sem, seval, -List.reduceReplicate, encC, ix_map, Int.ofNat_lt, hc, hk]
      refine ⟨_, _, es, f, _, ⟨hS.hp0, hS.nx1, fun a => ?_, fun a h => ?_, fun a id h => ?_, hS.inj⟩, rfl⟩
      · rw [hS.look a, idx_succ, if_neg (fun h' => by rw [hk] at h'; cases h'.1), List.append_nil]
      · rw [idx_succ, if_neg (fun h' => by rw [hk] at h'; cases h'.1), List.append_nil]; exact hS.no a h
      · rw [idx_succ, if_neg (fun h' => by rw [hk] at h'; cases h'.1), List.append_nil]; exact hS.arr a id h
    | false =>
      cases hf : f r.cs[n]!.man with
      | none =>
        have hl : lookV .nils (I r.cs[n]!.man) false es = .nils := by unfold lookV; rw [hS.look, hf]; rfl
        have h0 := hS.hp0
        simp +contextual (maxSteps := 1000000) (disch := first | omega | (with_reducible first | refine krN ?_ | refine krS ?_ | refine krP ?_ | refine krG ?_); kernel_rfl | refine kr ?_; simp only [go_sem, seval, -List.reduceReplicate, encC, ix_map, Int.ofNat_lt, hc, hk, hl, h0, ap32m]; done | fail) only [go_sem, seval, -List.reduceReplicate, encC, ix_map, Int.ofNat_lt, hc, hk, hl, h0, ap32m]
        refine ⟨_, _, setI (I r.cs[n]!.man) (.own nx 1) es, fun a => if a = r.cs[n]!.man then some nx else f a, _, ⟨upd_same _ _ _, by omega, fun a => ?_, fun a h => ?_, fun a id h => ?_, fun a a' id h h' => ?_⟩, rfl⟩
        · rw [findI_setI]
          by_cases e : a = r.cs[n]!.man
          · rw [if_pos e, if_pos e, idx_succ, if_pos ⟨hk, e.symm⟩, e, hS.no _ hf]; rfl
          · rw [if_neg e, if_neg e, idx_succ, if_neg (fun h => e h.2.symm), List.append_nil]; exact hS.look a
        · by_cases e : a = r.cs[n]!.man
          · rw [if_pos e] at h; cases h
          · rw [if_neg e] at h
            rw [idx_succ, if_neg (fun h => e h.2.symm), List.append_nil]; exact hS.no a h
        · by_cases e : a = r.cs[n]!.man
          · rw [if_pos e] at h; cases h
            refine ⟨hn1, by omega, ?_⟩
            rw [upd_ne _ _ (by omega), upd_same, idx_succ, if_pos ⟨hk, e.symm⟩, e, hS.no _ hf]; rfl
          · rw [if_neg e] at h
            obtain ⟨q1, q2, q3⟩ := hS.arr a id h
            refine ⟨q1, by omega, ?_⟩
            rw [upd_ne _ _ (by omega), upd_ne _ _ (by omega), idx_succ, if_neg (fun h => e h.2.symm), List.append_nil]; exact q3
        · by_cases e : a = r.cs[n]!.man <;> by_cases e' : a' = r.cs[n]!.man
          · rw [e, e']
          · rw [if_pos e] at h; rw [if_neg e'] at h'; cases h
            have := (hS.arr _ _ h').2.1; omega
          · rw [if_neg e] at h; rw [if_pos e'] at h'; cases h'
            have := (hS.arr _ _ h).2.1; omega
          · rw [if_neg e] at h; rw [if_neg e'] at h'; exact hS.inj a a' id h h'
      | some id =>
        have hl : lookV .nils (I r.cs[n]!.man) false es = .own id (idx r r.cs[n]!.man n).length := by unfold lookV; rw [hS.look, hf]; rfl
        have h0 := hS.hp0
        obtain ⟨q1, q2, q3⟩ := hS.arr _ _ hf
        have hil := @idx_len r r.cs[n]!.man n
        have hap : ∀ (x : Vl) (t : Bool), isAppend Try.prog 32 32 (.own id (idx r r.cs[n]!.man n).length) (.lst 1 [x] t) { lc := [], hp := hp, nx := nx } = some (.own id ((idx r r.cs[n]!.man n).length + 1), { lc := [], hp := upd hp id (.arr 1 ((idx r r.cs[n]!.man n).map IN ++ [x])), nx := nx }) := fun x t => ap32w q3 (by simp) (by omega)
        simp +contextual (maxSteps := 1000000) (disch := first | omega | (with_reducible first | refine krN ?_ | refine krS ?_ | refine krP ?_ | refine krG ?_); kernel_rfl | refine kr ?_; simp only [go_sem, seval, -List.reduceReplicate, encC, ix_map, Int.ofNat_lt, hc, hk, hl, h0, hap]; done | fail) only [go_sem, seval, -List.reduceReplicate, encC, ix_map, Int.ofNat_lt, hc, hk, hl, h0, hap]
        refine ⟨_, _, setI (I r.cs[n]!.man) (.own id ((idx r r.cs[n]!.man n).length + 1)) es, f, _, ⟨upd_same _ _ _, hn1, fun a => ?_, fun a h => ?_, fun a id' h => ?_, hS.inj⟩, rfl⟩
        · rw [findI_setI]
          by_cases e : a = r.cs[n]!.man
          · rw [if_pos e, idx_succ, if_pos ⟨hk, e.symm⟩, e, hf, List.length_append]; rfl
          · rw [if_neg e, idx_succ, if_neg (fun h => e h.2.symm), List.append_nil]; exact hS.look a
        · have e : a ≠ r.cs[n]!.man := fun e => by rw [e, hf] at h; cases h
          rw [idx_succ, if_neg (fun h => e h.2.symm), List.append_nil]; exact hS.no a h
        · by_cases e : a = r.cs[n]!.man
          · rw [e, hf] at h; cases h
            refine ⟨q1, q2, ?_⟩
            rw [upd_ne _ _ (by omega), upd_same, idx_succ, if_pos ⟨hk, e.symm⟩, e, List.map_append]; rfl
          · obtain ⟨p1, p2, p3⟩ := hS.arr a id' h
            have hne : id' ≠ id := fun x => e (hS.inj _ _ id' h (by rw [x]; exact hf))
            refine ⟨p1, p2, ?_⟩
            rw [upd_ne _ _ (by omega), upd_ne _ _ hne, idx_succ, if_neg (fun h => e h.2.symm), List.append_nil]; exact p3
  · have hne : n = r.cs.length := by omega
    subst hne
    simp +contextual (maxSteps := 1000000) (disch := first | omega | (with_reducible first | refine krN ?_ | refine krS ?_ | refine krP ?_ | refine krG ?_); kernel_rfl | refine kr ?_; simp only [go_sem, seval, -List.reduceReplicate, Int.lt_irrefl]; done | fail) only [go_sem, seval, -List.reduceReplicate, Int.lt_irrefl]
    have hml := hv.ms_l
    refine wp_loop_to r.ms.length (fun a st => ∃ (hp' : Nat → Ob) (wos : List (List (List Rule) × Bool)) (w : Nat) (ex : List (Nat × Vl)), wos.length = w ∧ w ≤ 100 * a ∧ wos.map (·.1) = choicesTo r a ∧ hp' nx = .arr 1 (wos.map encWO) ∧ hp' 0 = .map (.i .i64) es ∧ (∀ a' id : Nat, a ≤ a' → f a' = some id → hp' id = .arr 1 ((idx r a' r.cs.length).map IN)) ∧
        st = ({ sl := (1, .loc (encRoll o1 o2 o3 o4 r)) :: (3, .mp 0) :: (6, .own nx w) :: (39, I r.ms.length) :: (40, I a) :: ex, hp := hp', nx := nx + 1 } : FS)) ?_ 0 (Nat.zero_le _)
      ⟨_, [], 0, _, rfl, by omega, rfl, upd_same _ _ _, by rw [upd_ne _ _ (by omega)]; exact hS.hp0, fun a' id _ h => by rw [upd_ne _ _ (by have := hS.arr _ _ h; omega)]; exact (hS.arr _ _ h).2.2, rfl⟩
    rintro a st ha ⟨hp', wos, w, ex, hw, hwb, hwc, hp1, hp2, hp3, rfl⟩
    by_cases hc : a < r.ms.length
    · cases hf : f a with
      | none =>
        have hl : lookV .nils (I a) false es = .nils := by unfold lookV; rw [hS.look, hf]; rfl
        simp +contextual (maxSteps := 1000000) (disch := first | omega | (with_reducible first | refine krN ?_ | refine krS ?_ | refine krP ?_ | refine krG ?_); kernel_rfl | refine kr ?_; simp only [go_sem, seval, -List.reduceReplicate, Int.ofNat_lt, hc, hl, hp2]; done | fail) only [go_sem, seval, -List.reduceReplicate, Int.ofNat_lt, hc, hl, hp2]
        have hi0 := hS.no _ hf
        refine wp_loop_to 0 (fun i st => i = 0 ∧ st = _) ?_ 0 (Nat.le_refl _) ⟨rfl, rfl⟩
        rintro i st _ ⟨_, rfl⟩
        simp +contextual (maxSteps := 1000000) (disch := first | omega | (with_reducible first | refine krN ?_ | refine krS ?_ | refine krP ?_ | refine krG ?_); kernel_rfl | refine kr ?_; simp only [go_sem, seval, -List.reduceReplicate, Int.ofNat_lt, hc]; done | fail) only [go_sem, seval, -List.reduceReplicate, Int.ofNat_lt, hc]
        refine ⟨_, wos, w, _, hw, by omega, ?_, hp1, hp2, fun a' id h => hp3 a' id (by omega), rfl⟩
        rw [choicesTo_succ, hwc, manWays, hi0]; simp [pairsTo, waysOf]
      | some id =>
        have hl : lookV .nils (I a) false es = .own id (idx r a r.cs.length).length := by unfold lookV; rw [hS.look, hf]; rfl
        have ha3 := hp3 a id (Nat.le_refl _) hf
        have hrf : reify hp' (.own id (idx r a r.cs.length).length) = some (.lst 1 ((idx r a r.cs.length).map IN) false, [id]) := reify_flat (.inl ha3) rfl fun _ => rfl
        simp +contextual (maxSteps := 1000000) (disch := first | omega | (with_reducible first | refine krN ?_ | refine krS ?_ | refine krP ?_ | refine krG ?_); kernel_rfl | refine kr ?_; simp only [go_sem, seval, -List.reduceReplicate, Int.ofNat_lt, hc, hl, hp2, hrf, killHp_one, ha3]; done | fail) only [go_sem, seval, -List.reduceReplicate, Int.ofNat_lt, hc, hl, hp2, hrf, killHp_one, ha3]
        have hid := hS.arr _ _ hf
        have hl1 : ∀ x ∈ idx r a r.cs.length, x < r.cs.length ∧ r.cs[x]!.kin = false := fun x hx => ⟨(idx_lt hx).1, (idx_lt hx).2.1⟩
        have hl2 : (idx r a r.cs.length).length ≤ 8 := by have := @idx_len r a r.cs.length; omega
        have hmw : manWays r a = waysOf r (pairsTo (idx r a r.cs.length) (idx r a r.cs.length).length) := rfl
        generalize hhF : upd hp' id (Ob.fro 1 ((idx r a r.cs.length).map IN)) = hpF
        have hF1 : hpF nx = .arr 1 (wos.map encWO) := by rw [← hhF, upd_ne _ _ (by omega)]; exact hp1
        have hF2 : hpF 0 = .map (.i .i64) es := by rw [← hhF, upd_ne _ _ (by omega)]; exact hp2
        have hF3 : ∀ a' id : Nat, a + 1 ≤ a' → f a' = some id → id ≠ nx ∧ hpF id = .arr 1 ((idx r a' r.cs.length).map IN) := fun a' id' h1 h2 => by
          have h3 := hS.arr _ _ h2
          refine ⟨by omega, ?_⟩
          rw [← hhF, upd_ne _ _ (fun e => by subst e; have := hS.inj _ _ _ h2 hf; omega)]; exact hp3 a' id' (by omega) h2
        rw [← upd_self hF1]
        generalize idx r a r.cs.length = l at hl1 hl2 hmw
        clear hhF hrf ha3 hl hp1 hp2 hp3 hF1
        refine wp_loop_to l.length (fun n st => ∃ (wos : List (List (List Rule) × Bool)) (w : Nat) (ex : List (Nat × Vl)), wos.length = w ∧ w ≤ 100 * a + 10 * n ∧ wos.map (·.1) = choicesTo r a ++ waysOf r (pairsTo l n) ∧
            st = ({ sl := (1, .loc (encRoll o1 o2 o3 o4 r)) :: (3, .mp 0) :: (6, .own nx w) :: (8, .lst 1 (l.map IN) false) :: (39, I r.ms.length) :: (40, I a) :: (46, .lst 1 (l.map IN) false) :: (47, I l.length) :: (48, I n) :: ex, hp := upd hpF nx (.arr 1 (wos.map encWO)), nx := nx + 1 } : FS)) ?_ 0 (Nat.zero_le _)
          ⟨wos, w, _, hw, by omega, by rw [hwc]; simp [pairsTo, waysOf], rfl⟩
        clear hw hwb hwc wos w ex
        rintro n st hnl ⟨wos, w, ex, hw, hwb, hwc, rfl⟩
        by_cases hc2 : n < l.length
        · simp +contextual (maxSteps := 1000000) (disch := first | omega | (with_reducible first | refine krN ?_ | refine krS ?_ | refine krP ?_ | refine krG ?_); kernel_rfl | refine kr ?_; simp only [go_sem, seval, -List.reduceReplicate, Int.ofNat_lt, hc2, ix_lst, IN]; done | fail) only [go_sem, seval, -List.reduceReplicate, Int.ofNat_lt, hc2, ix_lst, IN]
          have hdl : (l.drop (n + 1)).length ≤ 8 := by rw [List.length_drop]; omega
          have hrp : rowP l n = (l.drop (n + 1)).map fun k => (l[n]!, k) := rfl
          have hln := hl1 _ (get!_mem hc2)
          have hd1 : ∀ x ∈ l.drop (n + 1), x < r.cs.length ∧ r.cs[x]!.kin = false := fun x hx => hl1 x (List.mem_of_mem_drop hx)
          generalize l.drop (n + 1) = D at hdl hrp hd1
          have hD9 : D.length ≤ 8 := hdl
          refine wp_loop_to D.length (fun j st => ∃ (wos : List (List (List Rule) × Bool)) (w : Nat) (ex : List (Nat × Vl)), wos.length = w ∧ w ≤ 100 * a + 10 * n + j ∧ wos.map (·.1) = choicesTo r a ++ waysOf r (pairsTo l n) ++ waysOf r ((D.take j).map fun k => (l[n]!, k)) ∧
              st = ({ sl := (1, .loc (encRoll o1 o2 o3 o4 r)) :: (3, .mp 0) :: (6, .own nx w) :: (8, .lst 1 (l.map IN) false) :: (10, I l[n]!) :: (39, I r.ms.length) :: (40, I a) :: (46, .lst 1 (l.map IN) false) :: (47, I l.length) :: (48, I n) :: (56, .lst 1 (D.map IN) false) :: (57, I D.length) :: (58, I j) :: ex, hp := upd hpF nx (.arr 1 (wos.map encWO)), nx := nx + 1 } : FS)) ?_ 0 (Nat.zero_le _)
            ⟨wos, w, _, hw, by omega, by rw [hwc]; simp [waysOf], rfl⟩
          clear hw hwb hwc wos w ex
          rintro j st hjl ⟨wos, w, ex, hw, hwb, hwc, rfl⟩
          by_cases hc3 : j < D.length
          · have hDj := hd1 _ (get!_mem hc3)
            have htk : ((D.take (j + 1)).map fun k => (l[n]!, k)) = ((D.take j).map fun k => (l[n]!, k)) ++ [(l[n]!, D[j]!)] := by rw [take_snoc hc3, List.map_append]; rfl
            simp +contextual (maxSteps := 1000000) (disch := first | omega | (with_reducible first | refine krN ?_ | refine krS ?_ | refine krP ?_ | refine krG ?_); kernel_rfl | refine kr ?_; simp only [go_sem, seval, -List.reduceReplicate, Int.ofNat_lt, hc3, ix_lst, IN]; done | fail) only [go_sem, seval, -List.reduceReplicate, Int.ofNat_lt, hc3, ix_lst, IN]
            refine wc_ans (by simp only [mkAnn, K99]) (rfAs (xs := [encRoll o1 o2 o3 o4 r, I l[n]!, I D[j]!]) (by simp only [closedL, clRoll, clI, Bool.and_self])) (pair_to (b := b) (cs := r.cs) (a := r.cs[l[n]!]!) (c := r.cs[D[j]!]!) hv.fs_ok (by rw [get!_eq hln.1]; exact List.getElem?_eq_getElem hln.1) (by rw [get!_eq hDj.1]; exact List.getElem?_eq_getElem hDj.1) hcl hln.2 hDj.2 (fun d hd hk => ?_) ⟨SL_cells, SL_undef⟩) ?_
            · have := (hv.cs_ok d hd).2.2.2 hk
              exact ⟨this.1, this.2.1, this.2.2.1, this.2.2.2.1⟩
            · intro v hpv
              have hwn : waysOf r [(l[n]!, D[j]!)] = (pairF r.os r.fs r.cs[l[n]!]! r.cs[D[j]!]! l[n]! D[j]!).toList := by
                unfold waysOf
                cases h : pairF r.os r.fs r.cs[l[n]!]! r.cs[D[j]!]! l[n]! D[j]! <;> simp only [List.filterMap_cons, List.filterMap_nil, h] <;> rfl
              cases hpf : pairF r.os r.fs r.cs[l[n]!]! r.cs[D[j]!]! l[n]! D[j]! with
              | none =>
                rw [hpf] at hpv hwn
                cases hpv
                refine ⟨rfl, ?_⟩
                simp +contextual (maxSteps := 1000000) (disch := first | omega | (with_reducible first | refine krN ?_ | refine krS ?_ | refine krP ?_ | refine krG ?_); kernel_rfl | refine kr ?_; simp only [go_sem, seval, -List.reduceReplicate, hc3]; done | fail) only [go_sem, seval, -List.reduceReplicate, hc3]
                refine ⟨wos, w, _, hw, by omega, ?_, rfl⟩
                rw [htk, waysOf_append, hwc, hwn]; simp
              | some ws =>
                rw [hpf] at hpv hwn
                obtain ⟨o, rfl⟩ := hpv
                refine ⟨closedL_map clAlt ws, ?_⟩
                have hne : ws.map encAlt ≠ [] := by simpa using pairF_ne hpf
                have hap : ∀ t : Bool, isAppend Try.prog 123 123 (.own nx w) (.lst 1 [.lst 1 (ws.map encAlt) o] t) { lc := [], hp := upd hpF nx (.arr 1 (wos.map encWO)), nx := nx + 1 } = some (.own nx (w + 1), { lc := [], hp := upd hpF nx (.arr 1 (wos.map encWO ++ [.lst 1 (ws.map encAlt) o])), nx := nx + 1 }) := fun t => by
                  rw [ap123w (upd_same _ _ _) (by simp [hw]) (by omega)]; simp only [upd_upd]
                simp +contextual (maxSteps := 1000000) (disch := first | omega | (with_reducible first | refine krN ?_ | refine krS ?_ | refine krP ?_ | refine krG ?_); kernel_rfl | refine kr ?_; simp only [go_sem, seval, -List.reduceReplicate, hc3, hne, nilV_lst, hap]; done | fail) only [go_sem, seval, -List.reduceReplicate, hc3, hne, nilV_lst, hap]
                refine ⟨wos ++ [(ws, o)], w + 1, _, by simp [hw], by omega, ?_, by rw [List.map_append]; rfl⟩
                rw [htk, waysOf_append, List.map_append, hwc, hwn]; simp
          · have hje : j = D.length := by omega
            subst hje
            simp +contextual (maxSteps := 1000000) (disch := first | omega | (with_reducible first | refine krN ?_ | refine krS ?_ | refine krP ?_ | refine krG ?_); kernel_rfl | refine kr ?_; simp only [go_sem, seval, -List.reduceReplicate, Int.lt_irrefl]; done | fail) only [go_sem, seval, -List.reduceReplicate, Int.lt_irrefl]
            refine ⟨wos, w, _, hw, by omega, ?_, rfl⟩
            rw [hwc, pairsTo_succ, waysOf_append, hrp, List.take_length, List.append_assoc]
        · have hne : n = l.length := by omega
          subst hne
          simp +contextual (maxSteps := 1000000) (disch := first | omega | (with_reducible first | refine krN ?_ | refine krS ?_ | refine krP ?_ | refine krG ?_); kernel_rfl | refine kr ?_; simp only [go_sem, seval, -List.reduceReplicate, Int.lt_irrefl]; done | fail) only [go_sem, seval, -List.reduceReplicate, Int.lt_irrefl]
          refine ⟨_, wos, w, _, hw, by omega, ?_, upd_same _ _ _, by rw [upd_ne _ _ (by omega)]; exact hF2, fun a' id h1 h2 => ?_, rfl⟩
          · rw [choicesTo_succ, hwc, hmw]
          · obtain ⟨h3, h4⟩ := hF3 a' id h1 h2
            rw [upd_ne _ _ h3]; exact h4
    · have hae : a = r.ms.length := by omega
      subst hae
      simp +contextual (maxSteps := 1000000) (disch := first | omega | (with_reducible first | refine krN ?_ | refine krS ?_ | refine krP ?_ | refine krG ?_); kernel_rfl | refine kr ?_; simp only [go_sem, seval, -List.reduceReplicate, Int.lt_irrefl]; done | fail) only [go_sem, seval, -List.reduceReplicate, Int.lt_irrefl]
      exact OB_intro (reify_flat (.inl hp1) hw fun x => reify_closedV _ (clWO x)) ⟨wos, hwc, rfl⟩
end Go.Proofs
namespace Go.Proofs
open Go Go.Idl
set_option linter.unusedSimpArgs false
variable {b : Bool}
abbrev Kn := List (Int × Int)
def hullTo (f k : Kn) : Nat → Kn
  | 0 => f
  | i + 1 => (hullTo f k i).set i (min (f.getD i (0, 0)).1 (k.getD i (0, 0)).1, max (f.getD i (0, 0)).2 (k.getD i (0, 0)).2)
theorem hullTo_len {f k : Kn} {i : Nat} : (hullTo f k i).length = f.length := by
  induction i with
  | zero => rfl
  | succ i ih => rw [hullTo, List.length_set, ih]
theorem hullTo_ge {f k : Kn} {i j : Nat} (h : i ≤ j) : (hullTo f k i).getD j (0, 0) = f.getD j (0, 0) := by
  induction i with
  | zero => rfl
  | succ i ih =>
    rw [hullTo, List.getD_eq_getElem?_getD, List.getElem?_set_ne (by omega), ← List.getD_eq_getElem?_getD]
    exact ih (by omega)
open Classical in
noncomputable def searchF (enough : Bool) : List (List (List Rule)) → Kn → List Rule → Kn × Bool → Kn × Bool
  | [], k, l, st =>
    if (nar k l).2 = false ∨ (st.2 = true ∧ (enough = true ∨ Within (nar k l).1 st.1)) then st
    else (hullTo (if st.2 = true then st.1 else (nar k l).1) (nar k l).1 20, true)
  | w :: rest, k, l, st =>
    if (nar k l).2 = false ∨ (st.2 = true ∧ (enough = true ∨ Within (nar k l).1 st.1)) then st
    else w.foldl (fun st alt => searchF enough rest (nar k l).1 (l ++ alt) st) st
@[reducible] def caps : List Vl := [.bp 3 0, .bp 0 0, .bp 1 0, .bp 2 0, .bp 4 0]
structure SH (hp : Nat → Ob) (nx : Nat) (enough : Bool) (wos : List (List (List Rule) × Bool)) (f : Kn) (sm : Bool) : Prop where
  nx : 5 ≤ nx
  h0 : hp 0 = .box (.bool enough)
  h1 : hp 1 = .box (.agg (kc f))
  h2 : hp 2 = .box (.lst 1 (wos.map encWO) false)
  h3 : hp 3 = .box (.bool sm)
  h4 : hp 4 = .box (.fn (.func 82) [] caps)
section
variable {m : Mem} {K : Vl → Mem → Prop}
theorem wc83 {k : Kn} {rs : List Rule} {o : Bool} (hk : InB k) (hr : ∀ r ∈ rs, RB r) (hl : rs.length ≤ 1000000) : WC Try.prog (AA b) (.fn (.func 83) [] []) [.v (.agg (kc k)), .v (.lst 3 (rs.map encR) o)] m K = K (.tup [.agg (kc (nar k rs).1), .bool (nar k rs).2]) m :=
  WC_flat (by simp only [mkAnn, K83]) (rfAs (xs := [.agg (kc k), .lst 3 (rs.map encR) o]) (by simp only [closedL, Vl.closed, closedL_kc, closedL_map clR, Bool.and_self])) (narrowed_to (o := some o) hk hr hl) (by simp only [Vl.flat, flatL, flatL_kc, Bool.and_self])
theorem wc84 {k f : Kn} (hk : k.length = 20) (hf : f.length = 20) : WC Try.prog (AA b) (.fn (.func 84) [] []) [.v (.agg (kc k)), .v (.agg (kc f))] m K = K (.bool (D (Within k f))) m :=
  WC_flat (by simp only [mkAnn, K84]) (rfAs (xs := [.agg (kc k), .agg (kc f)]) (by simp only [closedL, Vl.closed, closedL_kc, Bool.and_self])) ((within_to hk hf).mono fun v ⟨t, h1, h2⟩ => by
    rw [h1]; congr 1
    cases t with
    | true => rw [show Within k f = True from eq_true (h2.1 rfl), D_True]
    | false => rw [show Within k f = False from eq_false (fun h => by cases h2.2 h), D_False]) rfl
end
theorem InB_roundE {rs : List Rule} : ∀ {k : Kn}, InB k → (∀ r ∈ rs, RB r) → InB (narRoundE k rs).1 := by
  induction rs with
  | nil => intro k hk _; exact hk
  | cons r rs ih =>
    intro k hk hr
    unfold narRoundE
    cases e : narStep k r with
    | none => exact hk
    | some k' => exact ih (hk.step (hr r List.mem_cons_self) e) fun x hx => hr x (List.mem_cons_of_mem _ hx)
theorem InB_nar {k : Kn} {rs : List Rule} (hk : InB k) (hr : ∀ r ∈ rs, RB r) : InB (nar k rs).1 := by
  show InB (narF (meas k + 1) k rs).1
  generalize meas k + 1 = n
  induction n generalizing k with
  | zero => exact hk
  | succ n ih =>
    unfold narF
    have h := InB_roundE hk hr
    rcases hE : narRoundE k rs with ⟨k1, t⟩
    rw [hE] at h
    cases t with
    | false => exact h
    | true =>
      simp only
      split
      · exact hk
      · exact ih h
theorem ap116l {m : Mem} {xs ys : List Rule} {o : Bool} (hy : ys ≠ []) (hl : xs.length + ys.length ≤ 1000000) : isAppend Try.prog 116 116 (.lst 3 (xs.map encR) true) (.lst 3 (ys.map encR) o) m = some (.own m.nx (xs ++ ys).length, { m with hp := upd m.hp m.nx (.arr 3 ((xs ++ ys).map encR)), nx := m.nx + 1 }) := by
  unfold isAppend appendV
  rw [td116]
  simp only [Mem.elems, if_true, Option.bind_some, List.length_map]
  have hg : okGrow 24 3 (.agg [.int .i64 0, .int .i64 0, .int .i64 0]) (xs.length + ys.length) = true := grow_ok rfl rfl (by decide) (by decide) (by omega)
  rw [hg]
  have he : ((ys.map encR).isEmpty) = false := by cases ys <;> simp_all
  simp [he]
theorem SH.other {hp : Nat → Ob} {nx nx' : Nat} {enough : Bool} {wos : List (List (List Rule) × Bool)} {f : Kn} {sm : Bool} (h : SH hp nx enough wos f sm) {i : Nat} {o : Ob} (hi : 5 ≤ i) (hn : nx ≤ nx') : SH (upd hp i o) nx' enough wos f sm :=
  ⟨Nat.le_trans h.nx hn, by rw [upd_ne _ _ (by omega)]; exact h.h0, by rw [upd_ne _ _ (by omega)]; exact h.h1, by rw [upd_ne _ _ (by omega)]; exact h.h2, by rw [upd_ne _ _ (by omega)]; exact h.h3, by rw [upd_ne _ _ (by omega)]; exact h.h4⟩
theorem SH.found {hp : Nat → Ob} {nx : Nat} {enough : Bool} {wos : List (List (List Rule) × Bool)} {f f' : Kn} {sm : Bool} (h : SH hp nx enough wos f sm) : SH (upd hp 1 (.box (.agg (kc f')))) nx enough wos f' sm :=
  ⟨h.nx, by rw [upd_ne _ _ (by decide)]; exact h.h0, upd_same _ _ _, by rw [upd_ne _ _ (by decide)]; exact h.h2, by rw [upd_ne _ _ (by decide)]; exact h.h3, by rw [upd_ne _ _ (by decide)]; exact h.h4⟩
theorem SH.some {hp : Nat → Ob} {nx : Nat} {enough : Bool} {wos : List (List (List Rule) × Bool)} {f : Kn} {sm sm' : Bool} (h : SH hp nx enough wos f sm) : SH (upd hp 3 (.box (.bool sm'))) nx enough wos f sm' :=
  ⟨h.nx, by rw [upd_ne _ _ (by decide)]; exact h.h0, by rw [upd_ne _ _ (by decide)]; exact h.h1, by rw [upd_ne _ _ (by decide)]; exact h.h2, upd_same _ _ _, by rw [upd_ne _ _ (by decide)]; exact h.h4⟩
set_option maxRecDepth 10000 in
set_option maxHeartbeats 4000000 in
theorem search_to {enough : Bool} {wos : List (List (List Rule) × Bool)} (hwl : wos.length ≤ 10000) (hws : ∀ w ∈ wos, w.1.length ≤ 10 ∧ ∀ alt ∈ w.1, alt ≠ [] ∧ alt.length ≤ 10 ∧ ∀ x ∈ alt, RB x) :
    ∀ (n from_ : Nat), from_ + n = wos.length → ∀ (k : Kn) (l : List Rule) (vl : Vl) (f : Kn) (sm : Bool) (hp : Nat → Ob) (nx : Nat), InB k → (∀ x ∈ l, RB x) → l.length ≤ 1000 + 10 * from_ → f.length = 20 → SH hp nx enough wos f sm →
      ((∃ o, vl = .lst 3 (l.map encR) o) ∨ ∃ id, 5 ≤ id ∧ id < nx ∧ vl = .own id l.length ∧ hp id = .arr 3 (l.map encR)) →
      HAns Try.prog (AA b) 82 ([.agg (kc k), vl, I from_] ++ caps) hp nx fun v hp' nx' => v = .tup [] ∧ nx ≤ nx' ∧ SH hp' nx' enough wos (searchF enough ((wos.drop from_).map (·.1)) k l (f, sm)).1 (searchF enough ((wos.drop from_).map (·.1)) k l (f, sm)).2 ∧ (searchF enough ((wos.drop from_).map (·.1)) k l (f, sm)).1.length = 20 := by
  intro n
  induction n using Nat.strongRecOn with
  | _ n ih =>
    intro from_ hn k l vl f sm hp nx hk hl hll hf hS hvl
    refine HAns_of Try.func82 rfl ?_
    have hkl := hk.1
    have hk2 := InB_nar hk hl
    have hk3 := hk2.1
    have hl6 : l.length ≤ 1000000 := by omega
    have s0 := hS.nx
    refine wp_seq_cut (fun st => ∃ (o : Bool) (hp' : Nat → Ob), SH hp' nx enough wos f sm ∧ st = { sl := [(1, .lst 3 (l.map encR) o), (2, I from_), (3, .bp 3 0), (4, .bp 0 0), (5, .bp 1 0), (6, .bp 2 0), (7, .bp 4 0), (8, .loc (.agg (kc k)))], hp := hp', nx := nx }) ?_ ?_
    · rcases hvl with ⟨o, rfl⟩ | ⟨id, hi1, hi2, rfl, hob⟩
      · simp +contextual (maxSteps := 1000000) (disch := first | omega | (with_reducible first | refine krN ?_ | refine krS ?_ | refine krP ?_ | refine krG ?_); kernel_rfl | refine kr ?_; simp only [go_sem, seval, -List.reduceReplicate, kc_length, hkl]; done | fail) only [go_sem, seval, -List.reduceReplicate, kc_length, hkl]
        exact ⟨o, hp, hS, rfl⟩
      · have hrf : reify hp (.own id l.length) = some (.lst 3 (l.map encR) false, [id]) := reify_flat (.inl hob) rfl fun _ => rfl
        simp +contextual (maxSteps := 1000000) (disch := first | omega | (with_reducible first | refine krN ?_ | refine krS ?_ | refine krP ?_ | refine krG ?_); kernel_rfl | refine kr ?_; simp only [go_sem, seval, -List.reduceReplicate, kc_length, hkl, hrf, killHp_one, hob]; done | fail) only [go_sem, seval, -List.reduceReplicate, kc_length, hkl, hrf, killHp_one, hob]
        exact ⟨false, _, hS.other hi1 (Nat.le_refl nx), rfl⟩
    clear hvl hS
    rintro st ⟨o, hp', hS, rfl⟩
    obtain ⟨_, s1, s2, s3, s4, s5⟩ := id hS
    obtain ⟨stop, hstop⟩ : ∃ p : Prop, p = ((nar k l).2 = false ∨ (sm = true ∧ (enough = true ∨ Within (nar k l).1 f))) := ⟨_, rfl⟩
    refine wp_seq_cut (fun st => st = { sl := [(1, .lst 3 (l.map encR) o), (2, I from_), (3, .bp 3 0), (4, .bp 0 0), (5, .bp 1 0), (6, .bp 2 0), (7, .bp 4 0), (8, .loc (.agg (kc (nar k l).1))), (11, .bool (nar k l).2)], hp := hp', nx := nx }) ?_ ?_
    · simp +contextual (maxSteps := 1000000) (disch := first | omega | (with_reducible first | refine krN ?_ | refine krS ?_ | refine krP ?_ | refine krG ?_); kernel_rfl | refine kr ?_; simp only [go_sem, seval, -List.reduceReplicate, wc83, hk, hl, hl6, hkl, hk3, sub_kc_all, put_kc_all, kc_length]; done | fail) only [go_sem, seval, -List.reduceReplicate, wc83, hk, hl, hl6, hkl, hk3, sub_kc_all, put_kc_all, kc_length]
    rintro st rfl
    have hstep1 : ∀ ways, stop → searchF enough ways k l (f, sm) = (f, sm) := fun ways h => by
      rw [hstop] at h
      cases ways <;> (rw [searchF]; exact if_pos h)
    have hstep0 : ¬ stop → searchF enough [] k l (f, sm) = (hullTo (if sm = true then f else (nar k l).1) (nar k l).1 20, true) := fun h => by
      rw [hstop] at h
      rw [searchF]; exact if_neg h
    have hstep2 : ∀ w rest, ¬ stop → searchF enough (w :: rest) k l (f, sm) = w.foldl (fun st alt => searchF enough rest (nar k l).1 (l ++ alt) st) (f, sm) := fun w rest h => by
      rw [hstop] at h
      rw [searchF]; exact if_neg h
    obtain ⟨J2, hJ2⟩ : ∃ J : FS → Prop, J = (fun st => ¬ stop ∧ st = { sl := [(1, .lst 3 (l.map encR) o), (2, I from_), (3, .bp 3 0), (5, .bp 1 0), (6, .bp 2 0), (7, .bp 4 0), (8, .loc (.agg (kc (nar k l).1))), (34, .bool false)], hp := hp', nx := nx }) := ⟨_, rfl⟩
    refine wp_seq_cut2 J2 ?_ ?_
    · have hJf : ¬ stop → J2 { sl := [(1, .lst 3 (l.map encR) o), (2, I from_), (3, .bp 3 0), (5, .bp 1 0), (6, .bp 2 0), (7, .bp 4 0), (8, .loc (.agg (kc (nar k l).1))), (34, .bool false)], hp := hp', nx := nx } := fun h => by rw [hJ2]; exact ⟨h, rfl⟩
      clear hJ2
      cases h2 : (nar k l).2 with
      | false =>
        simp +contextual (maxSteps := 1000000) (disch := first | omega | (with_reducible first | refine krN ?_ | refine krS ?_ | refine krP ?_ | refine krG ?_); kernel_rfl | refine kr ?_; simp only [go_sem, seval, -List.reduceReplicate, h2]; done | fail) only [go_sem, seval, -List.reduceReplicate, h2]
        rw [hstep1 _ (by rw [hstop]; exact .inl h2)]
        exact ⟨hS, hf⟩
      | true =>
        cases sm with
        | false =>
          simp +contextual (maxSteps := 1000000) (disch := first | omega | (with_reducible first | refine krN ?_ | refine krS ?_ | refine krP ?_ | refine krG ?_); kernel_rfl | refine kr ?_; simp only [go_sem, seval, -List.reduceReplicate, h2, s4]; done | fail) only [go_sem, seval, -List.reduceReplicate, h2, s4]
          exact hJf (by rw [hstop]; simp [h2])
        | true =>
          cases enough with
          | true =>
            simp +contextual (maxSteps := 1000000) (disch := first | omega | (with_reducible first | refine krN ?_ | refine krS ?_ | refine krP ?_ | refine krG ?_); kernel_rfl | refine kr ?_; simp only [go_sem, seval, -List.reduceReplicate, h2, s1, s2, s4]; done | fail) only [go_sem, seval, -List.reduceReplicate, h2, s1, s2, s4]
            rw [hstep1 _ (by rw [hstop]; exact .inr ⟨rfl, .inl rfl⟩)]
            exact ⟨hS, hf⟩
          | false =>
            by_cases hw : Within (nar k l).1 f
            · simp +contextual (maxSteps := 1000000) (disch := first | omega | (with_reducible first | refine krN ?_ | refine krS ?_ | refine krP ?_ | refine krG ?_); kernel_rfl | refine kr ?_; simp only [go_sem, seval, -List.reduceReplicate, h2, s1, s4, s2, wc84, hk3, hf, sub_kc_all, kc_length, hw]; done | fail) only [go_sem, seval, -List.reduceReplicate, h2, s1, s4, s2, wc84, hk3, hf, sub_kc_all, kc_length, hw]
              rw [hstep1 _ (by rw [hstop]; exact .inr ⟨rfl, .inr hw⟩)]
              exact ⟨hS, hf⟩
            · simp +contextual (maxSteps := 1000000) (disch := first | omega | (with_reducible first | refine krN ?_ | refine krS ?_ | refine krP ?_ | refine krG ?_); kernel_rfl | refine kr ?_; simp only [go_sem, seval, -List.reduceReplicate, h2, s1, s4, s2, wc84, hk3, hf, sub_kc_all, kc_length, hw]; done | fail) only [go_sem, seval, -List.reduceReplicate, h2, s1, s4, s2, wc84, hk3, hf, sub_kc_all, kc_length, hw]
              exact hJf (by rw [hstop]; simp [h2, hw])
    rw [hJ2]
    rintro st ⟨hs, rfl⟩
    generalize hk2e : (nar k l).1 = k2 at hk2 hk3 hstep0 hstep2 ⊢
    by_cases hfw : from_ < wos.length
    · have hdrop : (wos.drop from_).map (·.1) = wos[from_]!.1 :: (wos.drop (from_ + 1)).map (·.1) := by
        rw [get!_eq hfw, List.drop_eq_getElem_cons hfw]; rfl
      obtain ⟨hA1, hA2⟩ := hws _ (get!_mem hfw)
      simp +contextual (maxSteps := 1000000) (disch := first | omega | (with_reducible first | refine krN ?_ | refine krS ?_ | refine krP ?_ | refine krG ?_); kernel_rfl | refine kr ?_; simp only [go_sem, seval, -List.reduceReplicate, hfw, Int.ofNat_lt, ix_lst, encWO, s3]; done | fail) only [go_sem, seval, -List.reduceReplicate, hfw, Int.ofNat_lt, ix_lst, encWO, s3]
      rw [hdrop, hstep2 _ _ hs]
      have ih1 := ih (n - 1) (by omega) (from_ + 1) (by omega) k2
      clear ih hstep2 hstep1 hstep0 hs
      generalize (wos.drop (from_ + 1)).map (·.1) = rest at ih1 ⊢
      clear hdrop s1 s2 s3 s4 s5 hJ2 hstop
      generalize wos[from_]!.1 = A at hA1 hA2 ⊢
      generalize wos[from_]!.2 = fl
      refine wp_loop_to A.length (fun j st => ∃ (hp2 : Nat → Ob) (nx2 : Nat) (f2 : Kn) (sm2 : Bool) (ex : List (Nat × Vl)), nx ≤ nx2 ∧ f2.length = 20 ∧ SH hp2 nx2 enough wos f2 sm2 ∧ (A.take j).foldl (fun st alt => searchF enough rest k2 (l ++ alt) st) (f, sm) = (f2, sm2) ∧
        st = ({ sl := (1, .lst 3 (l.map encR) o) :: (2, I from_) :: (7, .bp 4 0) :: (8, .loc (.agg (kc k2))) :: (42, .lst 1 (A.map encAlt) fl) :: (43, I A.length) :: (44, I j) :: ex, hp := hp2, nx := nx2 } : FS)) ?_ 0 (Nat.zero_le _) ⟨hp', nx, f, sm, _, Nat.le_refl _, hf, hS, rfl, rfl⟩
      rintro j st hjl ⟨hp2, nx2, f2, sm2, ex, hn2, hf2, hS2, hfo, rfl⟩
      by_cases hc : j < A.length
      · have hj := hA2 _ (get!_mem hc)
        obtain ⟨s0', s1, s2, s3, s4, s5⟩ := id hS2
        have htk := take_snoc hc
        have hjn := hj.1
        simp +contextual (maxSteps := 1000000) (disch := first | omega | (with_reducible first | refine krN ?_ | refine krS ?_ | refine krP ?_ | refine krG ?_); kernel_rfl | refine kr ?_; simp only [go_sem, seval, -List.reduceReplicate, hc, Int.ofNat_lt, ix_lst, encAlt, s5, slice_all, ap116l, List.length_map, sub_kc_all, hk3, kc_length]; done | fail) only [go_sem, seval, -List.reduceReplicate, hc, Int.ofNat_lt, ix_lst, encAlt, s5, slice_all, ap116l, List.length_map, sub_kc_all, hk3, kc_length]
        refine wc_heap (by simp only [mkAnn, K82]) rfl (ih1 (l ++ A[j]!) _ f2 sm2 _ _ hk2 (fun x hx => (List.mem_append.1 hx).elim (hl x) (hj.2.2 x)) (by rw [List.length_append]; omega) hf2 (hS2.other (by omega) (Nat.le_succ _)) (.inr ⟨nx2, by omega, Nat.lt_succ_self nx2, rfl, upd_same _ _ _⟩)) ?_
        rintro v hp3 nx3 ⟨rfl, hn3, hS3, hf3⟩
        have hn3' : nx2 + 1 ≤ nx3 := hn3
        clear hn3
        simp +contextual (maxSteps := 1000000) (disch := first | omega | (with_reducible first | refine krN ?_ | refine krS ?_ | refine krP ?_ | refine krG ?_); kernel_rfl | refine kr ?_; simp only [go_sem, seval, -List.reduceReplicate, hc]; done | fail) only [go_sem, seval, -List.reduceReplicate, hc]
        refine ⟨hp3, nx3, _, _, _, by omega, hf3, hS3, ?_, rfl⟩
        rw [htk, List.foldl_append, hfo]; rfl
      · have hje : j = A.length := by omega
        subst hje
        simp +contextual (maxSteps := 1000000) (disch := first | omega | (with_reducible first | refine krN ?_ | refine krS ?_ | refine krP ?_ | refine krG ?_); kernel_rfl | refine kr ?_; simp only [go_sem, seval, -List.reduceReplicate, Int.lt_irrefl]; done | fail) only [go_sem, seval, -List.reduceReplicate, Int.lt_irrefl]
        rw [List.take_length] at hfo
        rw [hfo]
        exact ⟨hn2, hS2, hf2⟩
    · have hdrop : (wos.drop from_).map (·.1) = [] := by rw [List.drop_eq_nil_of_le (by omega)]; rfl
      rw [hdrop, hstep0 hs]
      obtain ⟨f0, hf0⟩ : ∃ f0, f0 = if sm = true then f else k2 := ⟨_, rfl⟩
      rw [← hf0]
      have hf0l : f0.length = 20 := by rw [hf0]; split <;> assumption
      refine wp_seq_cut (fun st => st = { sl := [(1, .lst 3 (l.map encR) o), (2, I from_), (3, .bp 3 0), (5, .bp 1 0), (6, .bp 2 0), (7, .bp 4 0), (8, .loc (.agg (kc k2))), (38, .bool false)], hp := hp', nx := nx }) ?_ ?_
      · simp +contextual (maxSteps := 1000000) (disch := first | omega | (with_reducible first | refine krN ?_ | refine krS ?_ | refine krP ?_ | refine krG ?_); kernel_rfl | refine kr ?_; simp only [go_sem, seval, -List.reduceReplicate, hfw, Int.ofNat_lt, s3]; done | fail) only [go_sem, seval, -List.reduceReplicate, hfw, Int.ofNat_lt, s3]
      rintro st rfl
      refine wp_seq_cut (fun st => ∃ (hp1 : Nat → Ob) (sl : List (Nat × Vl)), SH hp1 nx enough wos f0 true ∧ (sl = [(3, .bp 3 0), (5, .bp 1 0), (8, .loc (.agg (kc k2))), (63, .bool false)] ∨ sl = [(5, .bp 1 0), (8, .loc (.agg (kc k2)))]) ∧ st = { sl := sl, hp := hp1, nx := nx }) ?_ ?_
      · cases sm with
        | true =>
          simp +contextual (maxSteps := 1000000) (disch := first | omega | (with_reducible first | refine krN ?_ | refine krS ?_ | refine krP ?_ | refine krG ?_); kernel_rfl | refine kr ?_; simp only [go_sem, seval, -List.reduceReplicate, s1, s2, s3, s4, hkl, hk3, hf, sub_kc_all, put_kc_all, kc_length]; done | fail) only [go_sem, seval, -List.reduceReplicate, s1, s2, s3, s4, hkl, hk3, hf, sub_kc_all, put_kc_all, kc_length]
          exact ⟨hp', _, by rw [hf0]; exact hS, .inl rfl, rfl⟩
        | false =>
          simp +contextual (maxSteps := 1000000) (disch := first | omega | (with_reducible first | refine krN ?_ | refine krS ?_ | refine krP ?_ | refine krG ?_); kernel_rfl | refine kr ?_; simp only [go_sem, seval, -List.reduceReplicate, s1, s2, s3, s4, hkl, hk3, hf, sub_kc_all, put_kc_all, kc_length]; done | fail) only [go_sem, seval, -List.reduceReplicate, s1, s2, s3, s4, hkl, hk3, hf, sub_kc_all, put_kc_all, kc_length]
          refine ⟨_, _, ?_, .inr rfl, rfl⟩
          rw [hf0]
          exact (hS.found (f' := k2)).some
      rintro st ⟨hp1, sl, hS1, hsl, rfl⟩
      clear ih hstep0 hstep1 hstep2 hstop hJ2 hdrop hs s1 s2 s3 s4 s5 hS hf0
      refine wp_seq_cut (fun st => ∃ hp1, SH hp1 nx enough wos f0 true ∧ st = { sl := [(5, .bp 1 0), (65, .agg (kc k2)), (66, I 0)], hp := hp1, nx := nx }) ?_ ?_
      · rcases hsl with rfl | rfl
        · simp +contextual (maxSteps := 1000000) (disch := first | omega | (with_reducible first | refine krN ?_ | refine krS ?_ | refine krP ?_ | refine krG ?_); kernel_rfl | refine kr ?_; simp only [go_sem, seval, -List.reduceReplicate, hk3, sub_kc_all, kc_length]; done | fail) only [go_sem, seval, -List.reduceReplicate, hk3, sub_kc_all, kc_length]
          exact ⟨_, hS1, rfl⟩
        · simp +contextual (maxSteps := 1000000) (disch := first | omega | (with_reducible first | refine krN ?_ | refine krS ?_ | refine krP ?_ | refine krG ?_); kernel_rfl | refine kr ?_; simp only [go_sem, seval, -List.reduceReplicate, hk3, sub_kc_all, kc_length]; done | fail) only [go_sem, seval, -List.reduceReplicate, hk3, sub_kc_all, kc_length]
          exact ⟨_, hS1, rfl⟩
      clear hS1 hsl
      rintro st ⟨hp1, hS1, rfl⟩
      simp +contextual (maxSteps := 1000000) (disch := first | omega | (with_reducible first | refine krN ?_ | refine krS ?_ | refine krP ?_ | refine krG ?_); kernel_rfl | refine kr ?_; simp only [go_sem, seval, -List.reduceReplicate, hk3]; done | fail) only [go_sem, seval, -List.reduceReplicate, hk3]
      refine wp_loop_to 20 (fun i st => ∃ (hp1 : Nat → Ob) (ex : List (Nat × Vl)), SH hp1 nx enough wos (hullTo f0 k2 i) true ∧ st = ({ sl := (5, .bp 1 0) :: (65, .agg (kc k2)) :: (66, I i) :: ex, hp := hp1, nx := nx } : FS)) ?_ 0 (Nat.zero_le _) ⟨hp1, _, hS1, rfl⟩
      clear hS1 hp1
      rintro i st hi ⟨hp1, ex, hS1, rfl⟩
      have hgl : (hullTo f0 k2 i).length = 20 := by rw [hullTo_len]; exact hf0l
      have hge : (hullTo f0 k2 i).getD i (0, 0) = f0.getD i (0, 0) := hullTo_ge (Nat.le_refl i)
      have hsu : hullTo f0 k2 (i + 1) = (hullTo f0 k2 i).set i (min (f0.getD i (0, 0)).1 (k2.getD i (0, 0)).1, max (f0.getD i (0, 0)).2 (k2.getD i (0, 0)).2) := rfl
      by_cases hc : i < 20
      · rw [hsu]
        obtain ⟨s0', s1, s2, s3, s4, s5⟩ := id hS1
        generalize hullTo f0 k2 i = g at hgl hge hS1 s2
        have hci : (i : Int) < 20 := by omega
        have hx : ∀ (m : Mem) (cs : List Vl), indexV (.array 20 2 (some true)) (.agg cs) (.int .i64 (i : Int)) m = (sub true 2 (i * 2) (.agg cs)).map fun v => (.v v, m) := fun m cs => index_arr (by omega)
        have hia : ∀ (m : Mem) (a : Arg), indexAddrV (.array 20 2 (some true)) a (.int .i64 (i : Int)) m = (Arg.shift (i * 2) a).map fun a => (a, m) := fun m a => indexAddr_arr (by omega) (by decide)
        have hsk := sub_kc (ks := k2) (i := i) (by omega)
        have hsg1 := sub_kc1 (ks := g) (i := i) (by omega)
        have hsg2 := sub_kc2 (ks := g) (i := i) (by omega)
        have hpg := fun a b : Int => put_kc (ks := g) (i := i) (a := a) (b := b) (by omega)
        rw [hge] at hsg1 hsg2
        simp +contextual (maxSteps := 1000000) (disch := first | omega | (with_reducible first | refine krN ?_ | refine krS ?_ | refine krP ?_ | refine krG ?_); kernel_rfl | refine kr ?_; simp only [go_sem, seval, -List.reduceReplicate, hci, hx, hia, hsk, hsg1, hsg2, hpg, s2]; done | fail) only [go_sem, seval, -List.reduceReplicate, hci, hx, hia, hsk, hsg1, hsg2, hpg, s2]
        exact ⟨hc, _, _, hS1.found, rfl⟩
      · have hie : i = 20 := by omega
        subst hie
        simp +contextual (maxSteps := 1000000) (disch := first | omega | (with_reducible first | refine krN ?_ | refine krS ?_ | refine krP ?_ | refine krG ?_); kernel_rfl | refine kr ?_; simp only [go_sem, seval, -List.reduceReplicate, hk3]; done | fail) only [go_sem, seval, -List.reduceReplicate, hk3]
        exact ⟨hS1, hgl⟩
end Go.Proofs
namespace Go.Proofs
open Go Go.Idl
set_option linter.unusedSimpArgs false
variable {b : Bool}
def AltsOk (w : List (List Rule)) : Prop := w.length ≤ 10 ∧ ∀ alt ∈ w, alt ≠ [] ∧ alt.length ≤ 10 ∧ ∀ x ∈ alt, RB x
theorem offAt_ok {os : List Office} (h : ∀ o ∈ os, OffOk o) (i : Int) : OffOk (offAt os i) := by
  unfold offAt
  rw [List.getD_eq_getElem?_getD]
  cases e : os[i.toNat]? with
  | none => exact ⟨by decide, by decide, by decide, by decide, by decide, by decide⟩
  | some o => exact h o (List.mem_of_getElem? e)
theorem one_ok {i k : Nat} {n : Int} (hi : i < 8) (hk : k < 8) (h0 : 0 ≤ n) (h1 : n ≤ 1000) : [(⟨12 + i, 12 + k, n⟩ : Rule)] ≠ [] ∧ [(⟨12 + i, 12 + k, n⟩ : Rule)].length ≤ 10 ∧ ∀ x ∈ [(⟨12 + i, 12 + k, n⟩ : Rule)], RB x := by
  refine ⟨by simp, by simp, fun x hx => ?_⟩
  rw [List.mem_singleton] at hx
  subst hx
  exact ⟨by show 12 + i < 20; omega, by show 12 + k < 20; omega, by show -100000 ≤ n; omega, by show n ≤ 100000; omega⟩
theorem apart_ok {i k : Nat} {n : Int} (hi : i < 8) (hk : k < 8) (h0 : 0 ≤ n) (h1 : n ≤ 1000) : ∀ alt ∈ apart i k n, alt ≠ [] ∧ alt.length ≤ 10 ∧ ∀ x ∈ alt, RB x := by
  intro alt h
  unfold apart at h
  simp only [List.mem_cons, List.not_mem_nil, or_false] at h
  rcases h with rfl | rfl
  · exact one_ok hi hk h0 h1
  · exact one_ok hk hi h0 h1
theorem pairF_ok {os : List Office} {fs : List (List Bool)} {a c : Rec} {i k : Nat} (ho : ∀ o ∈ os, OffOk o) (hi : i < 8) (hk : k < 8) {w : List (List Rule)} (h : pairF os fs a c i k = some w) : AltsOk w := by
  unfold pairF at h
  split at h
  · injection h with h
    obtain ⟨_, _, _, _, h5, h6⟩ := offAt_ok ho a.office
    subst h
    refine ⟨by rw [List.length_append]; simp only [apart, List.length_cons, List.length_nil]; split <;> simp, fun alt ha => ?_⟩
    rcases List.mem_append.1 ha with ha | ha
    · exact apart_ok hi hk (by omega) (by omega) alt ha
    · split at ha
      · cases ha
      · rw [List.mem_singleton] at ha
        subst ha
        refine ⟨by simp, by simp, fun x hx => ?_⟩
        simp only [List.mem_cons, List.not_mem_nil, or_false] at hx
        rcases hx with rfl | rfl
        · exact (one_ok hi hk (n := 0) (by decide) (by decide)).2.2 _ (List.mem_singleton.2 rfl)
        · exact (one_ok hk hi (n := 0) (by decide) (by decide)).2.2 _ (List.mem_singleton.2 rfl)
  · split at h
    · split at h
      · injection h with h
        subst h
        exact ⟨by simp [apart], apart_ok hi hk (by decide) (by decide)⟩
      · cases h
    · obtain ⟨_, _, h3, h4, _, _⟩ := offAt_ok ho (max a.office c.office)
      have hn : ∀ n : Int, n = (if farAt fs a.town c.town then max 1 (offAt os (max a.office c.office)).gap else (offAt os (max a.office c.office)).gap) → 0 ≤ n ∧ n ≤ 1000 := fun n hn => by rw [hn]; split <;> omega
      have hn' := hn _ rfl
      simp only at h
      split at h <;> (injection h with h; subst h)
      · exact ⟨by simp, fun alt ha => by rw [List.mem_singleton.1 ha]; exact one_ok hk hi hn'.1 hn'.2⟩
      · exact ⟨by simp, fun alt ha => by rw [List.mem_singleton.1 ha]; exact one_ok hi hk hn'.1 hn'.2⟩
theorem mem_pairsTo {l : List Nat} (hl : l.Pairwise (· < ·)) {p : Nat × Nat} : p ∈ pairsTo l l.length ↔ p.1 ∈ l ∧ p.2 ∈ l ∧ p.1 < p.2 := by
  unfold pairsTo rowP
  simp only [List.mem_flatten, List.mem_map, List.mem_range]
  constructor
  · rintro ⟨_, ⟨n, hn, rfl⟩, h⟩
    obtain ⟨k, hk, rfl⟩ := List.mem_map.1 h
    rw [get!_eq hn]
    refine ⟨List.getElem_mem hn, List.mem_of_mem_drop hk, ?_⟩
    obtain ⟨j, hj, rfl⟩ := List.getElem_of_mem hk
    rw [List.getElem_drop]
    exact List.pairwise_iff_getElem.1 hl _ _ _ _ (by omega)
  · rintro ⟨h1, h2, h3⟩
    obtain ⟨n, hn, e1⟩ := List.getElem_of_mem h1
    obtain ⟨m, hm, e2⟩ := List.getElem_of_mem h2
    have hnm : n < m := by
      rcases Nat.lt_trichotomy n m with h | h | h
      · exact h
      · subst h; omega
      · have := List.pairwise_iff_getElem.1 hl m n hm hn h; omega
    refine ⟨_, ⟨n, hn, rfl⟩, List.mem_map.2 ⟨p.2, ?_, ?_⟩⟩
    · rw [List.mem_iff_getElem]
      exact ⟨m - (n + 1), by rw [List.length_drop]; omega, by rw [List.getElem_drop]; rw [← e2]; congr 1; omega⟩
    · rw [get!_eq hn, e1]
theorem idx_sorted {r : Roll} {a : Int} {n : Nat} : (idx r a n).Pairwise (· < ·) := List.Pairwise.filter _ List.pairwise_lt_range
theorem mem_idx {r : Roll} {a : Int} {n i : Nat} : i ∈ idx r a n ↔ i < n ∧ r.cs[i]!.kin = false ∧ r.cs[i]!.man = a := by
  unfold idx; simp
theorem mem_choices {r : Roll} (hv : Val r) {w : List (List Rule)} : w ∈ choicesF r ↔ ∃ i k, i < k ∧ k < r.cs.length ∧ r.cs[i]!.kin = false ∧ r.cs[k]!.kin = false ∧ r.cs[i]!.man = r.cs[k]!.man ∧ pairF r.os r.fs r.cs[i]! r.cs[k]! i k = some w := by
  unfold choicesF choicesTo manWays waysOf
  simp only [List.mem_flatten, List.mem_map, List.mem_range]
  constructor
  · rintro ⟨_, ⟨a, ha, rfl⟩, h⟩
    obtain ⟨p, hp, hw⟩ := List.mem_filterMap.1 h
    obtain ⟨h1, h2, h3⟩ := (mem_pairsTo idx_sorted).1 hp
    obtain ⟨a1, a2, a3⟩ := mem_idx.1 h1
    obtain ⟨b1, b2, b3⟩ := mem_idx.1 h2
    exact ⟨p.1, p.2, h3, b1, a2, b2, by rw [a3, b3], hw⟩
  · rintro ⟨i, k, h1, h2, h3, h4, h5, h6⟩
    obtain ⟨c1, c2, _⟩ := hv.cs_ok _ (get!_mem (show i < r.cs.length by omega))
    have hm : r.cs[i]!.man = ((r.cs[i]!.man).toNat : Int) := by omega
    refine ⟨_, ⟨(r.cs[i]!.man).toNat, by omega, rfl⟩, List.mem_filterMap.2 ⟨(i, k), (mem_pairsTo idx_sorted).2 ⟨mem_idx.2 ⟨by show i < _; omega, h3, hm⟩, mem_idx.2 ⟨h2, h4, h5 ▸ hm⟩, h1⟩, h6⟩⟩
theorem choices_ok {r : Roll} (hv : Val r) : ∀ w ∈ choicesF r, AltsOk w := by
  intro w hw
  obtain ⟨i, k, h1, h2, _, _, _, h6⟩ := (mem_choices hv).1 hw
  have := hv.cs_l
  exact pairF_ok hv.os_ok (by omega) (by omega) h6
theorem pairsTo_len {l : List Nat} {n : Nat} : (pairsTo l n).length ≤ l.length * n := by
  induction n with
  | zero => simp [pairsTo]
  | succ n ih =>
    rw [pairsTo_succ, List.length_append, Nat.mul_succ]
    have : (rowP l n).length ≤ l.length := by unfold rowP; rw [List.length_map, List.length_drop]; omega
    omega
theorem choicesTo_len {r : Roll} (hv : Val r) {n : Nat} : (choicesTo r n).length ≤ 64 * n := by
  induction n with
  | zero => simp [choicesTo]
  | succ n ih =>
    rw [choicesTo_succ, List.length_append]
    have h1 : (manWays r n).length ≤ 64 := by
      unfold manWays waysOf
      have h2 := List.length_filterMap_le (fun p : Nat × Nat => pairF r.os r.fs r.cs[p.1]! r.cs[p.2]! p.1 p.2) (pairsTo (idx r n r.cs.length) (idx r n r.cs.length).length)
      have h3 := @pairsTo_len (idx r n r.cs.length) (idx r n r.cs.length).length
      have h4 := @idx_len r n r.cs.length
      have h5 := hv.cs_l
      have h6 : (idx r n r.cs.length).length * (idx r n r.cs.length).length ≤ 8 * 8 := Nat.mul_le_mul (by omega) (by omega)
      omega
    omega
theorem choices_len {r : Roll} (hv : Val r) : (choicesF r).length ≤ 1000 := by
  have h := @choicesTo_len r hv r.ms.length
  have := hv.ms_l
  show (choicesTo r r.ms.length).length ≤ 1000
  omega
theorem ageOf_ok {r : Roll} (hv : Val r) (c : Rec) (hc : c.office < r.os.length) : 0 ≤ ageOf r.os c ∧ ageOf r.os c ≤ 100 := by
  unfold ageOf
  split
  · obtain ⟨h1, h2, _⟩ := hv.os_ok _ (get!_mem (show c.office.toNat < r.os.length by omega))
    exact ⟨h1, h2⟩
  · omega
theorem mem_rules {r : Roll} {x : Rule} : x ∈ rulesF r ↔ (∃ i, i < r.ms.length ∧ x ∈ manRules r i) ∨ ∃ i, i < r.cs.length ∧ x ∈ recRules r i r.cs[i]! := by
  unfold rulesF menRulesTo recRulesTo
  simp only [List.mem_append, List.mem_flatten, List.mem_map, List.mem_range]
  constructor
  · rintro (⟨_, ⟨i, hi, rfl⟩, h⟩ | ⟨_, ⟨i, hi, rfl⟩, h⟩)
    · exact .inl ⟨i, hi, h⟩
    · exact .inr ⟨i, hi, h⟩
  · rintro (⟨i, hi, h⟩ | ⟨i, hi, h⟩)
    · exact .inl ⟨_, ⟨i, hi, rfl⟩, h⟩
    · exact .inr ⟨_, ⟨i, hi, rfl⟩, h⟩
theorem rules_ok {r : Roll} (hv : Val r) : ∀ x ∈ rulesF r, RB x := by
  intro x hx
  have h1 := hv.ms_l
  have h2 := hv.cs_l
  have h3 := hv.life
  have h4 := hv.par
  rcases mem_rules.1 hx with ⟨i, hi, h⟩ | ⟨i, hi, h⟩
  · simp only [manRules, List.mem_cons, List.not_mem_nil, or_false] at h
    rcases h with rfl | rfl <;> exact ⟨by simp only; omega, by simp only; omega, by simp only; omega, by simp only; omega⟩
  · obtain ⟨c1, c2, c3, c4⟩ := hv.cs_ok _ (get!_mem hi)
    unfold recRules at h
    split at h
    · next hk =>
      obtain ⟨d1, d2, _⟩ := c3 hk
      simp only [List.mem_cons, List.not_mem_nil, or_false] at h
      rcases h with rfl | rfl | rfl <;> exact ⟨by simp only; omega, by simp only; omega, by simp only; omega, by simp only; omega⟩
    · next hk =>
      obtain ⟨d1, d2, _⟩ := c4 (by simpa using hk)
      obtain ⟨e1, e2⟩ := ageOf_ok hv r.cs[i]! (by omega)
      simp only [List.mem_cons, List.not_mem_nil, or_false] at h
      rcases h with rfl | rfl <;> exact ⟨by simp only; omega, by simp only; omega, by simp only; omega, by simp only; omega⟩
theorem rulesF_len {r : Roll} (hv : Val r) : (rulesF r).length ≤ 100 := by
  have h1 := hv.ms_l
  have h2 := hv.cs_l
  have h3 := @menRules_len r r.ms.length
  have h4 := @recRules_len r r.cs.length
  unfold rulesF
  rw [List.length_append]
  omega
end Go.Proofs
namespace Go.Proofs
open Go Go.Idl
set_option linter.unusedSimpArgs false
variable {b : Bool}
@[reducible] def zk : Kn := List.replicate 20 (0, 0)
def menK (r : Roll) : Nat → Kn
  | 0 => zk
  | i + 1 => ((menK r i).set i (r.ms[i]!.blo, r.ms[i]!.bhi)).set (6 + i) (r.ms[i]!.dlo, r.ms[i]!.dhi)
def recK (r : Roll) : Nat → Kn
  | 0 => menK r r.ms.length
  | i + 1 => (recK r i).set (12 + i) (r.cs[i]!.lo, r.cs[i]!.hi)
def k0F (r : Roll) : Kn := recK r r.cs.length
theorem menK_len {r : Roll} {n : Nat} : (menK r n).length = 20 := by
  induction n with
  | zero => rfl
  | succ n ih => rw [menK, List.length_set, List.length_set, ih]
theorem recK_len {r : Roll} {n : Nat} : (recK r n).length = 20 := by
  induction n with
  | zero => exact menK_len
  | succ n ih => rw [recK, List.length_set, ih]
theorem InB.set' {k : Kn} (h : InB k) {i : Nat} {x y : Int} (hx : -100000 ≤ x) (hxy : x ≤ y) (hy : y ≤ 100000) : InB (k.set i (x, y)) := by
  refine ⟨by rw [List.length_set]; exact h.1, fun p hp => ?_⟩
  rcases List.mem_or_eq_of_mem_set hp with hp | rfl
  · exact h.2 p hp
  · exact ⟨hx, hxy, hy⟩
theorem menK_InB {r : Roll} (hv : Val r) : ∀ {n : Nat}, n ≤ r.ms.length → InB (menK r n) := by
  intro n
  induction n with
  | zero => intro _; exact ⟨rfl, fun p hp => by rw [List.eq_of_mem_replicate hp]; simp⟩
  | succ n ih =>
    intro hn
    obtain ⟨⟨h1, h2, h3⟩, h4, h5, h6⟩ := hv.ms_ok _ (get!_mem (show n < r.ms.length by omega))
    exact ((ih (by omega)).set' (by omega) h2 (by omega)).set' (by omega) h5 (by omega)
theorem recK_InB {r : Roll} (hv : Val r) : ∀ {n : Nat}, n ≤ r.cs.length → InB (recK r n) := by
  intro n
  induction n with
  | zero => intro _; exact menK_InB hv (Nat.le_refl _)
  | succ n ih =>
    intro hn
    obtain ⟨_, _, h3, h4⟩ := hv.cs_ok _ (get!_mem (show n < r.cs.length by omega))
    refine (ih (by omega)).set' ?_ ?_ ?_ <;> (cases hk : r.cs[n]!.kin with
      | true => obtain ⟨_, _, _, _, _, h5, h6⟩ := h3 hk; omega
      | false => obtain ⟨_, _, _, _, _, h5, h6, h7⟩ := h4 hk; omega)
noncomputable def solveF (enough : Bool) (r : Roll) : Kn × Bool := searchF enough (choicesF r) (k0F r) (rulesF r) (zk, false)
set_option maxRecDepth 10000 in
set_option maxHeartbeats 4000000 in
theorem solve_to {r : Roll} {o1 o2 o3 o4 : Option Bool} (hv : Val r) {enough : Bool} :
    Ans Try.prog (AA b) 69 [encRoll o1 o2 o3 o4 r, .bool enough] (fun v => v = .tup [.agg (kc (solveF enough r).1), .bool (solveF enough r).2]) := by
  refine Ans_of Try.func69 rfl rfl ?_
  have hml := hv.ms_l
  have hcl := hv.cs_l
  simp +contextual (maxSteps := 1000000) (disch := first | omega | (with_reducible first | refine krN ?_ | refine krS ?_ | refine krP ?_ | refine krG ?_); kernel_rfl | refine kr ?_; simp only [go_sem, seval, -List.reduceReplicate, newBox, kc_length, List.length_replicate]; done | fail) only [go_sem, seval, -List.reduceReplicate, newBox, kc_length, List.length_replicate]
  obtain ⟨hp0, hhp0⟩ : ∃ hp0, hp0 = upd (upd noHeap 0 (.box (.bool enough))) 1 (.box (.agg (kc zk))) := ⟨_, rfl⟩
  refine wp_loop_to r.ms.length (fun n st => ∃ (ex : List (Nat × Vl)), st = ({ sl := (2, .loc (encRoll o1 o2 o3 o4 r)) :: (3, .bp 0 0) :: (4, .loc (.agg (kc zk))) :: (6, .loc (.agg (kc (menK r n)))) :: (7, .bp 1 0) :: (17, SL 5 (r.ms.map encM) o3) :: (18, I r.ms.length) :: (19, I n) :: ex, hp := hp0, nx := 2 } : FS)) ?_ 0 (Nat.zero_le _) ⟨_, by rw [hhp0]; rfl⟩
  rintro n st hn ⟨ex, rfl⟩
  have hgl : (menK r n).length = 20 := menK_len
  by_cases hc : n < r.ms.length
  · have hsu : menK r (n + 1) = ((menK r n).set n (r.ms[n]!.blo, r.ms[n]!.bhi)).set (6 + n) (r.ms[n]!.dlo, r.ms[n]!.dhi) := rfl
    rw [hsu]
    generalize menK r n = g at hgl
    have hw6 : IntKind.wrap .i64 (6 + (n : Int)) = ((6 + n : Nat) : Int) := by rw [wrap_i64 (by omega) (by omega)]; omega
    have hia : ∀ (i : Nat) (m : Mem) (a : Arg), i < 20 → indexAddrV (.array 20 2 (some true)) a (.int .i64 (i : Int)) m = (Arg.shift (i * 2) a).map fun a => (a, m) := fun i m a h => indexAddr_arr (by omega) (by decide)
    have h1 := hia n
    have h2 := hia (6 + n)
    have hpg1 := fun a b : Int => put_kc (ks := g) (i := n) (a := a) (b := b) (by omega)
    have hgl2 : ∀ p, (g.set n p).length = 20 := fun p => by rw [List.length_set, hgl]
    have hpg2 := fun (p : Int × Int) (a b : Int) => put_kc (ks := g.set n p) (i := 6 + n) (a := a) (b := b) (by rw [hgl2]; omega)
    have hn20 : n < 20 ∧ 6 + n < 20 := by omega
    simp +contextual (maxSteps := 1000000) (disch := first | omega | (with_reducible first | refine krN ?_ | refine krS ?_ | refine krP ?_ | refine krG ?_); kernel_rfl | refine kr ?_; simp only [go_sem, seval, -List.reduceReplicate, Int.ofNat_lt, hc, encM, ix_map, hw6, h1, h2, hpg1, hpg2, hgl, hgl2, hn20]; done | fail) only [go_sem, seval, -List.reduceReplicate, Int.ofNat_lt, hc, encM, ix_map, hw6, h1, h2, hpg1, hpg2, hgl, hgl2, hn20]
    exact ⟨_, rfl⟩
  · have hne : n = r.ms.length := by omega
    subst hne
    simp +contextual (maxSteps := 1000000) (disch := first | omega | (with_reducible first | refine krN ?_ | refine krS ?_ | refine krP ?_ | refine krG ?_); kernel_rfl | refine kr ?_; simp only [go_sem, seval, -List.reduceReplicate, Int.lt_irrefl]; done | fail) only [go_sem, seval, -List.reduceReplicate, Int.lt_irrefl]
    clear hgl ex hn
    refine wp_loop_to r.cs.length (fun n st => ∃ (ex : List (Nat × Vl)), st = ({ sl := (2, .loc (encRoll o1 o2 o3 o4 r)) :: (3, .bp 0 0) :: (4, .loc (.agg (kc zk))) :: (6, .loc (.agg (kc (recK r n)))) :: (7, .bp 1 0) :: (36, SL 7 (r.cs.map encC) o4) :: (37, I r.cs.length) :: (38, I n) :: ex, hp := hp0, nx := 2 } : FS)) ?_ 0 (Nat.zero_le _) ⟨_, rfl⟩
    rintro n st hn ⟨ex, rfl⟩
    have hgl : (recK r n).length = 20 := recK_len
    by_cases hc : n < r.cs.length
    · have hsu : recK r (n + 1) = (recK r n).set (12 + n) (r.cs[n]!.lo, r.cs[n]!.hi) := rfl
      rw [hsu]
      generalize recK r n = g at hgl
      have hw12 : IntKind.wrap .i64 (12 + (n : Int)) = ((12 + n : Nat) : Int) := by rw [wrap_i64 (by omega) (by omega)]; omega
      have h1 : ∀ (m : Mem) (a : Arg), indexAddrV (.array 20 2 (some true)) a (.int .i64 ((12 + n : Nat) : Int)) m = (Arg.shift ((12 + n) * 2) a).map fun a => (a, m) := fun m a => indexAddr_arr (by omega) (by decide)
      have hpg1 := fun a b : Int => put_kc (ks := g) (i := 12 + n) (a := a) (b := b) (by omega)
      simp +contextual (maxSteps := 1000000) (disch := first | omega | (with_reducible first | refine krN ?_ | refine krS ?_ | refine krP ?_ | refine krG ?_); kernel_rfl | refine kr ?_; simp only [go_sem, seval, -List.reduceReplicate, Int.ofNat_lt, hc, encC, ix_map, hw12, h1, hpg1, hgl]; done | fail) only [go_sem, seval, -List.reduceReplicate, Int.ofNat_lt, hc, encC, ix_map, hw12, h1, hpg1, hgl]
      exact ⟨_, rfl⟩
    · have hne : n = r.cs.length := by omega
      subst hne
      simp +contextual (maxSteps := 1000000) (disch := first | omega | (with_reducible first | refine krN ?_ | refine krS ?_ | refine krP ?_ | refine krG ?_); kernel_rfl | refine kr ?_; simp only [go_sem, seval, -List.reduceReplicate, Int.lt_irrefl, wc80, wc79, hv]; done | fail) only [go_sem, seval, -List.reduceReplicate, Int.lt_irrefl, wc80, wc79, hv]
      refine wc_ans (by simp only [mkAnn, K81]) (rfAs (xs := [encRoll o1 o2 o3 o4 r]) (by simp only [closedL, clRoll, Bool.and_self])) (choices_to (b := b) (o1 := o1) (o2 := o2) (o3 := o3) (o4 := o4) hv) ?_
      rintro v ⟨wos, hw, rfl⟩
      refine ⟨closedL_map clWO wos, ?_⟩
      have hgl2 := hgl
      have hin := recK_InB hv (Nat.le_refl r.cs.length)
      have hk0 : k0F r = recK r r.cs.length := rfl
      generalize recK r r.cs.length = g at hgl hgl2 hin hk0
      simp +contextual (maxSteps := 1000000) (disch := first | omega | (with_reducible first | refine krN ?_ | refine krS ?_ | refine krP ?_ | refine krG ?_); kernel_rfl | refine kr ?_; simp only [go_sem, seval, -List.reduceReplicate, newBox, hgl, sub_kc_all, kc_length]; done | fail) only [go_sem, seval, -List.reduceReplicate, newBox, hgl, sub_kc_all, kc_length]
      have hwl : wos.length ≤ 10000 := by have := choices_len hv; rw [← hw, List.length_map] at this; omega
      have hws : ∀ w ∈ wos, w.1.length ≤ 10 ∧ ∀ alt ∈ w.1, alt ≠ [] ∧ alt.length ≤ 10 ∧ ∀ x ∈ alt, RB x := fun w h => choices_ok hv w.1 (by rw [← hw]; exact List.mem_map_of_mem h)
      have hS : SH (upd (upd (upd hp0 2 (Ob.box (Vl.lst 1 (List.map encWO wos) false))) 3 (Ob.box (Vl.bool false))) 4 (Ob.box (Vl.fn (Fn.func 82) [] caps))) 5 enough wos zk false := by
        rw [hhp0]
        exact ⟨Nat.le_refl _, rfl, rfl, rfl, rfl, rfl⟩
      refine wc_heap (by simp only [mkAnn, K82]) rfl (search_to (b := b) hwl hws wos.length 0 (by omega) g (rulesF r) _ zk false _ 5 hin (rules_ok hv) (by have := rulesF_len hv; omega) rfl hS (.inl ⟨false, rfl⟩)) ?_
      rintro v hp' nx' ⟨rfl, hnx, hS', hfl⟩
      rw [List.drop_zero, hw, ← hk0] at hS' hfl
      change SH hp' nx' enough wos (solveF enough r).1 (solveF enough r).2 at hS'
      change (solveF enough r).1.length = 20 at hfl
      obtain ⟨_, s1, s2, s3, s4, s5⟩ := hS'
      simp +contextual (maxSteps := 1000000) (disch := first | omega | (with_reducible first | refine krN ?_ | refine krS ?_ | refine krP ?_ | refine krG ?_); kernel_rfl | refine kr ?_; simp only [go_sem, seval, -List.reduceReplicate, s2, s4, hfl, sub_kc_all, put_kc_all, kc_length, List.length_replicate]; done | fail) only [go_sem, seval, -List.reduceReplicate, s2, s4, hfl, sub_kc_all, put_kc_all, kc_length, List.length_replicate]
section
variable {m : Mem} {K : Vl → Mem → Prop}
end
end Go.Proofs
namespace Go.Proofs
open Go Go.Idl
set_option linter.unusedSimpArgs false
variable {b : Bool}
structure WF (r : Roll) : Prop extends Val r where
  names : ∀ m ∈ r.ms, 0 ≤ m.name ∧ m.name ≤ 9
  diag : ∀ i, i < r.fs.length → (r.fs[i]!)[i]! = false
  symm : ∀ i k, k < i → i < r.fs.length → (r.fs[i]!)[k]! = (r.fs[k]!)[i]!
theorem bin_neB {x y : Bool} : binOpV { ok := true, agg := false, size := 1, zero := Vl.bool false, flat := some [CK.b], k := TK.bool } .neq (.bool x) (.bool y) = some (.bool (x != y)) := by
  cases x <;> cases y <;> rfl
section
variable {m : Mem} {K : Vl → Mem → Prop}
theorem towns_to {r : Roll} (hv : WF r) {o : Option Bool} : Ans Try.prog (AA b) 60 [SL 1 (r.fs.map encRow) o] (fun v => v = I 0) := by
  refine Ans_of Try.func60 rfl rfl ?_
  have hl := hv.fs_l
  have e0 : ¬ ((r.fs.length : Int) = 0) := by omega
  have e4 : ¬ (4 < (r.fs.length : Int)) := by omega
  simp +contextual (maxSteps := 1000000) (disch := first | omega | (with_reducible first | refine krN ?_ | refine krS ?_ | refine krP ?_ | refine krG ?_); kernel_rfl | refine kr ?_; simp only [go_sem, seval, -List.reduceReplicate, e0, e4]; done | fail) only [go_sem, seval, -List.reduceReplicate, e0, e4]
  refine wp_loop_to r.fs.length (fun i st => ∃ (ex : List (Nat × Vl)), st = ({ sl := (0, SL 1 (r.fs.map encRow) o) :: (14, SL 1 (r.fs.map encRow) o) :: (15, I r.fs.length) :: (16, I i) :: ex, hp := noHeap, nx := 0 } : FS)) ?_ 0 (Nat.zero_le _) ⟨_, rfl⟩
  rintro i st hi ⟨ex, rfl⟩
  by_cases hc : i < r.fs.length
  · have hrl := hv.fs_ok _ (get!_mem hc)
    have hd := hv.diag i hc
    have hci : i < (r.fs[i]!).length := by rw [hrl]; exact hc
    simp +contextual (maxSteps := 1000000) (disch := first | omega | (with_reducible first | refine krN ?_ | refine krS ?_ | refine krP ?_ | refine krG ?_); kernel_rfl | refine kr ?_; simp only [go_sem, seval, -List.reduceReplicate, Int.ofNat_lt, hc, ix_map, encRow, hrl, hd, hci]; done | fail) only [go_sem, seval, -List.reduceReplicate, Int.ofNat_lt, hc, ix_map, encRow, hrl, hd, hci]
    refine wp_loop_to i (fun k st => ∃ (ex : List (Nat × Vl)), st = ({ sl := (0, SL 1 (r.fs.map encRow) o) :: (3, I i) :: (4, SL 1 (r.fs[i]!.map Vl.bool) (some false)) :: (14, SL 1 (r.fs.map encRow) o) :: (15, I r.fs.length) :: (16, I i) :: (32, I i) :: (33, I k) :: ex, hp := noHeap, nx := 0 } : FS)) ?_ 0 (Nat.zero_le _) ⟨_, rfl⟩
    rintro k st hk ⟨ex, rfl⟩
    by_cases hck : k < i
    · have hkf : k < r.fs.length := by omega
      have hki : k < (r.fs[i]!).length := by rw [hrl]; exact hkf
      have hik : i < (r.fs[k]!).length := by rw [hv.fs_ok _ (get!_mem hkf)]; exact hc
      have hs := hv.symm i k hck hc
      simp +contextual (maxSteps := 1000000) (disch := first | omega | (with_reducible first | refine krN ?_ | refine krS ?_ | refine krP ?_ | refine krG ?_); kernel_rfl | refine kr ?_; simp only [go_sem, seval, -List.reduceReplicate, Int.ofNat_lt, hck, hkf, ix_map, encRow, hki, hik, hs, bin_neB, bne_self_eq_false]; done | fail) only [go_sem, seval, -List.reduceReplicate, Int.ofNat_lt, hck, hkf, ix_map, encRow, hki, hik, hs, bin_neB, bne_self_eq_false]
      exact ⟨_, rfl⟩
    · have hke : k = i := by omega
      subst hke
      simp +contextual (maxSteps := 1000000) (disch := first | omega | (with_reducible first | refine krN ?_ | refine krS ?_ | refine krP ?_ | refine krG ?_); kernel_rfl | refine kr ?_; simp only [go_sem, seval, -List.reduceReplicate, Int.lt_irrefl]; done | fail) only [go_sem, seval, -List.reduceReplicate, Int.lt_irrefl]
      exact ⟨_, rfl⟩
  · have hie : i = r.fs.length := by omega
    subst hie
    simp +contextual (maxSteps := 1000000) (disch := first | omega | (with_reducible first | refine krN ?_ | refine krS ?_ | refine krP ?_ | refine krG ?_); kernel_rfl | refine kr ?_; simp only [go_sem, seval, -List.reduceReplicate, Int.lt_irrefl]; done | fail) only [go_sem, seval, -List.reduceReplicate, Int.lt_irrefl]
theorem wc60 {r : Roll} (hv : WF r) {o : Option Bool} : WC Try.prog (AA b) (.fn (.func 60) [] []) [.v (SL 1 (r.fs.map encRow) o)] m K = K (I 0) m :=
  WC_flat (by simp only [mkAnn, K60]) (rfAs (xs := [SL 1 (r.fs.map encRow) o]) (by show ((SL 1 (r.fs.map encRow) o).closed && true) = true; rw [closed_SL (closedL_map clRw r.fs)]; rfl)) (towns_to hv) rfl
theorem bin_neS0 : binOpV { ok := true, agg := true, size := 2, zero := Vl.agg [I 0, I 0], flat := some [CK.i, CK.i], k := TK.struct [(0, false, 1), (1, false, 1)] } .neq (Vl.agg [I 0, I 0]) (Vl.agg [I 0, I 0]) = some (.bool false) := rfl
theorem wc61 {lo hi : Int} (h : YearsOk lo hi) : WC Try.prog (AA b) (.fn (.func 61) [] []) [.v (.agg [I lo, I hi])] m K = K (I 0) m :=
  WC_flat (by simp only [mkAnn, K61]) (rfAs (xs := [.agg [I lo, I hi]]) rfl) ((checkYears_to lo hi).mono fun v hv => by rw [hv, if_pos (by unfold YearsOk at h; omega), if_pos h.2.1]) rfl
theorem record_to {r : Roll} (hv : Val r) {c : Rec} (hc : RecVal r c) {o1 o2 o3 o4 : Option Bool} : Ans Try.prog (AA b) 62 [encRoll o1 o2 o3 o4 r, encC c] (fun v => v = I 0) := by
  refine Ans_of Try.func62 rfl rfl ?_
  have hm := hv.ms_l
  have hl := hv.fs_l
  have ho := hv.os_l
  obtain ⟨c1, c2, c3, c4⟩ := hc
  have hw : IntKind.wrap .i64 ((r.ms.length : Int) - 1) = (r.ms.length : Int) - 1 := wrap_i64 (by omega) (by omega)
  have inT : ∀ {x lo hi : Int}, lo ≤ x ∧ x ≤ hi → (decide (lo ≤ x) && decide (x ≤ hi)) = true := fun h => by rw [decide_eq_true h.1, decide_eq_true h.2]; rfl
  have i1 := inT (x := c.man) (lo := 0) (hi := (r.ms.length : Int) - 1) (by omega)
  cases hk : c.kin with
  | true =>
    obtain ⟨d1, d2, d3, d4, d5, d6, d7⟩ := c3 hk
    have i2 := inT (x := c.child) (lo := 0) (hi := (r.ms.length : Int) - 1) (by omega)
    simp +contextual (maxSteps := 1000000) (disch := first | omega | (with_reducible first | refine krN ?_ | refine krS ?_ | refine krP ?_ | refine krG ?_); kernel_rfl | refine kr ?_; simp only [go_sem, seval, -List.reduceReplicate, encC, hw, i1, i2, hk, d3, d4, d5, d6, d7, bin_neS0]; done | fail) only [go_sem, seval, -List.reduceReplicate, encC, hw, i1, i2, hk, d3, d4, d5, d6, d7, bin_neS0]
  | false =>
    obtain ⟨d1, d2, d3, d4, d5, d6⟩ := c4 hk
    have hwf : IntKind.wrap .i64 ((r.fs.length : Int) - 1) = (r.fs.length : Int) - 1 := wrap_i64 (by omega) (by omega)
    have hwo : IntKind.wrap .i64 ((r.os.length : Int) - 1) = (r.os.length : Int) - 1 := wrap_i64 (by omega) (by omega)
    have i2 := inT (x := c.office) (lo := -1) (hi := (r.os.length : Int) - 1) (by omega)
    have i3 := inT (x := c.town) (lo := 0) (hi := (r.fs.length : Int) - 1) (by omega)
    simp +contextual (maxSteps := 1000000) (disch := first | omega | (with_reducible first | refine krN ?_ | refine krS ?_ | refine krP ?_ | refine krG ?_); kernel_rfl | refine kr ?_; simp only [go_sem, seval, -List.reduceReplicate, encC, hw, hwf, hwo, i1, i2, i3, hk, d5, wc61, d6]; done | fail) only [go_sem, seval, -List.reduceReplicate, encC, hw, hwf, hwo, i1, i2, i3, hk, d5, wc61, d6]
theorem wc62 {r : Roll} (hv : Val r) {c : Rec} (hc : RecVal r c) {o1 o2 o3 o4 : Option Bool} : WC Try.prog (AA b) (.fn (.func 62) [] []) [.v (encRoll o1 o2 o3 o4 r), .v (.agg [.bool c.kin, I c.man, I c.office, I c.town, I c.child, I c.lo, I c.hi])] m K = K (I 0) m :=
  WC_flat (by simp only [mkAnn, K62]) (rfAs (xs := [encRoll o1 o2 o3 o4 r, encC c]) (by show ((encRoll o1 o2 o3 o4 r).closed && ((encC c).closed && true)) = true; rw [clRoll, clC]; rfl)) (record_to hv hc) rfl
set_option maxRecDepth 10000 in
set_option maxHeartbeats 4000000 in
theorem check_to {r : Roll} (hv : WF r) {o1 o2 o3 o4 : Option Bool} : Ans Try.prog (AA b) 24 [encRoll o1 o2 o3 o4 r] (fun v => v = I 0) := by
  refine Ans_of Try.func24 rfl rfl ?_
  have hm := hv.ms_l
  have hl := hv.fs_l
  have ho := hv.os_l
  have hc8 := hv.cs_l
  have e5 : ¬ (5 < (r.os.length : Int)) := by omega
  have inT : ∀ {x lo hi : Int}, lo ≤ x ∧ x ≤ hi → (decide (lo ≤ x) && decide (x ≤ hi)) = true := fun h => by rw [decide_eq_true h.1, decide_eq_true h.2]; rfl
  simp +contextual (maxSteps := 1000000) (disch := first | omega | (with_reducible first | refine krN ?_ | refine krS ?_ | refine krP ?_ | refine krG ?_); kernel_rfl | refine kr ?_; simp only [go_sem, seval, -List.reduceReplicate, e5]; done | fail) only [go_sem, seval, -List.reduceReplicate, e5]
  refine wp_loop_to r.os.length (fun i st => ∃ (ex : List (Nat × Vl)), st = ({ sl := (1, .loc (encRoll o1 o2 o3 o4 r)) :: (19, SL 3 (r.os.map encO) o1) :: (20, I r.os.length) :: (21, I i) :: ex, hp := noHeap, nx := 0 } : FS)) ?_ 0 (Nat.zero_le _) ⟨_, rfl⟩
  rintro i st hi ⟨ex, rfl⟩
  by_cases hc : i < r.os.length
  · obtain ⟨a1, a2, a3, a4, a5, a6⟩ := hv.os_ok _ (get!_mem hc)
    have i1 := inT (x := (r.os[i]!).age) (lo := 0) (hi := 100) (by omega)
    have i2 := inT (x := (r.os[i]!).gap) (lo := 0) (hi := 100) (by omega)
    have i3 := inT (x := (r.os[i]!).again) (lo := 1) (hi := 100) (by omega)
    simp +contextual (maxSteps := 1000000) (disch := first | omega | (with_reducible first | refine krN ?_ | refine krS ?_ | refine krP ?_ | refine krG ?_); kernel_rfl | refine kr ?_; simp only [go_sem, seval, -List.reduceReplicate, Int.ofNat_lt, hc, ix_map, encO, i1, i2, i3]; done | fail) only [go_sem, seval, -List.reduceReplicate, Int.ofNat_lt, hc, ix_map, encO, i1, i2, i3]
    exact ⟨_, rfl⟩
  · have hie : i = r.os.length := by omega
    subst hie
    clear hi hc
    have i1 := inT (x := r.life) (lo := 0) (hi := 100) (by have := hv.life; omega)
    have i2 := inT (x := r.plo) (lo := 1) (hi := 100) (by have := hv.par; omega)
    have i3 := inT (x := r.phi) (lo := 1) (hi := 100) (by have := hv.par; omega)
    have e1 : ¬ (r.phi < r.plo) := by have := hv.par; omega
    have e2 : ¬ ((r.ms.length : Int) = 0) := by omega
    have e3 : ¬ (6 < (r.ms.length : Int)) := by omega
    simp +contextual (maxSteps := 1000000) (disch := first | omega | (with_reducible first | refine krN ?_ | refine krS ?_ | refine krP ?_ | refine krG ?_); kernel_rfl | refine kr ?_; simp only [go_sem, seval, -List.reduceReplicate, Int.lt_irrefl, i1, i2, i3, e1, e2, e3, wc60, hv]; done | fail) only [go_sem, seval, -List.reduceReplicate, Int.lt_irrefl, i1, i2, i3, e1, e2, e3, wc60, hv]
    refine wp_loop_to r.ms.length (fun i st => ∃ (ex : List (Nat × Vl)), st = ({ sl := (1, .loc (encRoll o1 o2 o3 o4 r)) :: (80, SL 5 (r.ms.map encM) o3) :: (81, I r.ms.length) :: (82, I i) :: ex, hp := noHeap, nx := 0 } : FS)) ?_ 0 (Nat.zero_le _) ⟨_, rfl⟩
    clear ex i1 i2 i3
    rintro i st hi ⟨ex, rfl⟩
    by_cases hc : i < r.ms.length
    · obtain ⟨y1, y2⟩ := hv.ms_ok _ (get!_mem hc)
      have i1 := inT (x := (r.ms[i]!).name) (lo := 0) (hi := 9) (hv.names _ (get!_mem hc))
      simp +contextual (maxSteps := 1000000) (disch := first | omega | (with_reducible first | refine krN ?_ | refine krS ?_ | refine krP ?_ | refine krG ?_); kernel_rfl | refine kr ?_; simp only [go_sem, seval, -List.reduceReplicate, Int.ofNat_lt, hc, ix_map, encM, i1, wc61, y1, y2]; done | fail) only [go_sem, seval, -List.reduceReplicate, Int.ofNat_lt, hc, ix_map, encM, i1, wc61, y1, y2]
      exact ⟨_, rfl⟩
    · have hie : i = r.ms.length := by omega
      subst hie
      clear hi hc
      have e8 : ¬ (8 < (r.cs.length : Int)) := by omega
      simp +contextual (maxSteps := 1000000) (disch := first | omega | (with_reducible first | refine krN ?_ | refine krS ?_ | refine krP ?_ | refine krG ?_); kernel_rfl | refine kr ?_; simp only [go_sem, seval, -List.reduceReplicate, Int.lt_irrefl, e8]; done | fail) only [go_sem, seval, -List.reduceReplicate, Int.lt_irrefl, e8]
      refine wp_loop_to r.cs.length (fun i st => ∃ (ex : List (Nat × Vl)), st = ({ sl := (1, .loc (encRoll o1 o2 o3 o4 r)) :: (108, SL 7 (r.cs.map encC) o4) :: (109, I r.cs.length) :: (110, I i) :: ex, hp := noHeap, nx := 0 } : FS)) ?_ 0 (Nat.zero_le _) ⟨_, rfl⟩
      clear ex
      rintro i st hi ⟨ex, rfl⟩
      by_cases hc : i < r.cs.length
      · have hr := hv.cs_ok _ (get!_mem hc)
        have hr62 := fun (m : Mem) (K : Vl → Mem → Prop) => wc62 (b := b) (m := m) (K := K) hv.toVal hr (o1 := o1) (o2 := o2) (o3 := o3) (o4 := o4)
        simp +contextual (maxSteps := 1000000) (disch := first | omega | (with_reducible first | refine krN ?_ | refine krS ?_ | refine krP ?_ | refine krG ?_); kernel_rfl | refine kr ?_; simp only [go_sem, seval, -List.reduceReplicate, Int.ofNat_lt, hc, ix_map, encC, hr62]; done | fail) only [go_sem, seval, -List.reduceReplicate, Int.ofNat_lt, hc, ix_map, encC, hr62]
        exact ⟨_, rfl⟩
      · have hie : i = r.cs.length := by omega
        subst hie
        simp +contextual (maxSteps := 1000000) (disch := first | omega | (with_reducible first | refine krN ?_ | refine krS ?_ | refine krP ?_ | refine krG ?_); kernel_rfl | refine kr ?_; simp only [go_sem, seval, -List.reduceReplicate, Int.lt_irrefl]; done | fail) only [go_sem, seval, -List.reduceReplicate, Int.lt_irrefl]
theorem wc24 {r : Roll} (hv : WF r) {o1 o2 o3 o4 : Option Bool} : WC Try.prog (AA b) (.fn (.func 24) [] []) [.v (encRoll o1 o2 o3 o4 r)] m K = K (I 0) m :=
  WC_flat (by simp only [mkAnn, K24]) (rfAs (xs := [encRoll o1 o2 o3 o4 r]) (by show ((encRoll o1 o2 o3 o4 r).closed && true) = true; rw [clRoll]; rfl)) (check_to hv) rfl
end
end Go.Proofs
namespace Go.Proofs
open Go Go.Idl
set_option linter.unusedSimpArgs false
variable {b : Bool}
theorem foldl_inv {α β : Type} {f : β → α → β} {P : β → Prop} : ∀ {w : List α} {b : β}, P b → (∀ b, ∀ a ∈ w, P b → P (f b a)) → P (w.foldl f b)
  | [], _, h, _ => h
  | a :: w, b, h, hf => foldl_inv (w := w) (hf b a List.mem_cons_self h) fun b' a' ha => hf b' a' (List.mem_cons_of_mem _ ha)
theorem searchF_len {enough : Bool} : ∀ {ws : List (List (List Rule))} {k : Kn} {l : List Rule} {st : Kn × Bool}, InB k → (∀ x ∈ l, RB x) → (∀ w ∈ ws, ∀ alt ∈ w, ∀ x ∈ alt, RB x) → st.1.length = 20 → (searchF enough ws k l st).1.length = 20
  | [], k, l, st, hk, hl, _, hs => by
    unfold searchF
    split
    · exact hs
    · rw [hullTo_len]; split
      · exact hs
      · exact (InB_nar hk hl).1
  | w :: ws, k, l, st, hk, hl, hw, hs => by
    unfold searchF
    split
    · exact hs
    · exact foldl_inv (P := fun st : Kn × Bool => st.1.length = 20) hs fun st' alt ha hs' => searchF_len (InB_nar hk hl) (fun x hx => (List.mem_append.1 hx).elim (hl x) (hw w List.mem_cons_self alt ha x)) (fun w' h' => hw w' (List.mem_cons_of_mem _ h')) hs'
theorem solveF_len {enough : Bool} {r : Roll} (hv : Val r) : (solveF enough r).1.length = 20 :=
  searchF_len (recK_InB hv (Nat.le_refl _)) (rules_ok hv) (fun w hw alt ha => ((choices_ok hv w hw).2 alt ha).2.2) rfl
section
variable {m : Mem} {K : Vl → Mem → Prop}
end
end Go.Proofs
