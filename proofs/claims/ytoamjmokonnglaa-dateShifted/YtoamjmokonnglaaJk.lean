/- What functions of the given program do in the ideal machine (J20), and the plain laws of what they answer; the conditions stand in each theorem. -/
import Derived.Test.YtoamjmokonnglaaJj
set_option linter.all false
set_option linter.unusedSectionVars false
set_option linter.unusedSimpArgs false
set_option linter.unusedVariables false
namespace Go.Proofs
open Go Go.Idl Go.Dt
set_option linter.unusedSimpArgs false
variable {b : Nat}
def waysQ : List Wk → List Int → List (List Int)
  | [], T => [T]
  | n :: ns, T => n.ways.flatMap fun s => let q := clsQ (withinL T n.a n.b s.1 s.2); if q.2 then waysQ ns q.1 else []
set_option maxRecDepth 100000 in
theorem waysQ_eq : ∀ (ns : List Wk) (T : List Int), T.length = 100 → waysQ ns T = waysL ns T
  | [], _, _ => rfl
  | n :: ns, T, h => by
    have key : ∀ s : Int × Int, (if (clsQ (withinL T n.a n.b s.1 s.2)).2 then waysQ ns (clsQ (withinL T n.a n.b s.1 s.2)).1 else []) = (if (clsL (withinL T n.a n.b s.1 s.2)).2 then waysL ns (clsL (withinL T n.a n.b s.1 s.2)).1 else []) := fun s => by
      rw [clsQ_eq (within_len h)]
      split
      · exact waysQ_eq ns _ (clsL_len (within_len h))
      · rfl
    exact congrArg (fun f => n.ways.flatMap f) (funext key)
def tabsQ (d : Dt) : List (List Int) := let q := clsQ (erasL 0 d.eras blankL); if q.2 then waysQ (d.notes.map Nt.wk) q.1 else []
set_option maxRecDepth 100000 in
theorem tabsQ_eq (d : Dt) : tabsL d = tabsQ d := by
  have e := eras_len d.eras 0 _ blank_len
  have key : (if (clsQ (erasL 0 d.eras blankL)).2 then waysQ (d.notes.map Nt.wk) (clsQ (erasL 0 d.eras blankL)).1 else []) = (if (clsL (erasL 0 d.eras blankL)).2 then waysL (d.notes.map Nt.wk) (clsL (erasL 0 d.eras blankL)).1 else []) := by
    rw [clsQ_eq e]
    split
    · exact waysQ_eq _ _ (clsL_len e)
    · rfl
  exact key.symm
def nt3 : Nt := ⟨3, 0, 0, 100, 100, [], none⟩
def nt1 : Nt := ⟨1, 1, 0, 0, 0, [-215, -207], some true⟩
def nt2 : Nt := ⟨2, 2, 0, -200, -150, [], none⟩
def nt4 : Nt := ⟨4, 2, 1, 0, 30, [], none⟩
def nt2' : Nt := ⟨2, 1, 0, -190, -180, [], none⟩
def ntA (lo hi : Int) : Nt := ⟨4, 1, 0, lo, hi, [], none⟩
def D54 : Dt := ⟨3, [(-312, -311)], [nt3, nt1, ntA 1 10, nt2, nt4]⟩
def D53 : Dt := ⟨3, [(-312, -311)], [nt3, nt1, ntA (-5) 10, nt2, nt4]⟩
def D55 : Dt := ⟨3, [(-312, -311)], [nt3, nt1, ntA 1 10, nt2, nt4, nt2']⟩
def fV (e : Int) (l : List (List Int)) : Vl × Int := if e ≠ 0 then (.nils, e) else if l.length = 0 then (.nils, 9) else (.lst 100 (l.map tV) false, 0)
theorem foundV_fV (d : Dt) : foundV d = fV (checkE d) (tabsQ d) := by rw [← tabsQ_eq]; rfl
def Ry53 : Vl := .tup [.lst 2 [Sp (-213) (-212), Sp (-215) (-207), Sp (-200) (-177)] false, I 0]
theorem r53 : Vl.tup [if (fV (checkE D53) (tabsQ D53)).2 = 0 then spansV (tabsQ D53) 1 D53.stones.toNat else .nils, I (fV (checkE D53) (tabsQ D53)).2] = Ry53 := by kernel_rfl
def earG (e st : Int) (f : Vl × Int) (l : List (List Int)) (a c : Int) : Int × Int :=
  if e ≠ 0 then (0, e) else if ¬ ((0 ≤ a ∧ a ≤ st - 1) ∧ (0 ≤ c ∧ c ≤ st - 1)) then (0, 3)
  else if f.2 ≠ 0 then (0, f.2) else (verdT (l.all (befT (1 + a.toNat) (1 + c.toNat))) (l.all (notT (1 + a.toNat) (1 + c.toNat))), 0)
def earQ (d : Dt) (a c : Int) : Int × Int := earG (checkE d) d.stones (fV (checkE d) (tabsQ d)) (tabsQ d) a c
theorem earG_eq (d : Dt) (a c : Int) : earV d a c = earG (checkE d) d.stones (foundV d) (tabsL d) a c := rfl
theorem earQ_eq (d : Dt) (a c : Int) : earV d a c = earQ d a c := by
  have h1 := foundV_fV d
  have h2 := tabsQ_eq d
  exact (earG_eq d a c).trans (by rw [h1, h2, earQ])
theorem r54 : earQ D54 0 1 = (1, 0) := by kernel_rfl
def wrongQ (d : Dt) : Option Nat := (srtL d.notes.length).find? fun s => !(tabsQ (dropD s d)).isEmpty
theorem wrongQ_eq (d : Dt) : wrongF d = wrongQ d := by
  have h : (fun s => !(tabsL (dropD s d)).isEmpty) = (fun s => !(tabsQ (dropD s d)).isEmpty) := funext fun s => congrArg (fun l : List (List Int) => !l.isEmpty) (tabsQ_eq (dropD s d))
  exact congrArg (fun p => (srtL d.notes.length).find? p) h
theorem r55 : wrongQ D55 = some 32 := by kernel_rfl
theorem c55 : checkE D55 = 0 := by kernel_rfl
@[reducible] def eD (d : Dt) : Vl := encD (some true) (some false) d
def ex27 (args : List Vl) : Option Vl := if eqVls args [eD D53] then some Ry53 else none
def ex31 (args : List Vl) : Option Vl := if eqVls args [eD D54, I 0, I 1] then some (.tup [I 1, I 0]) else none
def ex21 (args : List Vl) : Option Vl := if eqVls args [eD D55] then some (.tup [.lst 1 [I 5] false, I 0]) else none
def extM (g : Nat) : Option (List Vl → Option Vl) := if g = 27 then some ex27 else if g = 31 then some ex31 else if g = 21 then some ex21 else none
noncomputable abbrev AM : Ann := mkAnn locT keepT ghoT finT heapT extM
theorem call27 : PCall Try.prog 27 [eD D53] Ry53 := by
  obtain ⟨v, h1, h2⟩ := years27_to (b := 0) (d := D53) (o1 := some true) (o2 := some false)
  have h := pcall_of ext_0 h1
  rw [h2, foundV_fV, tabsQ_eq, r53] at h
  exact h
theorem call31 : PCall Try.prog 31 [eD D54, I 0, I 1] (.tup [I 1, I 0]) := by
  obtain ⟨v, h1, h2⟩ := ear_to (b := 0) (d := D54) (a := 0) (c := 1) (o1 := some true) (o2 := some false)
  have h := pcall_of ext_0 h1
  rw [h2, earQ_eq, r54] at h
  exact h
theorem call21 : PCall Try.prog 21 [eD D55] (.tup [.lst 1 [I 5] false, I 0]) := by
  obtain ⟨v, h1, h2⟩ := wrong_to (c := 0) (d := D55) (o1 := some true) (o2 := some false) (fun _ => by decide)
  have h := pcall_of ext_1 h1
  rw [h2, wrongV, if_neg (fun k => k c55), wrongQ_eq, r55] at h
  exact h
theorem ext_M : ExtOk Try.prog AM := .mk (fun g h args r hg hr => by
  have hq : extM g = some h := hg
  clear hg
  unfold extM at hq
  split at hq
  · rename_i e; subst e; cases hq
    unfold ex27 at hr
    split at hr
    · rename_i e; cases hr; rw [eqVls_sound e]; exact call27
    · cases hr
  · split at hq
    · rename_i e; subst e; cases hq
      unfold ex31 at hr
      split at hr
      · rename_i e; cases hr; rw [eqVls_sound e]; exact call31
      · cases hr
    · split at hq
      · rename_i e; subst e; cases hq
        unfold ex21 at hr
        split at hr
        · rename_i e; cases hr; rw [eqVls_sound e]; exact call21
        · cases hr
      · cases hq) (fun g k h => nomatch h)
theorem tm15 : pureI Try.prog AM (exec Try.prog AM 1000 none) 15 [] = some (.bool true) := by kernel_rfl
theorem timely_call : PCall Try.prog 15 [] (.bool true) := pure_calls prog_ok ext_M (exec_ok prog_ok ext_M 1000) tm15
theorem ext_2 : ExtOk Try.prog (AA 2) := .mk (fun g h args r hg hr => by
  have hq : extT 2 g = some h := hg
  clear hg
  unfold extT at hq
  split at hq
  · rename_i e
    subst e
    rw [if_neg (by decide)] at hq
    cases hq
    exact firstX_call hr
  · split at hq
    · rename_i e
      subst e
      rw [if_pos rfl] at hq
      cases hq
      cases args with
      | nil => cases hr; exact timely_call
      | cons a l => cases hr
    · cases hq) (fun g k h => nomatch h)
end Go.Proofs
