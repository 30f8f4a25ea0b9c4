/- What functions of the given program do in the ideal machine (JK), and the plain laws of what they answer; the conditions stand in each theorem. -/
import Derived.Test.YtoamjmokonnglaaDoorJj
set_option linter.all false
set_option linter.unusedSectionVars false
set_option linter.unusedSimpArgs false
set_option linter.unusedVariables false
namespace Go.Proofs
open Go Go.Idl Go.Dt
set_option linter.unusedSimpArgs false
variable {b : Nat}
def waysQ : List Wk → List Int → List (List Int)
  | [], T => [T]
  | n :: ns, T => n.ways.flatMap fun s => let q := clsQ (withinL T n.a n.b s.1 s.2); if q.2 then waysQ ns q.1 else []
set_option maxRecDepth 100000 in
theorem waysQ_eq : ∀ (ns : List Wk) (T : List Int), T.length = 100 → waysQ ns T = waysL ns T
  | [], _, _ => rfl
  | n :: ns, T, h => by
    have key : ∀ s : Int × Int, (if (clsQ (withinL T n.a n.b s.1 s.2)).2 then waysQ ns (clsQ (withinL T n.a n.b s.1 s.2)).1 else []) = (if (clsL (withinL T n.a n.b s.1 s.2)).2 then waysL ns (clsL (withinL T n.a n.b s.1 s.2)).1 else []) := fun s => by
      rw [clsQ_eq (within_len h)]
      split
      · exact waysQ_eq ns _ (clsL_len (within_len h))
      · rfl
    exact congrArg (fun f => n.ways.flatMap f) (funext key)
def tabsQ (d : Dt) : List (List Int) := let q := clsQ (erasL 0 d.eras blankL); if q.2 then waysQ (d.notes.map Nt.wk) q.1 else []
set_option maxRecDepth 100000 in
theorem tabsQ_eq (d : Dt) : tabsL d = tabsQ d := by
  have e := eras_len d.eras 0 _ blank_len
  have key : (if (clsQ (erasL 0 d.eras blankL)).2 then waysQ (d.notes.map Nt.wk) (clsQ (erasL 0 d.eras blankL)).1 else []) = (if (clsL (erasL 0 d.eras blankL)).2 then waysL (d.notes.map Nt.wk) (clsL (erasL 0 d.eras blankL)).1 else []) := by
    rw [clsQ_eq e]
    split
    · exact waysQ_eq _ _ (clsL_len e)
    · rfl
  exact key.symm
def nt3 : Nt := ⟨3, 0, 0, 100, 100, [], none⟩
def nt1 : Nt := ⟨1, 1, 0, 0, 0, [-215, -207], some true⟩
def nt2 : Nt := ⟨2, 2, 0, -200, -150, [], none⟩
def nt4 : Nt := ⟨4, 2, 1, 0, 30, [], none⟩
def nt2' : Nt := ⟨2, 1, 0, -190, -180, [], none⟩
def ntA (lo hi : Int) : Nt := ⟨4, 1, 0, lo, hi, [], none⟩
def D54 : Dt := ⟨3, [(-312, -311)], [nt3, nt1, ntA 1 10, nt2, nt4]⟩
def D53 : Dt := ⟨3, [(-312, -311)], [nt3, nt1, ntA (-5) 10, nt2, nt4]⟩
def D55 : Dt := ⟨3, [(-312, -311)], [nt3, nt1, ntA 1 10, nt2, nt4, nt2']⟩
def fV (e : Int) (l : List (List Int)) : Vl × Int := if e ≠ 0 then (.nils, e) else if l.length = 0 then (.nils, 9) else (.lst 100 (l.map tV) false, 0)
theorem foundV_fV (d : Dt) : foundV d = fV (checkE d) (tabsQ d) := by rw [← tabsQ_eq]; rfl
def earG (e st : Int) (f : Vl × Int) (l : List (List Int)) (a c : Int) : Int × Int :=
  if e ≠ 0 then (0, e) else if ¬ ((0 ≤ a ∧ a ≤ st - 1) ∧ (0 ≤ c ∧ c ≤ st - 1)) then (0, 3)
  else if f.2 ≠ 0 then (0, f.2) else (verdT (l.all (befT (1 + a.toNat) (1 + c.toNat))) (l.all (notT (1 + a.toNat) (1 + c.toNat))), 0)
def earQ (d : Dt) (a c : Int) : Int × Int := earG (checkE d) d.stones (fV (checkE d) (tabsQ d)) (tabsQ d) a c
theorem earG_eq (d : Dt) (a c : Int) : earV d a c = earG (checkE d) d.stones (foundV d) (tabsL d) a c := rfl
theorem earQ_eq (d : Dt) (a c : Int) : earV d a c = earQ d a c := by
  have h1 := foundV_fV d
  have h2 := tabsQ_eq d
  exact (earG_eq d a c).trans (by rw [h1, h2, earQ])
def wrongQ (d : Dt) : Option Nat := (srtL d.notes.length).find? fun s => !(tabsQ (dropD s d)).isEmpty
theorem wrongQ_eq (d : Dt) : wrongF d = wrongQ d := by
  have h : (fun s => !(tabsL (dropD s d)).isEmpty) = (fun s => !(tabsQ (dropD s d)).isEmpty) := funext fun s => congrArg (fun l : List (List Int) => !l.isEmpty) (tabsQ_eq (dropD s d))
  exact congrArg (fun p => (srtL d.notes.length).find? p) h
@[reducible] def eD (d : Dt) : Vl := encD (some true) (some false) d
def cutG (e st : Int) (f : Vl × Int) (l : List (List Int)) (w y : Int) : Int × Int :=
  if e ≠ 0 then (0, e) else if ¬ (0 ≤ w ∧ w ≤ st - 1) then (0, 3) else if ¬ (-3000 ≤ y ∧ y ≤ 3000) then (0, 1)
  else if f.2 ≠ 0 then (0, f.2) else (verdT (l.all (alwT (1 + w.toNat) y)) (l.all (nevT (1 + w.toNat) y)), 0)
def cutQ (d : Dt) (w y : Int) : Int × Int := cutG (checkE d) d.stones (fV (checkE d) (tabsQ d)) (tabsQ d) w y
theorem cutG_eq (d : Dt) (w y : Int) : cutV d w y = cutG (checkE d) d.stones (foundV d) (tabsL d) w y := rfl
theorem cutQ_eq (d : Dt) (w y : Int) : cutV d w y = cutQ d w y := by
  have h1 := foundV_fV d
  have h2 := tabsQ_eq d
  exact (cutG_eq d w y).trans (by rw [h1, h2, cutQ])
theorem q_y53 : Vl.tup [if (fV (checkE D53) (tabsQ D53)).2 = 0 then spansV (tabsQ D53) 1 D53.stones.toNat else .nils, I (fV (checkE D53) (tabsQ D53)).2] = .tup [.lst 2 [Sp (-213) (-212), Sp (-215) (-207), Sp (-200) (-177)] false, I 0] := by kernel_rfl
theorem c_y53 : PCall Tryd.prog 7 [eD D53] (.tup [.lst 2 [Sp (-213) (-212), Sp (-215) (-207), Sp (-200) (-177)] false, I 0]) := by
  obtain ⟨v, h1, h2⟩ := years27_to (b := 0) (d := D53) (o1 := some true) (o2 := some false)
  have h := pcall_of ext_0 h1
  rw [h2, foundV_fV, tabsQ_eq, q_y53] at h
  exact h
theorem q_y54 : Vl.tup [if (fV (checkE D54) (tabsQ D54)).2 = 0 then spansV (tabsQ D54) 1 D54.stones.toNat else .nils, I (fV (checkE D54) (tabsQ D54)).2] = .tup [.lst 2 [Sp (-213) (-212), Sp (-207) (-207), Sp (-200) (-177)] false, I 0] := by kernel_rfl
theorem c_y54 : PCall Tryd.prog 7 [eD D54] (.tup [.lst 2 [Sp (-213) (-212), Sp (-207) (-207), Sp (-200) (-177)] false, I 0]) := by
  obtain ⟨v, h1, h2⟩ := years27_to (b := 0) (d := D54) (o1 := some true) (o2 := some false)
  have h := pcall_of ext_0 h1
  rw [h2, foundV_fV, tabsQ_eq, q_y54] at h
  exact h
theorem q_y55 : Vl.tup [if (fV (checkE D55) (tabsQ D55)).2 = 0 then spansV (tabsQ D55) 1 D55.stones.toNat else .nils, I (fV (checkE D55) (tabsQ D55)).2] = .tup [.nils, I 9] := by kernel_rfl
theorem c_y55 : PCall Tryd.prog 7 [eD D55] (.tup [.nils, I 9]) := by
  obtain ⟨v, h1, h2⟩ := years27_to (b := 0) (d := D55) (o1 := some true) (o2 := some false)
  have h := pcall_of ext_0 h1
  rw [h2, foundV_fV, tabsQ_eq, q_y55] at h
  exact h
theorem q_f54 : Vl.tup [if (fV (checkE D54) (tabsQ D54)).2 = 0 then spansV (tabsQ D54) 7 D54.eras.length else .nils, I (fV (checkE D54) (tabsQ D54)).2] = .tup [.lst 2 [Sp (-312) (-311)] false, I 0] := by kernel_rfl
theorem c_f54 : PCall Tryd.prog 8 [eD D54] (.tup [.lst 2 [Sp (-312) (-311)] false, I 0]) := by
  obtain ⟨v, h1, h2⟩ := firsts38_to (b := 0) (d := D54) (o1 := some true) (o2 := some false)
  have h := pcall_of ext_0 h1
  rw [h2, foundV_fV, tabsQ_eq, q_f54] at h
  exact h
theorem q_e1 : earQ D54 0 1 = (1, 0) := by kernel_rfl
theorem c_e1 : PCall Tryd.prog 14 [eD D54, I 0, I 1] (.tup [I 1, I 0]) := by
  obtain ⟨v, h1, h2⟩ := ear_to (b := 0) (d := D54) (a := 0) (c := 1) (o1 := some true) (o2 := some false)
  have h := pcall_of ext_0 h1
  rw [h2, earQ_eq, q_e1] at h
  exact h
theorem q_e2 : earQ D54 2 0 = (2, 0) := by kernel_rfl
theorem c_e2 : PCall Tryd.prog 14 [eD D54, I 2, I 0] (.tup [I 2, I 0]) := by
  obtain ⟨v, h1, h2⟩ := ear_to (b := 0) (d := D54) (a := 2) (c := 0) (o1 := some true) (o2 := some false)
  have h := pcall_of ext_0 h1
  rw [h2, earQ_eq, q_e2] at h
  exact h
theorem q_e3 : earQ D53 0 1 = (3, 0) := by kernel_rfl
theorem c_e3 : PCall Tryd.prog 14 [eD D53, I 0, I 1] (.tup [I 3, I 0]) := by
  obtain ⟨v, h1, h2⟩ := ear_to (b := 0) (d := D53) (a := 0) (c := 1) (o1 := some true) (o2 := some false)
  have h := pcall_of ext_0 h1
  rw [h2, earQ_eq, q_e3] at h
  exact h
theorem q_e4 : earQ D53 0 0 = (2, 0) := by kernel_rfl
theorem c_e4 : PCall Tryd.prog 14 [eD D53, I 0, I 0] (.tup [I 2, I 0]) := by
  obtain ⟨v, h1, h2⟩ := ear_to (b := 0) (d := D53) (a := 0) (c := 0) (o1 := some true) (o2 := some false)
  have h := pcall_of ext_0 h1
  rw [h2, earQ_eq, q_e4] at h
  exact h
theorem q_k1 : cutQ D54 0 (-213) = (3, 0) := by kernel_rfl
theorem c_k1 : PCall Tryd.prog 12 [eD D54, I 0, I (-213)] (.tup [I 3, I 0]) := by
  obtain ⟨v, h1, h2⟩ := cut_to (b := 0) (d := D54) (w := 0) (y := -213) (o1 := some true) (o2 := some false)
  have h := pcall_of ext_0 h1
  rw [h2, cutQ_eq, q_k1] at h
  exact h
theorem q_k2 : cutQ D54 1 (-207) = (1, 0) := by kernel_rfl
theorem c_k2 : PCall Tryd.prog 12 [eD D54, I 1, I (-207)] (.tup [I 1, I 0]) := by
  obtain ⟨v, h1, h2⟩ := cut_to (b := 0) (d := D54) (w := 1) (y := -207) (o1 := some true) (o2 := some false)
  have h := pcall_of ext_0 h1
  rw [h2, cutQ_eq, q_k2] at h
  exact h
theorem q_k3 : cutQ D54 1 (-215) = (2, 0) := by kernel_rfl
theorem c_k3 : PCall Tryd.prog 12 [eD D54, I 1, I (-215)] (.tup [I 2, I 0]) := by
  obtain ⟨v, h1, h2⟩ := cut_to (b := 0) (d := D54) (w := 1) (y := -215) (o1 := some true) (o2 := some false)
  have h := pcall_of ext_0 h1
  rw [h2, cutQ_eq, q_k3] at h
  exact h
theorem q_k4 : cutQ D54 3 (0) = (0, 3) := by kernel_rfl
theorem c_k4 : PCall Tryd.prog 12 [eD D54, I 3, I (0)] (.tup [I 0, I 3]) := by
  obtain ⟨v, h1, h2⟩ := cut_to (b := 0) (d := D54) (w := 3) (y := 0) (o1 := some true) (o2 := some false)
  have h := pcall_of ext_0 h1
  rw [h2, cutQ_eq, q_k4] at h
  exact h
theorem q_k5 : cutQ D53 1 (-210) = (2, 0) := by kernel_rfl
theorem c_k5 : PCall Tryd.prog 12 [eD D53, I 1, I (-210)] (.tup [I 2, I 0]) := by
  obtain ⟨v, h1, h2⟩ := cut_to (b := 0) (d := D53) (w := 1) (y := -210) (o1 := some true) (o2 := some false)
  have h := pcall_of ext_0 h1
  rw [h2, cutQ_eq, q_k5] at h
  exact h
theorem q_w55 : wrongQ D55 = some 32 := by kernel_rfl
theorem z_w55 : checkE D55 = 0 := by kernel_rfl
theorem c_w55 : PCall Tryd.prog 15 [eD D55] (.tup [.lst 1 [I 5] false, I 0]) := by
  obtain ⟨v, h1, h2⟩ := wrong_to (c := 0) (d := D55) (o1 := some true) (o2 := some false) (fun _ => by decide)
  have h := pcall_of ext_1 h1
  rw [h2, wrongV, if_neg (fun k => k z_w55), wrongQ_eq, q_w55] at h
  exact h
theorem q_w54 : wrongQ D54 = some 0 := by kernel_rfl
theorem z_w54 : checkE D54 = 0 := by kernel_rfl
theorem c_w54 : PCall Tryd.prog 15 [eD D54] (.tup [.nils, I 0]) := by
  obtain ⟨v, h1, h2⟩ := wrong_to (c := 0) (d := D54) (o1 := some true) (o2 := some false) (fun _ => by decide)
  have h := pcall_of ext_1 h1
  rw [h2, wrongV, if_neg (fun k => k z_w54), wrongQ_eq, q_w54] at h
  exact h
def tabX : List (List Vl × Vl) → List Vl → Option Vl
  | [], _ => none
  | p :: l, args => if eqVls args p.1 then some p.2 else tabX l args
theorem tabX_sound {g : FuncId} {args : List Vl} {r : Vl} : ∀ {l : List (List Vl × Vl)}, (∀ p ∈ l, PCall Tryd.prog g p.1 p.2) → tabX l args = some r → PCall Tryd.prog g args r
  | [], _, h => by cases h
  | p :: l, hp, h => by
    unfold tabX at h
    split at h
    · rename_i e
      cases h
      rw [eqVls_sound e]
      exact hp p (List.mem_cons_self ..)
    · exact tabX_sound (fun q hq => hp q (List.mem_cons_of_mem _ hq)) h
def t7 : List (List Vl × Vl) := [([eD D53], .tup [.lst 2 [Sp (-213) (-212), Sp (-215) (-207), Sp (-200) (-177)] false, I 0]), ([eD D54], .tup [.lst 2 [Sp (-213) (-212), Sp (-207) (-207), Sp (-200) (-177)] false, I 0]), ([eD D55], .tup [.nils, I 9])]
theorem t7_ok : ∀ p ∈ t7, PCall Tryd.prog 7 p.1 p.2 := by
  intro p hp
  simp only [t7, List.mem_cons, List.not_mem_nil, or_false] at hp
  rcases hp with rfl | rfl | rfl
  · exact c_y53
  · exact c_y54
  · exact c_y55
def t8 : List (List Vl × Vl) := [([eD D54], .tup [.lst 2 [Sp (-312) (-311)] false, I 0])]
theorem t8_ok : ∀ p ∈ t8, PCall Tryd.prog 8 p.1 p.2 := by
  intro p hp
  simp only [t8, List.mem_cons, List.not_mem_nil, or_false] at hp
  subst hp
  · exact c_f54
def t14 : List (List Vl × Vl) := [([eD D54, I 0, I 1], .tup [I 1, I 0]), ([eD D54, I 2, I 0], .tup [I 2, I 0]), ([eD D53, I 0, I 1], .tup [I 3, I 0]), ([eD D53, I 0, I 0], .tup [I 2, I 0])]
theorem t14_ok : ∀ p ∈ t14, PCall Tryd.prog 14 p.1 p.2 := by
  intro p hp
  simp only [t14, List.mem_cons, List.not_mem_nil, or_false] at hp
  rcases hp with rfl | rfl | rfl | rfl
  · exact c_e1
  · exact c_e2
  · exact c_e3
  · exact c_e4
def t12 : List (List Vl × Vl) := [([eD D54, I 0, I (-213)], .tup [I 3, I 0]), ([eD D54, I 1, I (-207)], .tup [I 1, I 0]), ([eD D54, I 1, I (-215)], .tup [I 2, I 0]), ([eD D54, I 3, I (0)], .tup [I 0, I 3]), ([eD D53, I 1, I (-210)], .tup [I 2, I 0])]
theorem t12_ok : ∀ p ∈ t12, PCall Tryd.prog 12 p.1 p.2 := by
  intro p hp
  simp only [t12, List.mem_cons, List.not_mem_nil, or_false] at hp
  rcases hp with rfl | rfl | rfl | rfl | rfl
  · exact c_k1
  · exact c_k2
  · exact c_k3
  · exact c_k4
  · exact c_k5
def t15 : List (List Vl × Vl) := [([eD D55], .tup [.lst 1 [I 5] false, I 0]), ([eD D54], .tup [.nils, I 0])]
theorem t15_ok : ∀ p ∈ t15, PCall Tryd.prog 15 p.1 p.2 := by
  intro p hp
  simp only [t15, List.mem_cons, List.not_mem_nil, or_false] at hp
  rcases hp with rfl | rfl
  · exact c_w55
  · exact c_w54
end Go.Proofs
