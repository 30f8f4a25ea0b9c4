/- What functions of the given program do in the ideal machine (G40, G41), and the plain laws of what they answer; the conditions stand in each theorem. -/
import Derived.Test.YtencmmlmeifffaaGb
import Derived.Test.YtencmmlmeifffaaGd
set_option linter.all false
set_option linter.unusedSectionVars false
set_option linter.unusedSimpArgs false
set_option linter.unusedVariables false
namespace Go.Proofs
open Go Go.Idl
set_option linter.unusedSimpArgs false
variable {b : Bool}
def inB (x lo hi : Int) : Bool := decide (lo ≤ x) && decide (x ≤ hi)
def orE (a c : Int) : Int := if a = 0 then c else a
def firstE {α : Type} (f : α → Int) : List α → Int
  | [] => 0
  | x :: l => orE (f x) (firstE f l)
section
variable {α : Type} [Inhabited α] {f : α → Int}
theorem firstE_ok : ∀ {l : List α}, (∀ j, j < l.length → f l[j]! = 0) → firstE f l = 0
  | [], _ => rfl
  | x :: l, h => by
    have h0 : f x = 0 := h 0 (Nat.succ_pos _)
    unfold firstE orE
    rw [if_pos h0]
    exact firstE_ok fun j hj => h (j + 1) (Nat.succ_lt_succ hj)
theorem firstE_at : ∀ {l : List α} {i : Nat}, (∀ j, j < i → f l[j]! = 0) → i < l.length → f l[i]! ≠ 0 → firstE f l = f l[i]!
  | [], _, _, h, _ => absurd h (Nat.not_lt_zero _)
  | x :: l, 0, _, _, h => by unfold firstE orE; exact if_neg h
  | x :: l, i + 1, h, hi, hn => by
    have h0 : f x = 0 := h 0 (Nat.succ_pos _)
    unfold firstE orE
    rw [if_pos h0]
    exact firstE_at (l := l) (i := i) (fun j hj => h (j + 1) (Nat.succ_lt_succ hj)) (Nat.lt_of_succ_lt_succ hi) hn
theorem firstE_zero : ∀ {l : List α}, firstE f l = 0 → ∀ x ∈ l, f x = 0
  | x :: l, h, y, hy => by
    unfold firstE orE at h
    by_cases e : f x = 0
    · rw [if_pos e] at h
      rcases List.mem_cons.1 hy with rfl | hy
      · exact e
      · exact firstE_zero h y hy
    · rw [if_neg e] at h; exact absurd h e
end
def yearsE (lo hi : Int) : Int := if -3000 ≤ lo ∧ lo ≤ 3000 ∧ -3000 ≤ hi ∧ hi ≤ 3000 then (if lo ≤ hi then 0 else 5) else 1
def offE (o : Office) : Int := if inB o.age 0 100 = true ∧ inB o.gap 0 100 = true ∧ inB o.again 1 100 = true then 0 else 1
def ruleE (r : Roll) : Int := if inB r.life 0 100 = true ∧ inB r.plo 1 100 = true ∧ inB r.phi 1 100 = true then (if r.phi < r.plo then 5 else 0) else 1
def TownOk (fs : List (List Bool)) (i : Nat) : Prop := fs[i]!.length = fs.length ∧ (fs[i]!)[i]! = false ∧ ∀ k, k < i → (fs[i]!)[k]! = (fs[k]!)[i]!
noncomputable def townsD (fs : List (List Bool)) : Int := by
  classical exact if ∀ i, i < fs.length → TownOk fs i then 0 else 2
theorem townsD_ok {fs : List (List Bool)} (h : ∀ i, i < fs.length → TownOk fs i) : townsD fs = 0 := if_pos h
theorem townsD_no {fs : List (List Bool)} {i : Nat} (hi : i < fs.length) (h : ¬ TownOk fs i) : townsD fs = 2 := if_neg fun e => h (e i hi)
noncomputable def townsE (fs : List (List Bool)) : Int := if fs.length = 0 then 7 else if 4 < fs.length then 6 else townsD fs
def manE (m : Man) : Int := if inB m.name 0 9 = true then orE (yearsE m.blo m.bhi) (yearsE m.dlo m.dhi) else 1
def recE (r : Roll) (c : Rec) : Int :=
  if inB c.man 0 ((r.ms.length : Int) - 1) = true then
    if c.kin = true then (if inB c.child 0 ((r.ms.length : Int) - 1) = true then (if c.child = c.man then 4 else if c.office = 0 ∧ c.town = 0 ∧ c.lo = 0 ∧ c.hi = 0 then 0 else 2) else 3)
    else if inB c.office (-1) ((r.os.length : Int) - 1) = true ∧ inB c.town 0 ((r.fs.length : Int) - 1) = true then (if c.child = 0 then yearsE c.lo c.hi else 2) else 3
  else 3
def manyE (n lo hi : Nat) : Int := if n < lo then 7 else if hi < n then 6 else 0
def chk8 (r : Roll) : Int := firstE (recE r) r.cs
def chk7 (r : Roll) : Int := orE (manyE r.cs.length 0 8) (chk8 r)
def chk6 (r : Roll) : Int := orE (firstE manE r.ms) (chk7 r)
def chk5 (r : Roll) : Int := orE (manyE r.ms.length 1 6) (chk6 r)
noncomputable def chk4 (r : Roll) : Int := orE (townsE r.fs) (chk5 r)
noncomputable def chk3 (r : Roll) : Int := orE (ruleE r) (chk4 r)
noncomputable def chk2 (r : Roll) : Int := orE (firstE offE r.os) (chk3 r)
noncomputable def checkF (r : Roll) : Int := orE (manyE r.os.length 0 5) (chk2 r)
theorem orE_0 {c : Int} : orE 0 c = c := rfl
theorem orE_n {a c : Int} (h : a ≠ 0) : orE a c = a := if_neg h
theorem inB_iff {x lo hi : Int} : inB x lo hi = true ↔ lo ≤ x ∧ x ≤ hi := by unfold inB; rw [Bool.and_eq_true, decide_eq_true_eq, decide_eq_true_eq]
section
variable {m : Mem} {K : Vl → Mem → Prop}
theorem wc61x {lo hi : Int} : WC Try.prog (AA b) (.fn (.func 61) [] []) [.v (.agg [I lo, I hi])] m K = K (I (yearsE lo hi)) m :=
  WC_flat (by simp only [mkAnn, K61]) (rfAs (xs := [.agg [I lo, I hi]]) rfl) (checkYears_to lo hi) rfl
theorem townsX_to {fs : List (List Bool)} {o : Option Bool} : Ans Try.prog (AA b) 60 [SL 1 (fs.map encRow) o] (fun v => v = I (townsE fs)) := by
  refine Ans_of Try.func60 rfl rfl ?_
  unfold townsE
  by_cases e0 : fs.length = 0
  · have e0' : (fs.length : Int) = 0 := by omega
    rw [if_pos e0]
    simp +contextual (maxSteps := 1000000) (disch := first | omega | (with_reducible first | refine krN ?_ | refine krS ?_ | refine krP ?_ | refine krG ?_); kernel_rfl | refine kr ?_; simp only [go_sem, reduceCtorEq, e0']; done | fail) only [go_sem, seval, -List.reduceReplicate, e0']
  · have e0' : ¬ (fs.length : Int) = 0 := by omega
    rw [if_neg e0]
    by_cases e4 : 4 < fs.length
    · have e4' : 4 < (fs.length : Int) := by omega
      rw [if_pos e4]
      simp +contextual (maxSteps := 1000000) (disch := first | omega | (with_reducible first | refine krN ?_ | refine krS ?_ | refine krP ?_ | refine krG ?_); kernel_rfl | refine kr ?_; simp only [go_sem, reduceCtorEq, e0', e4']; done | fail) only [go_sem, seval, -List.reduceReplicate, e0', e4']
    · have e4' : ¬ 4 < (fs.length : Int) := by omega
      rw [if_neg e4]
      have hno : ∀ i, i < fs.length → ¬ TownOk fs i → I 2 = I (townsD fs) := fun i hi h => by rw [townsD_no hi h]
      simp +contextual (maxSteps := 1000000) (disch := first | omega | (with_reducible first | refine krN ?_ | refine krS ?_ | refine krP ?_ | refine krG ?_); kernel_rfl | refine kr ?_; simp only [go_sem, reduceCtorEq, e0', e4']; done | fail) only [go_sem, seval, -List.reduceReplicate, e0', e4']
      refine wp_loop_to fs.length (fun i st => ∃ (ex : List (Nat × Vl)), (∀ j, j < i → TownOk fs j) ∧ st = ({ sl := (0, SL 1 (fs.map encRow) o) :: (14, SL 1 (fs.map encRow) o) :: (15, I fs.length) :: (16, I i) :: ex, hp := noHeap, nx := 0 } : FS)) ?_ 0 (Nat.zero_le _) ⟨_, fun j hj => absurd hj (by omega), rfl⟩
      rintro i st hi ⟨ex, hok, rfl⟩
      by_cases hc : i < fs.length
      · by_cases hl : fs[i]!.length = fs.length
        · have hl' : ((fs[i]!.length : Int) = (fs.length : Int)) := by omega
          have hci : i < (fs[i]!).length := by omega
          cases hd : (fs[i]!)[i]! with
          | true =>
            simp +contextual (maxSteps := 1000000) (disch := first | omega | (with_reducible first | refine krN ?_ | refine krS ?_ | refine krP ?_ | refine krG ?_); kernel_rfl | refine kr ?_; simp only [go_sem, reduceCtorEq, Int.ofNat_lt, hc, ix_map, encRow, hl', hci, hd]; done | fail) only [go_sem, seval, -List.reduceReplicate, Int.ofNat_lt, hc, ix_map, encRow, hl', hci, hd]
            exact hno i hc fun h => absurd (hd.symm.trans h.2.1) (by decide)
          | false =>
            simp +contextual (maxSteps := 1000000) (disch := first | omega | (with_reducible first | refine krN ?_ | refine krS ?_ | refine krP ?_ | refine krG ?_); kernel_rfl | refine kr ?_; simp only [go_sem, reduceCtorEq, Int.ofNat_lt, hc, ix_map, encRow, hl', hci, hd]; done | fail) only [go_sem, seval, -List.reduceReplicate, Int.ofNat_lt, hc, ix_map, encRow, hl', hci, hd]
            refine wp_loop_to i (fun k st => ∃ (ex : List (Nat × Vl)), (∀ j, j < k → (fs[i]!)[j]! = (fs[j]!)[i]!) ∧ st = ({ sl := (0, SL 1 (fs.map encRow) o) :: (3, I i) :: (4, SL 1 (fs[i]!.map Vl.bool) (some false)) :: (14, SL 1 (fs.map encRow) o) :: (15, I fs.length) :: (16, I i) :: (32, I i) :: (33, I k) :: ex, hp := noHeap, nx := 0 } : FS)) ?_ 0 (Nat.zero_le _) ⟨_, fun j hj => absurd hj (by omega), rfl⟩
            rintro k st hk ⟨ex, hsy, rfl⟩
            by_cases hck : k < i
            · have hkf : k < fs.length := by omega
              have hki : k < (fs[i]!).length := by omega
              have hik : i < (fs[k]!).length := by rw [(hok k hck).1]; exact hc
              by_cases hs : (fs[i]!)[k]! = (fs[k]!)[i]!
              · simp +contextual (maxSteps := 1000000) (disch := first | omega | (with_reducible first | refine krN ?_ | refine krS ?_ | refine krP ?_ | refine krG ?_); kernel_rfl | refine kr ?_; simp only [go_sem, reduceCtorEq, Int.ofNat_lt, hck, hkf, ix_map, encRow, hki, hik, hs, bin_neB, bne_self_eq_false]; done | fail) only [go_sem, seval, -List.reduceReplicate, Int.ofNat_lt, hck, hkf, ix_map, encRow, hki, hik, hs, bin_neB, bne_self_eq_false]
                refine ⟨_, fun j hj => ?_, rfl⟩
                by_cases e : j = k
                · rw [e]; exact hs
                · exact hsy j (by omega)
              · have hs' : ((fs[i]!)[k]! == (fs[k]!)[i]!) = false := by rw [beq_eq_false_iff_ne]; exact hs
                simp +contextual (maxSteps := 1000000) (disch := first | omega | (with_reducible first | refine krN ?_ | refine krS ?_ | refine krP ?_ | refine krG ?_); kernel_rfl | refine kr ?_; simp only [go_sem, reduceCtorEq, Int.ofNat_lt, hck, hkf, ix_map, encRow, hki, hik, hs', bin_neB]; done | fail) only [go_sem, seval, -List.reduceReplicate, Int.ofNat_lt, hck, hkf, ix_map, encRow, hki, hik, hs', bin_neB]
                exact hno i hc fun h => hs (h.2.2 k hck)
            · have hke : k = i := by omega
              subst hke
              simp +contextual (maxSteps := 1000000) (disch := first | omega | (with_reducible first | refine krN ?_ | refine krS ?_ | refine krP ?_ | refine krG ?_); kernel_rfl | refine kr ?_; simp only [go_sem, reduceCtorEq, Int.lt_irrefl]; done | fail) only [go_sem, seval, -List.reduceReplicate, Int.lt_irrefl]
              refine ⟨_, fun j hj => ?_, rfl⟩
              by_cases e : j = k
              · rw [e]; exact ⟨hl, hd, hsy⟩
              · exact hok j (by omega)
        · have hl' : ¬ ((fs[i]!.length : Int) = (fs.length : Int)) := by omega
          simp +contextual (maxSteps := 1000000) (disch := first | omega | (with_reducible first | refine krN ?_ | refine krS ?_ | refine krP ?_ | refine krG ?_); kernel_rfl | refine kr ?_; simp only [go_sem, reduceCtorEq, Int.ofNat_lt, hc, ix_map, encRow, hl']; done | fail) only [go_sem, seval, -List.reduceReplicate, Int.ofNat_lt, hc, ix_map, encRow, hl']
          exact hno i hc fun h => hl h.1
      · have hie : i = fs.length := by omega
        subst hie
        simp +contextual (maxSteps := 1000000) (disch := first | omega | (with_reducible first | refine krN ?_ | refine krS ?_ | refine krP ?_ | refine krG ?_); kernel_rfl | refine kr ?_; simp only [go_sem, reduceCtorEq, Int.lt_irrefl]; done | fail) only [go_sem, seval, -List.reduceReplicate, Int.lt_irrefl]
        rw [townsD_ok hok]
theorem wc60x {fs : List (List Bool)} {o : Option Bool} : WC Try.prog (AA b) (.fn (.func 60) [] []) [.v (SL 1 (fs.map encRow) o)] m K = K (I (townsE fs)) m :=
  WC_flat (by simp only [mkAnn, K60]) (rfAs (xs := [SL 1 (fs.map encRow) o]) (by show ((SL 1 (fs.map encRow) o).closed && true) = true; rw [closed_SL (closedL_map clRw fs)]; rfl)) townsX_to rfl
theorem bin_neSx {x y : Int} : binOpV { ok := true, agg := true, size := 2, zero := Vl.agg [I 0, I 0], flat := some [CK.i, CK.i], k := TK.struct [(0, false, 1), (1, false, 1)] } .neq (Vl.agg [I x, I y]) (Vl.agg [I 0, I 0]) = some (.bool (!(decide (x = 0) && decide (y = 0)))) := by
  by_cases h1 : x = 0 <;> by_cases h2 : y = 0 <;> simp [binOpV, eqCells, eqCell, h1, h2]
theorem recordX_to {r : Roll} (hm : r.ms.length ≤ 1000000) (hf : r.fs.length ≤ 1000000) (ho : r.os.length ≤ 1000000) {c : Rec} {o1 o2 o3 o4 : Option Bool} : Ans Try.prog (AA b) 62 [encRoll o1 o2 o3 o4 r, encC c] (fun v => v = I (recE r c)) := by
  refine Ans_of Try.func62 rfl rfl ?_
  have hw : IntKind.wrap .i64 ((r.ms.length : Int) - 1) = (r.ms.length : Int) - 1 := wrap_i64 (by omega) (by omega)
  have hwf : IntKind.wrap .i64 ((r.fs.length : Int) - 1) = (r.fs.length : Int) - 1 := wrap_i64 (by omega) (by omega)
  have hwo : IntKind.wrap .i64 ((r.os.length : Int) - 1) = (r.os.length : Int) - 1 := wrap_i64 (by omega) (by omega)
  unfold recE
  cases i1 : inB c.man 0 ((r.ms.length : Int) - 1) with
  | false => unfold inB at i1; simp +contextual (maxSteps := 1000000) (disch := first | omega | (with_reducible first | refine krN ?_ | refine krS ?_ | refine krP ?_ | refine krG ?_); kernel_rfl | refine kr ?_; simp only [go_sem, reduceCtorEq, encC, hw, i1]; done | fail) only [go_sem, seval, -List.reduceReplicate, encC, hw, i1]
  | true =>
    unfold inB at i1
    cases hk : c.kin with
    | true =>
      cases i2 : inB c.child 0 ((r.ms.length : Int) - 1) with
      | false => unfold inB at i2; simp +contextual (maxSteps := 1000000) (disch := first | omega | (with_reducible first | refine krN ?_ | refine krS ?_ | refine krP ?_ | refine krG ?_); kernel_rfl | refine kr ?_; simp only [go_sem, reduceCtorEq, encC, hw, i1, i2, hk]; done | fail) only [go_sem, seval, -List.reduceReplicate, encC, hw, i1, i2, hk]
      | true =>
        unfold inB at i2
        by_cases h1 : c.child = c.man
        · simp +contextual (maxSteps := 1000000) (disch := first | omega | (with_reducible first | refine krN ?_ | refine krS ?_ | refine krP ?_ | refine krG ?_); kernel_rfl | refine kr ?_; simp only [go_sem, reduceCtorEq, encC, hw, i1, i2, hk, h1]; done | fail) only [go_sem, seval, -List.reduceReplicate, encC, hw, i1, i2, hk, h1]
        · by_cases h2 : c.office = 0
          · by_cases h3 : c.town = 0
            · by_cases h4 : c.lo = 0
              · by_cases h5 : c.hi = 0
                · simp +contextual (maxSteps := 1000000) (disch := first | omega | (with_reducible first | refine krN ?_ | refine krS ?_ | refine krP ?_ | refine krG ?_); kernel_rfl | refine kr ?_; simp only [go_sem, reduceCtorEq, encC, hw, i1, i2, hk, h1, h2, h3, h4, h5, bin_neS0, and_self]; done | fail) only [go_sem, seval, -List.reduceReplicate, encC, hw, i1, i2, hk, h1, h2, h3, h4, h5, bin_neS0, and_self]
                · simp +contextual (maxSteps := 1000000) (disch := first | omega | (with_reducible first | refine krN ?_ | refine krS ?_ | refine krP ?_ | refine krG ?_); kernel_rfl | refine kr ?_; simp only [go_sem, reduceCtorEq, encC, hw, i1, i2, hk, h1, h2, h3, h4, h5, bin_neSx, and_false, decide_true, decide_false, Bool.and_false, Bool.not_false]; done | fail) only [go_sem, seval, -List.reduceReplicate, encC, hw, i1, i2, hk, h1, h2, h3, h4, h5, bin_neSx, and_false, decide_true, decide_false, Bool.and_false, Bool.not_false]
              · simp +contextual (maxSteps := 1000000) (disch := first | omega | (with_reducible first | refine krN ?_ | refine krS ?_ | refine krP ?_ | refine krG ?_); kernel_rfl | refine kr ?_; simp only [go_sem, reduceCtorEq, encC, hw, i1, i2, hk, h1, h2, h3, h4, bin_neSx, and_false, false_and, decide_true, decide_false, Bool.false_and, Bool.not_false]; done | fail) only [go_sem, seval, -List.reduceReplicate, encC, hw, i1, i2, hk, h1, h2, h3, h4, bin_neSx, and_false, false_and, decide_true, decide_false, Bool.false_and, Bool.not_false]
            · simp +contextual (maxSteps := 1000000) (disch := first | omega | (with_reducible first | refine krN ?_ | refine krS ?_ | refine krP ?_ | refine krG ?_); kernel_rfl | refine kr ?_; simp only [go_sem, reduceCtorEq, encC, hw, i1, i2, hk, h1, h2, h3, and_false, false_and]; done | fail) only [go_sem, seval, -List.reduceReplicate, encC, hw, i1, i2, hk, h1, h2, h3, and_false, false_and]
          · simp +contextual (maxSteps := 1000000) (disch := first | omega | (with_reducible first | refine krN ?_ | refine krS ?_ | refine krP ?_ | refine krG ?_); kernel_rfl | refine kr ?_; simp only [go_sem, reduceCtorEq, encC, hw, i1, i2, hk, h1, h2, false_and]; done | fail) only [go_sem, seval, -List.reduceReplicate, encC, hw, i1, i2, hk, h1, h2, false_and]
    | false =>
      cases i2 : inB c.office (-1) ((r.os.length : Int) - 1) with
      | false => unfold inB at i2; simp +contextual (maxSteps := 1000000) (disch := first | omega | (with_reducible first | refine krN ?_ | refine krS ?_ | refine krP ?_ | refine krG ?_); kernel_rfl | refine kr ?_; simp only [go_sem, reduceCtorEq, encC, hw, hwo, i1, i2, hk, false_and]; done | fail) only [go_sem, seval, -List.reduceReplicate, encC, hw, hwo, i1, i2, hk, false_and]
      | true =>
        unfold inB at i2
        cases i3 : inB c.town 0 ((r.fs.length : Int) - 1) with
        | false => unfold inB at i3; simp +contextual (maxSteps := 1000000) (disch := first | omega | (with_reducible first | refine krN ?_ | refine krS ?_ | refine krP ?_ | refine krG ?_); kernel_rfl | refine kr ?_; simp only [go_sem, reduceCtorEq, encC, hw, hwf, hwo, i1, i2, i3, hk, and_false]; done | fail) only [go_sem, seval, -List.reduceReplicate, encC, hw, hwf, hwo, i1, i2, i3, hk, and_false]
        | true =>
          unfold inB at i3
          by_cases h1 : c.child = 0
          · simp +contextual (maxSteps := 1000000) (disch := first | omega | (with_reducible first | refine krN ?_ | refine krS ?_ | refine krP ?_ | refine krG ?_); kernel_rfl | refine kr ?_; simp only [go_sem, reduceCtorEq, encC, hw, hwf, hwo, i1, i2, i3, hk, h1, wc61x, and_self]; done | fail) only [go_sem, seval, -List.reduceReplicate, encC, hw, hwf, hwo, i1, i2, i3, hk, h1, wc61x, and_self]
          · simp +contextual (maxSteps := 1000000) (disch := first | omega | (with_reducible first | refine krN ?_ | refine krS ?_ | refine krP ?_ | refine krG ?_); kernel_rfl | refine kr ?_; simp only [go_sem, reduceCtorEq, encC, hw, hwf, hwo, i1, i2, i3, hk, h1, and_self]; done | fail) only [go_sem, seval, -List.reduceReplicate, encC, hw, hwf, hwo, i1, i2, i3, hk, h1, and_self]
theorem wc62x {r : Roll} (hm : r.ms.length ≤ 1000000) (hf : r.fs.length ≤ 1000000) (ho : r.os.length ≤ 1000000) {c : Rec} {o1 o2 o3 o4 : Option Bool} : WC Try.prog (AA b) (.fn (.func 62) [] []) [.v (encRoll o1 o2 o3 o4 r), .v (.agg [.bool c.kin, I c.man, I c.office, I c.town, I c.child, I c.lo, I c.hi])] m K = K (I (recE r c)) m :=
  WC_flat (by simp only [mkAnn, K62]) (rfAs (xs := [encRoll o1 o2 o3 o4 r, encC c]) (by show ((encRoll o1 o2 o3 o4 r).closed && ((encC c).closed && true)) = true; rw [clRoll, clC]; rfl)) (recordX_to hm hf ho) rfl
set_option maxRecDepth 10000 in
set_option maxHeartbeats 4000000 in
theorem checkX_to {r : Roll} (hm : r.ms.length ≤ 1000000) (hf : r.fs.length ≤ 1000000) (ho : r.os.length ≤ 1000000) {o1 o2 o3 o4 : Option Bool} : Ans Try.prog (AA b) 24 [encRoll o1 o2 o3 o4 r] (fun v => v = I (checkF r)) := by
  refine Ans_of Try.func24 rfl rfl ?_
  unfold checkF
  by_cases e5 : 5 < r.os.length
  · have e5' : 5 < (r.os.length : Int) := by omega
    have e : manyE r.os.length 0 5 = 6 := by unfold manyE; rw [if_neg (by omega), if_pos e5]
    rw [e, orE_n (by decide)]
    simp +contextual (maxSteps := 1000000) (disch := first | omega | (with_reducible first | refine krN ?_ | refine krS ?_ | refine krP ?_ | refine krG ?_); kernel_rfl | refine kr ?_; simp only [go_sem, reduceCtorEq, e5']; done | fail) only [go_sem, seval, -List.reduceReplicate, e5']
  have e5' : ¬ 5 < (r.os.length : Int) := by omega
  rw [show manyE r.os.length 0 5 = 0 by unfold manyE; rw [if_neg (by omega), if_neg e5], orE_0]
  simp +contextual (maxSteps := 1000000) (disch := first | omega | (with_reducible first | refine krN ?_ | refine krS ?_ | refine krP ?_ | refine krG ?_); kernel_rfl | refine kr ?_; simp only [go_sem, reduceCtorEq, e5']; done | fail) only [go_sem, seval, -List.reduceReplicate, e5']
  refine wp_loop_to r.os.length (fun i st => ∃ (ex : List (Nat × Vl)), (∀ j, j < i → offE r.os[j]! = 0) ∧ st = ({ sl := (1, .loc (encRoll o1 o2 o3 o4 r)) :: (19, SL 3 (r.os.map encO) o1) :: (20, I r.os.length) :: (21, I i) :: ex, hp := noHeap, nx := 0 } : FS)) ?_ 0 (Nat.zero_le _) ⟨_, fun j hj => absurd hj (by omega), rfl⟩
  rintro i st hi ⟨ex, hok, rfl⟩
  by_cases hc : i < r.os.length
  · have hbad : offE r.os[i]! = 1 → I 1 = I (chk2 r) := fun h => by
      unfold chk2
      rw [firstE_at hok hc (by rw [h]; decide), h, orE_n (by decide)]
    cases i1 : inB (r.os[i]!).age 0 100 with
    | false =>
      have := hbad (if_neg (by rw [i1]; intro h; cases h.1))
      unfold inB at i1
      simp +contextual (maxSteps := 1000000) (disch := first | omega | (with_reducible first | refine krN ?_ | refine krS ?_ | refine krP ?_ | refine krG ?_); kernel_rfl | refine kr ?_; simp only [go_sem, reduceCtorEq, Int.ofNat_lt, hc, ix_map, encO, i1]; done | fail) only [go_sem, seval, -List.reduceReplicate, Int.ofNat_lt, hc, ix_map, encO, i1]
      exact this
    | true =>
      cases i2 : inB (r.os[i]!).gap 0 100 with
      | false =>
        have := hbad (if_neg (by rw [i2]; intro h; cases h.2.1))
        unfold inB at i1 i2
        simp +contextual (maxSteps := 1000000) (disch := first | omega | (with_reducible first | refine krN ?_ | refine krS ?_ | refine krP ?_ | refine krG ?_); kernel_rfl | refine kr ?_; simp only [go_sem, reduceCtorEq, Int.ofNat_lt, hc, ix_map, encO, i1, i2]; done | fail) only [go_sem, seval, -List.reduceReplicate, Int.ofNat_lt, hc, ix_map, encO, i1, i2]
        exact this
      | true =>
        cases i3 : inB (r.os[i]!).again 1 100 with
        | false =>
          have := hbad (if_neg (by rw [i3]; intro h; cases h.2.2))
          unfold inB at i1 i2 i3
          simp +contextual (maxSteps := 1000000) (disch := first | omega | (with_reducible first | refine krN ?_ | refine krS ?_ | refine krP ?_ | refine krG ?_); kernel_rfl | refine kr ?_; simp only [go_sem, reduceCtorEq, Int.ofNat_lt, hc, ix_map, encO, i1, i2, i3]; done | fail) only [go_sem, seval, -List.reduceReplicate, Int.ofNat_lt, hc, ix_map, encO, i1, i2, i3]
          exact this
        | true =>
          have e0 : offE r.os[i]! = 0 := if_pos ⟨i1, i2, i3⟩
          unfold inB at i1 i2 i3
          simp +contextual (maxSteps := 1000000) (disch := first | omega | (with_reducible first | refine krN ?_ | refine krS ?_ | refine krP ?_ | refine krG ?_); kernel_rfl | refine kr ?_; simp only [go_sem, reduceCtorEq, Int.ofNat_lt, hc, ix_map, encO, i1, i2, i3]; done | fail) only [go_sem, seval, -List.reduceReplicate, Int.ofNat_lt, hc, ix_map, encO, i1, i2, i3]
          refine ⟨_, fun j hj => ?_, rfl⟩
          by_cases e : j = i
          · rw [e]; exact e0
          · exact hok j (by omega)
  have hie : i = r.os.length := by omega
  subst hie
  rw [show chk2 r = chk3 r by unfold chk2; rw [firstE_ok hok, orE_0]]
  clear hi hc hok
  cases i1 : inB r.life 0 100 with
  | false =>
    rw [show chk3 r = 1 by unfold chk3; rw [show ruleE r = 1 from if_neg (by rw [i1]; intro h; cases h.1)]; rfl]
    unfold inB at i1
    simp +contextual (maxSteps := 1000000) (disch := first | omega | (with_reducible first | refine krN ?_ | refine krS ?_ | refine krP ?_ | refine krG ?_); kernel_rfl | refine kr ?_; simp only [go_sem, reduceCtorEq, Int.lt_irrefl, i1]; done | fail) only [go_sem, seval, -List.reduceReplicate, Int.lt_irrefl, i1]
  | true =>
  cases i2 : inB r.plo 1 100 with
  | false =>
    rw [show chk3 r = 1 by unfold chk3; rw [show ruleE r = 1 from if_neg (by rw [i2]; intro h; cases h.2.1)]; rfl]
    unfold inB at i1 i2
    simp +contextual (maxSteps := 1000000) (disch := first | omega | (with_reducible first | refine krN ?_ | refine krS ?_ | refine krP ?_ | refine krG ?_); kernel_rfl | refine kr ?_; simp only [go_sem, reduceCtorEq, Int.lt_irrefl, i1, i2]; done | fail) only [go_sem, seval, -List.reduceReplicate, Int.lt_irrefl, i1, i2]
  | true =>
  cases i3 : inB r.phi 1 100 with
  | false =>
    rw [show chk3 r = 1 by unfold chk3; rw [show ruleE r = 1 from if_neg (by rw [i3]; intro h; cases h.2.2)]; rfl]
    unfold inB at i1 i2 i3
    simp +contextual (maxSteps := 1000000) (disch := first | omega | (with_reducible first | refine krN ?_ | refine krS ?_ | refine krP ?_ | refine krG ?_); kernel_rfl | refine kr ?_; simp only [go_sem, reduceCtorEq, Int.lt_irrefl, i1, i2, i3]; done | fail) only [go_sem, seval, -List.reduceReplicate, Int.lt_irrefl, i1, i2, i3]
  | true =>
  by_cases hp : r.phi < r.plo
  · rw [show chk3 r = 5 by unfold chk3; rw [show ruleE r = 5 by unfold ruleE; rw [if_pos ⟨i1, i2, i3⟩, if_pos hp]]; rfl]
    unfold inB at i1 i2 i3
    simp +contextual (maxSteps := 1000000) (disch := first | omega | (with_reducible first | refine krN ?_ | refine krS ?_ | refine krP ?_ | refine krG ?_); kernel_rfl | refine kr ?_; simp only [go_sem, reduceCtorEq, Int.lt_irrefl, i1, i2, i3, hp]; done | fail) only [go_sem, seval, -List.reduceReplicate, Int.lt_irrefl, i1, i2, i3, hp]
  rw [show chk3 r = chk4 r by unfold chk3; rw [show ruleE r = 0 by unfold ruleE; rw [if_pos ⟨i1, i2, i3⟩, if_neg hp], orE_0]]
  unfold inB at i1 i2 i3
  by_cases ht : townsE r.fs = 0
  case neg =>
    rw [show chk4 r = townsE r.fs by unfold chk4; exact orE_n ht]
    simp +contextual (maxSteps := 1000000) (disch := first | omega | (with_reducible first | refine krN ?_ | refine krS ?_ | refine krP ?_ | refine krG ?_); kernel_rfl | refine kr ?_; simp only [go_sem, reduceCtorEq, Int.lt_irrefl, i1, i2, i3, hp, wc60x, ht]; done | fail) only [go_sem, seval, -List.reduceReplicate, Int.lt_irrefl, i1, i2, i3, hp, wc60x, ht]
  rw [show chk4 r = chk5 r by unfold chk4; rw [ht, orE_0]]
  by_cases e2 : r.ms.length = 0
  · have e2' : (r.ms.length : Int) = 0 := by omega
    rw [show chk5 r = 7 by unfold chk5 manyE; rw [if_pos (by omega)]; rfl]
    simp +contextual (maxSteps := 1000000) (disch := first | omega | (with_reducible first | refine krN ?_ | refine krS ?_ | refine krP ?_ | refine krG ?_); kernel_rfl | refine kr ?_; simp only [go_sem, reduceCtorEq, Int.lt_irrefl, i1, i2, i3, hp, wc60x, ht, e2']; done | fail) only [go_sem, seval, -List.reduceReplicate, Int.lt_irrefl, i1, i2, i3, hp, wc60x, ht, e2']
  have e2' : ¬ (r.ms.length : Int) = 0 := by omega
  by_cases e3 : 6 < r.ms.length
  · have e3' : 6 < (r.ms.length : Int) := by omega
    rw [show chk5 r = 6 by unfold chk5 manyE; rw [if_neg (by omega), if_pos e3]; rfl]
    simp +contextual (maxSteps := 1000000) (disch := first | omega | (with_reducible first | refine krN ?_ | refine krS ?_ | refine krP ?_ | refine krG ?_); kernel_rfl | refine kr ?_; simp only [go_sem, reduceCtorEq, Int.lt_irrefl, i1, i2, i3, hp, wc60x, ht, e2', e3']; done | fail) only [go_sem, seval, -List.reduceReplicate, Int.lt_irrefl, i1, i2, i3, hp, wc60x, ht, e2', e3']
  have e3' : ¬ 6 < (r.ms.length : Int) := by omega
  rw [show chk5 r = chk6 r by unfold chk5 manyE; rw [if_neg (by omega), if_neg e3, orE_0]]
  simp +contextual (maxSteps := 1000000) (disch := first | omega | (with_reducible first | refine krN ?_ | refine krS ?_ | refine krP ?_ | refine krG ?_); kernel_rfl | refine kr ?_; simp only [go_sem, reduceCtorEq, Int.lt_irrefl, i1, i2, i3, hp, wc60x, ht, e2', e3']; done | fail) only [go_sem, seval, -List.reduceReplicate, Int.lt_irrefl, i1, i2, i3, hp, wc60x, ht, e2', e3']
  refine wp_loop_to r.ms.length (fun i st => ∃ (ex : List (Nat × Vl)), (∀ j, j < i → manE r.ms[j]! = 0) ∧ st = ({ sl := (1, .loc (encRoll o1 o2 o3 o4 r)) :: (80, SL 5 (r.ms.map encM) o3) :: (81, I r.ms.length) :: (82, I i) :: ex, hp := noHeap, nx := 0 } : FS)) ?_ 0 (Nat.zero_le _) ⟨_, fun j hj => absurd hj (by omega), rfl⟩
  clear ex i1 i2 i3
  rintro i st hi ⟨ex, hok, rfl⟩
  by_cases hc : i < r.ms.length
  · have hbad : manE r.ms[i]! ≠ 0 → manE r.ms[i]! = chk6 r := fun h => by
      unfold chk6
      rw [firstE_at hok hc h, orE_n h]
    cases i1 : inB (r.ms[i]!).name 0 9 with
    | false =>
      have e : manE r.ms[i]! = 1 := if_neg (by rw [i1]; decide)
      have := hbad (by rw [e]; decide)
      unfold inB at i1
      simp +contextual (maxSteps := 1000000) (disch := first | omega | (with_reducible first | refine krN ?_ | refine krS ?_ | refine krP ?_ | refine krG ?_); kernel_rfl | refine kr ?_; simp only [go_sem, reduceCtorEq, Int.ofNat_lt, hc, ix_map, encM, i1]; done | fail) only [go_sem, seval, -List.reduceReplicate, Int.ofNat_lt, hc, ix_map, encM, i1]
      rw [← this, e]
    | true =>
      have e : manE r.ms[i]! = orE (yearsE r.ms[i]!.blo r.ms[i]!.bhi) (yearsE r.ms[i]!.dlo r.ms[i]!.dhi) := if_pos i1
      unfold inB at i1
      by_cases y1 : yearsE r.ms[i]!.blo r.ms[i]!.bhi = 0
      · rw [y1, orE_0] at e
        by_cases y2 : yearsE r.ms[i]!.dlo r.ms[i]!.dhi = 0
        · simp +contextual (maxSteps := 1000000) (disch := first | omega | (with_reducible first | refine krN ?_ | refine krS ?_ | refine krP ?_ | refine krG ?_); kernel_rfl | refine kr ?_; simp only [go_sem, reduceCtorEq, Int.ofNat_lt, hc, ix_map, encM, i1, wc61x, y1, y2]; done | fail) only [go_sem, seval, -List.reduceReplicate, Int.ofNat_lt, hc, ix_map, encM, i1, wc61x, y1, y2]
          refine ⟨_, fun j hj => ?_, rfl⟩
          by_cases ej : j = i
          · rw [ej, e]; exact y2
          · exact hok j (by omega)
        · have := hbad (by rw [e]; exact y2)
          simp +contextual (maxSteps := 1000000) (disch := first | omega | (with_reducible first | refine krN ?_ | refine krS ?_ | refine krP ?_ | refine krG ?_); kernel_rfl | refine kr ?_; simp only [go_sem, reduceCtorEq, Int.ofNat_lt, hc, ix_map, encM, i1, wc61x, y1, y2]; done | fail) only [go_sem, seval, -List.reduceReplicate, Int.ofNat_lt, hc, ix_map, encM, i1, wc61x, y1, y2]
          rw [← this, e]
      · rw [orE_n y1] at e
        have := hbad (by rw [e]; exact y1)
        simp +contextual (maxSteps := 1000000) (disch := first | omega | (with_reducible first | refine krN ?_ | refine krS ?_ | refine krP ?_ | refine krG ?_); kernel_rfl | refine kr ?_; simp only [go_sem, reduceCtorEq, Int.ofNat_lt, hc, ix_map, encM, i1, wc61x, y1]; done | fail) only [go_sem, seval, -List.reduceReplicate, Int.ofNat_lt, hc, ix_map, encM, i1, wc61x, y1]
        rw [← this, e]
  have hie : i = r.ms.length := by omega
  subst hie
  rw [show chk6 r = chk7 r by unfold chk6; rw [firstE_ok hok, orE_0]]
  clear hi hc hok
  by_cases e8 : 8 < r.cs.length
  · have e8' : 8 < (r.cs.length : Int) := by omega
    rw [show chk7 r = 6 by unfold chk7 manyE; rw [if_neg (by omega), if_pos e8]; rfl]
    simp +contextual (maxSteps := 1000000) (disch := first | omega | (with_reducible first | refine krN ?_ | refine krS ?_ | refine krP ?_ | refine krG ?_); kernel_rfl | refine kr ?_; simp only [go_sem, reduceCtorEq, Int.lt_irrefl, e8']; done | fail) only [go_sem, seval, -List.reduceReplicate, Int.lt_irrefl, e8']
  have e8' : ¬ 8 < (r.cs.length : Int) := by omega
  rw [show chk7 r = chk8 r by unfold chk7 manyE; rw [if_neg (by omega), if_neg e8, orE_0]]
  simp +contextual (maxSteps := 1000000) (disch := first | omega | (with_reducible first | refine krN ?_ | refine krS ?_ | refine krP ?_ | refine krG ?_); kernel_rfl | refine kr ?_; simp only [go_sem, reduceCtorEq, Int.lt_irrefl, e8']; done | fail) only [go_sem, seval, -List.reduceReplicate, Int.lt_irrefl, e8']
  refine wp_loop_to r.cs.length (fun i st => ∃ (ex : List (Nat × Vl)), (∀ j, j < i → recE r r.cs[j]! = 0) ∧ st = ({ sl := (1, .loc (encRoll o1 o2 o3 o4 r)) :: (108, SL 7 (r.cs.map encC) o4) :: (109, I r.cs.length) :: (110, I i) :: ex, hp := noHeap, nx := 0 } : FS)) ?_ 0 (Nat.zero_le _) ⟨_, fun j hj => absurd hj (by omega), rfl⟩
  clear ex
  rintro i st hi ⟨ex, hok, rfl⟩
  by_cases hc : i < r.cs.length
  · have hr62 := fun (m : Mem) (K : Vl → Mem → Prop) => wc62x (b := b) (m := m) (K := K) (r := r) hm hf ho (c := r.cs[i]!) (o1 := o1) (o2 := o2) (o3 := o3) (o4 := o4)
    by_cases hr : recE r r.cs[i]! = 0
    · simp +contextual (maxSteps := 1000000) (disch := first | omega | (with_reducible first | refine krN ?_ | refine krS ?_ | refine krP ?_ | refine krG ?_); kernel_rfl | refine kr ?_; simp only [go_sem, reduceCtorEq, Int.ofNat_lt, hc, ix_map, encC, hr62, hr]; done | fail) only [go_sem, seval, -List.reduceReplicate, Int.ofNat_lt, hc, ix_map, encC, hr62, hr]
      refine ⟨_, fun j hj => ?_, rfl⟩
      by_cases ej : j = i
      · rw [ej]; exact hr
      · exact hok j (by omega)
    · have : chk8 r = recE r r.cs[i]! := firstE_at hok hc hr
      simp +contextual (maxSteps := 1000000) (disch := first | omega | (with_reducible first | refine krN ?_ | refine krS ?_ | refine krP ?_ | refine krG ?_); kernel_rfl | refine kr ?_; simp only [go_sem, reduceCtorEq, Int.ofNat_lt, hc, ix_map, encC, hr62, hr]; done | fail) only [go_sem, seval, -List.reduceReplicate, Int.ofNat_lt, hc, ix_map, encC, hr62, hr]
      rw [this]
  · have hie : i = r.cs.length := by omega
    subst hie
    simp +contextual (maxSteps := 1000000) (disch := first | omega | (with_reducible first | refine krN ?_ | refine krS ?_ | refine krP ?_ | refine krG ?_); kernel_rfl | refine kr ?_; simp only [go_sem, reduceCtorEq, Int.lt_irrefl]; done | fail) only [go_sem, seval, -List.reduceReplicate, Int.lt_irrefl]
    rw [show chk8 r = 0 from firstE_ok hok]
theorem wc24x {r : Roll} (hm : r.ms.length ≤ 1000000) (hf : r.fs.length ≤ 1000000) (ho : r.os.length ≤ 1000000) {o1 o2 o3 o4 : Option Bool} : WC Try.prog (AA b) (.fn (.func 24) [] []) [.v (encRoll o1 o2 o3 o4 r)] m K = K (I (checkF r)) m :=
  WC_flat (by simp only [mkAnn, K24]) (rfAs (xs := [encRoll o1 o2 o3 o4 r]) (by show ((encRoll o1 o2 o3 o4 r).closed && true) = true; rw [clRoll]; rfl)) (checkX_to hm hf ho) rfl
end
end Go.Proofs
namespace Go.Proofs
open Go Go.Idl
set_option linter.unusedSimpArgs false
variable {b : Bool}
section
variable {m : Mem} {K : Vl → Mem → Prop}
theorem refYearsX_to {lo hi : Int} : Ans Try.prog (AA b) 66 [.agg [I lo, I hi]] (fun v => v = I (yearsE lo hi)) := by
  refine Ans_of Try.func66 rfl rfl ?_
  unfold yearsE
  cases i1 : inB lo (-3000) 3000 with
  | false =>
    rw [if_neg fun h => by rw [inB_iff.2 ⟨h.1, h.2.1⟩] at i1; cases i1]
    unfold inB at i1
    simp +contextual (maxSteps := 1000000) (disch := first | omega | (with_reducible first | refine krN ?_ | refine krS ?_ | refine krP ?_ | refine krG ?_); kernel_rfl | refine kr ?_; simp only [go_sem, reduceCtorEq, i1]; done | fail) only [go_sem, seval, -List.reduceReplicate, i1]
  | true =>
    cases i2 : inB hi (-3000) 3000 with
    | false =>
      rw [if_neg fun h => by rw [inB_iff.2 h.2.2] at i2; cases i2]
      unfold inB at i1 i2
      simp +contextual (maxSteps := 1000000) (disch := first | omega | (with_reducible first | refine krN ?_ | refine krS ?_ | refine krP ?_ | refine krG ?_); kernel_rfl | refine kr ?_; simp only [go_sem, reduceCtorEq, i1, i2]; done | fail) only [go_sem, seval, -List.reduceReplicate, i1, i2]
    | true =>
      have h1 := inB_iff.1 i1
      have h2 := inB_iff.1 i2
      rw [if_pos ⟨h1.1, h1.2, h2⟩]
      unfold inB at i1 i2
      by_cases h : hi < lo
      · rw [if_neg (by omega)]
        simp +contextual (maxSteps := 1000000) (disch := first | omega | (with_reducible first | refine krN ?_ | refine krS ?_ | refine krP ?_ | refine krG ?_); kernel_rfl | refine kr ?_; simp only [go_sem, reduceCtorEq, i1, i2, h]; done | fail) only [go_sem, seval, -List.reduceReplicate, i1, i2, h]
      · rw [if_pos (by omega)]
        simp +contextual (maxSteps := 1000000) (disch := first | omega | (with_reducible first | refine krN ?_ | refine krS ?_ | refine krP ?_ | refine krG ?_); kernel_rfl | refine kr ?_; simp only [go_sem, reduceCtorEq, i1, i2, h]; done | fail) only [go_sem, seval, -List.reduceReplicate, i1, i2, h]
theorem wc66x {lo hi : Int} : WC Try.prog (AA b) (.fn (.func 66) [] []) [.v (.agg [I lo, I hi])] m K = K (I (yearsE lo hi)) m :=
  WC_flat (by simp only [mkAnn, K66]) (rfAs (xs := [.agg [I lo, I hi]]) rfl) refYearsX_to rfl
def rulesE (r : Roll) : Int := orE (manyE r.os.length 0 5) <| orE (firstE offE r.os) (ruleE r)
theorem refRulesX_to {r : Roll} {o1 o2 o3 o4 : Option Bool} : Ans Try.prog (AA b) 63 [encRoll o1 o2 o3 o4 r] (fun v => v = I (rulesE r)) := by
  refine Ans_of Try.func63 rfl rfl ?_
  unfold rulesE
  by_cases e5 : 5 < r.os.length
  · have e5' : 5 < (r.os.length : Int) := by omega
    have e : manyE r.os.length 0 5 = 6 := by unfold manyE; rw [if_neg (by omega), if_pos e5]
    rw [e, orE_n (by decide)]
    simp +contextual (maxSteps := 1000000) (disch := first | omega | (with_reducible first | refine krN ?_ | refine krS ?_ | refine krP ?_ | refine krG ?_); kernel_rfl | refine kr ?_; simp only [go_sem, reduceCtorEq, e5']; done | fail) only [go_sem, seval, -List.reduceReplicate, e5']
  have e5' : ¬ 5 < (r.os.length : Int) := by omega
  rw [show manyE r.os.length 0 5 = 0 by unfold manyE; rw [if_neg (by omega), if_neg e5], orE_0]
  simp +contextual (maxSteps := 1000000) (disch := first | omega | (with_reducible first | refine krN ?_ | refine krS ?_ | refine krP ?_ | refine krG ?_); kernel_rfl | refine kr ?_; simp only [go_sem, reduceCtorEq, e5']; done | fail) only [go_sem, seval, -List.reduceReplicate, e5']
  refine wp_loop_to r.os.length (fun i st => ∃ (ex : List (Nat × Vl)), (∀ j, j < i → offE r.os[j]! = 0) ∧ st = ({ sl := (1, .loc (encRoll o1 o2 o3 o4 r)) :: (3, I i) :: ex, hp := noHeap, nx := 0 } : FS)) ?_ 0 (Nat.zero_le _) ⟨_, fun j hj => absurd hj (by omega), rfl⟩
  rintro i st hi ⟨ex, hok, rfl⟩
  by_cases hc : i < r.os.length
  · have hbad : offE r.os[i]! = 1 → I 1 = I (orE (firstE offE r.os) (ruleE r)) := fun h => by
      rw [firstE_at hok hc (by rw [h]; decide), h, orE_n (by decide)]
    cases i1 : inB (r.os[i]!).age 0 100 with
    | false =>
      have := hbad (if_neg (by rw [i1]; intro h; cases h.1))
      unfold inB at i1
      simp +contextual (maxSteps := 1000000) (disch := first | omega | (with_reducible first | refine krN ?_ | refine krS ?_ | refine krP ?_ | refine krG ?_); kernel_rfl | refine kr ?_; simp only [go_sem, reduceCtorEq, Int.ofNat_lt, hc, ix_map, encO, i1]; done | fail) only [go_sem, seval, -List.reduceReplicate, Int.ofNat_lt, hc, ix_map, encO, i1]
      exact this
    | true =>
      cases i2 : inB (r.os[i]!).gap 0 100 with
      | false =>
        have := hbad (if_neg (by rw [i2]; intro h; cases h.2.1))
        unfold inB at i1 i2
        simp +contextual (maxSteps := 1000000) (disch := first | omega | (with_reducible first | refine krN ?_ | refine krS ?_ | refine krP ?_ | refine krG ?_); kernel_rfl | refine kr ?_; simp only [go_sem, reduceCtorEq, Int.ofNat_lt, hc, ix_map, encO, i1, i2]; done | fail) only [go_sem, seval, -List.reduceReplicate, Int.ofNat_lt, hc, ix_map, encO, i1, i2]
        exact this
      | true =>
        cases i3 : inB (r.os[i]!).again 1 100 with
        | false =>
          have := hbad (if_neg (by rw [i3]; intro h; cases h.2.2))
          unfold inB at i1 i2 i3
          simp +contextual (maxSteps := 1000000) (disch := first | omega | (with_reducible first | refine krN ?_ | refine krS ?_ | refine krP ?_ | refine krG ?_); kernel_rfl | refine kr ?_; simp only [go_sem, reduceCtorEq, Int.ofNat_lt, hc, ix_map, encO, i1, i2, i3]; done | fail) only [go_sem, seval, -List.reduceReplicate, Int.ofNat_lt, hc, ix_map, encO, i1, i2, i3]
          exact this
        | true =>
          have e0 : offE r.os[i]! = 0 := if_pos ⟨i1, i2, i3⟩
          unfold inB at i1 i2 i3
          simp +contextual (maxSteps := 1000000) (disch := first | omega | (with_reducible first | refine krN ?_ | refine krS ?_ | refine krP ?_ | refine krG ?_); kernel_rfl | refine kr ?_; simp only [go_sem, reduceCtorEq, Int.ofNat_lt, hc, ix_map, encO, i1, i2, i3]; done | fail) only [go_sem, seval, -List.reduceReplicate, Int.ofNat_lt, hc, ix_map, encO, i1, i2, i3]
          refine ⟨_, fun j hj => ?_, rfl⟩
          by_cases e : j = i
          · rw [e]; exact e0
          · exact hok j (by omega)
  have hie : i = r.os.length := by omega
  subst hie
  rw [firstE_ok hok, orE_0]
  clear hi hc hok
  cases i1 : inB r.life 0 100 with
  | false =>
    rw [show ruleE r = 1 from if_neg (by rw [i1]; intro h; cases h.1)]
    unfold inB at i1
    simp +contextual (maxSteps := 1000000) (disch := first | omega | (with_reducible first | refine krN ?_ | refine krS ?_ | refine krP ?_ | refine krG ?_); kernel_rfl | refine kr ?_; simp only [go_sem, reduceCtorEq, Int.lt_irrefl, i1]; done | fail) only [go_sem, seval, -List.reduceReplicate, Int.lt_irrefl, i1]
  | true =>
  cases i2 : inB r.plo 1 100 with
  | false =>
    rw [show ruleE r = 1 from if_neg (by rw [i2]; intro h; cases h.2.1)]
    unfold inB at i1 i2
    simp +contextual (maxSteps := 1000000) (disch := first | omega | (with_reducible first | refine krN ?_ | refine krS ?_ | refine krP ?_ | refine krG ?_); kernel_rfl | refine kr ?_; simp only [go_sem, reduceCtorEq, Int.lt_irrefl, i1, i2]; done | fail) only [go_sem, seval, -List.reduceReplicate, Int.lt_irrefl, i1, i2]
  | true =>
  cases i3 : inB r.phi 1 100 with
  | false =>
    rw [show ruleE r = 1 from if_neg (by rw [i3]; intro h; cases h.2.2)]
    unfold inB at i1 i2 i3
    simp +contextual (maxSteps := 1000000) (disch := first | omega | (with_reducible first | refine krN ?_ | refine krS ?_ | refine krP ?_ | refine krG ?_); kernel_rfl | refine kr ?_; simp only [go_sem, reduceCtorEq, Int.lt_irrefl, i1, i2, i3]; done | fail) only [go_sem, seval, -List.reduceReplicate, Int.lt_irrefl, i1, i2, i3]
  | true =>
  by_cases hp : r.phi < r.plo
  · rw [show ruleE r = 5 by unfold ruleE; rw [if_pos ⟨i1, i2, i3⟩, if_pos hp]]
    unfold inB at i1 i2 i3
    simp +contextual (maxSteps := 1000000) (disch := first | omega | (with_reducible first | refine krN ?_ | refine krS ?_ | refine krP ?_ | refine krG ?_); kernel_rfl | refine kr ?_; simp only [go_sem, reduceCtorEq, Int.lt_irrefl, i1, i2, i3, hp]; done | fail) only [go_sem, seval, -List.reduceReplicate, Int.lt_irrefl, i1, i2, i3, hp]
  · rw [show ruleE r = 0 by unfold ruleE; rw [if_pos ⟨i1, i2, i3⟩, if_neg hp]]
    unfold inB at i1 i2 i3
    simp +contextual (maxSteps := 1000000) (disch := first | omega | (with_reducible first | refine krN ?_ | refine krS ?_ | refine krP ?_ | refine krG ?_); kernel_rfl | refine kr ?_; simp only [go_sem, reduceCtorEq, Int.lt_irrefl, i1, i2, i3, hp]; done | fail) only [go_sem, seval, -List.reduceReplicate, Int.lt_irrefl, i1, i2, i3, hp]
theorem wc63x {r : Roll} {o1 o2 o3 o4 : Option Bool} : WC Try.prog (AA b) (.fn (.func 63) [] []) [.v (encRoll o1 o2 o3 o4 r)] m K = K (I (rulesE r)) m :=
  WC_flat (by simp only [mkAnn, K63]) (rfAs (xs := [encRoll o1 o2 o3 o4 r]) (by show ((encRoll o1 o2 o3 o4 r).closed && true) = true; rw [clRoll]; rfl)) refRulesX_to rfl
theorem refTownsX_to {r : Roll} {o1 o2 o3 o4 : Option Bool} : Ans Try.prog (AA b) 64 [encRoll o1 o2 o3 o4 r] (fun v => v = I (townsE r.fs)) := by
  refine Ans_of Try.func64 rfl rfl ?_
  unfold townsE
  by_cases e0 : r.fs.length = 0
  · have e0' : (r.fs.length : Int) = 0 := by omega
    rw [if_pos e0]
    simp +contextual (maxSteps := 1000000) (disch := first | omega | (with_reducible first | refine krN ?_ | refine krS ?_ | refine krP ?_ | refine krG ?_); kernel_rfl | refine kr ?_; simp only [go_sem, reduceCtorEq, e0']; done | fail) only [go_sem, seval, -List.reduceReplicate, e0']
  · have e0' : ¬ (r.fs.length : Int) = 0 := by omega
    rw [if_neg e0]
    by_cases e4 : 4 < r.fs.length
    · have e4' : 4 < (r.fs.length : Int) := by omega
      rw [if_pos e4]
      simp +contextual (maxSteps := 1000000) (disch := first | omega | (with_reducible first | refine krN ?_ | refine krS ?_ | refine krP ?_ | refine krG ?_); kernel_rfl | refine kr ?_; simp only [go_sem, reduceCtorEq, e0', e4']; done | fail) only [go_sem, seval, -List.reduceReplicate, e0', e4']
    · have e4' : ¬ 4 < (r.fs.length : Int) := by omega
      rw [if_neg e4]
      have hno : ∀ i, i < r.fs.length → ¬ TownOk r.fs i → I 2 = I (townsD r.fs) := fun i hi h => by rw [townsD_no hi h]
      simp +contextual (maxSteps := 1000000) (disch := first | omega | (with_reducible first | refine krN ?_ | refine krS ?_ | refine krP ?_ | refine krG ?_); kernel_rfl | refine kr ?_; simp only [go_sem, reduceCtorEq, e0', e4']; done | fail) only [go_sem, seval, -List.reduceReplicate, e0', e4']
      refine wp_loop_to r.fs.length (fun i st => ∃ (ex : List (Nat × Vl)), (∀ j, j < i → TownOk r.fs j) ∧ st = ({ sl := (1, .loc (encRoll o1 o2 o3 o4 r)) :: (3, I i) :: ex, hp := noHeap, nx := 0 } : FS)) ?_ 0 (Nat.zero_le _) ⟨_, fun j hj => absurd hj (by omega), rfl⟩
      rintro i st hi ⟨ex, hok, rfl⟩
      by_cases hc : i < r.fs.length
      · by_cases hl : r.fs[i]!.length = r.fs.length
        · have hl' : ((r.fs[i]!.length : Int) = (r.fs.length : Int)) := by omega
          have hci : i < (r.fs[i]!).length := by omega
          cases hd : (r.fs[i]!)[i]! with
          | true =>
            simp +contextual (maxSteps := 1000000) (disch := first | omega | (with_reducible first | refine krN ?_ | refine krS ?_ | refine krP ?_ | refine krG ?_); kernel_rfl | refine kr ?_; simp only [go_sem, reduceCtorEq, Int.ofNat_lt, hc, ix_map, encRow, hl', hci, hd]; done | fail) only [go_sem, seval, -List.reduceReplicate, Int.ofNat_lt, hc, ix_map, encRow, hl', hci, hd]
            exact hno i hc fun h => absurd (hd.symm.trans h.2.1) (by decide)
          | false =>
            simp +contextual (maxSteps := 1000000) (disch := first | omega | (with_reducible first | refine krN ?_ | refine krS ?_ | refine krP ?_ | refine krG ?_); kernel_rfl | refine kr ?_; simp only [go_sem, reduceCtorEq, Int.ofNat_lt, hc, ix_map, encRow, hl', hci, hd]; done | fail) only [go_sem, seval, -List.reduceReplicate, Int.ofNat_lt, hc, ix_map, encRow, hl', hci, hd]
            refine wp_loop_to i (fun k st => ∃ (ex : List (Nat × Vl)), (∀ j, j < k → (r.fs[i]!)[j]! = (r.fs[j]!)[i]!) ∧ st = ({ sl := (1, .loc (encRoll o1 o2 o3 o4 r)) :: (3, I i) :: (4, I k) :: ex, hp := noHeap, nx := 0 } : FS)) ?_ 0 (Nat.zero_le _) ⟨_, fun j hj => absurd hj (by omega), rfl⟩
            rintro k st hk ⟨ex, hsy, rfl⟩
            by_cases hck : k < i
            · have hkf : k < r.fs.length := by omega
              have hki : k < (r.fs[i]!).length := by omega
              have hik : i < (r.fs[k]!).length := by rw [(hok k hck).1]; exact hc
              by_cases hs : (r.fs[i]!)[k]! = (r.fs[k]!)[i]!
              · simp +contextual (maxSteps := 1000000) (disch := first | omega | (with_reducible first | refine krN ?_ | refine krS ?_ | refine krP ?_ | refine krG ?_); kernel_rfl | refine kr ?_; simp only [go_sem, reduceCtorEq, Int.ofNat_lt, hck, hc, hkf, ix_map, encRow, hki, hik, hs, bin_neB, bne_self_eq_false]; done | fail) only [go_sem, seval, -List.reduceReplicate, Int.ofNat_lt, hck, hc, hkf, ix_map, encRow, hki, hik, hs, bin_neB, bne_self_eq_false]
                refine ⟨_, fun j hj => ?_, rfl⟩
                by_cases e : j = k
                · rw [e]; exact hs
                · exact hsy j (by omega)
              · have hs' : ((r.fs[i]!)[k]! == (r.fs[k]!)[i]!) = false := by rw [beq_eq_false_iff_ne]; exact hs
                simp +contextual (maxSteps := 1000000) (disch := first | omega | (with_reducible first | refine krN ?_ | refine krS ?_ | refine krP ?_ | refine krG ?_); kernel_rfl | refine kr ?_; simp only [go_sem, reduceCtorEq, Int.ofNat_lt, hck, hc, hkf, ix_map, encRow, hki, hik, hs', bin_neB]; done | fail) only [go_sem, seval, -List.reduceReplicate, Int.ofNat_lt, hck, hc, hkf, ix_map, encRow, hki, hik, hs', bin_neB]
                exact hno i hc fun h => hs (h.2.2 k hck)
            · have hke : k = i := by omega
              subst hke
              simp +contextual (maxSteps := 1000000) (disch := first | omega | (with_reducible first | refine krN ?_ | refine krS ?_ | refine krP ?_ | refine krG ?_); kernel_rfl | refine kr ?_; simp only [go_sem, reduceCtorEq, Int.lt_irrefl]; done | fail) only [go_sem, seval, -List.reduceReplicate, Int.lt_irrefl]
              refine ⟨_, fun j hj => ?_, rfl⟩
              by_cases e : j = k
              · rw [e]; exact ⟨hl, hd, hsy⟩
              · exact hok j (by omega)
        · have hl' : ¬ ((r.fs[i]!.length : Int) = (r.fs.length : Int)) := by omega
          simp +contextual (maxSteps := 1000000) (disch := first | omega | (with_reducible first | refine krN ?_ | refine krS ?_ | refine krP ?_ | refine krG ?_); kernel_rfl | refine kr ?_; simp only [go_sem, reduceCtorEq, Int.ofNat_lt, hc, ix_map, encRow, hl']; done | fail) only [go_sem, seval, -List.reduceReplicate, Int.ofNat_lt, hc, ix_map, encRow, hl']
          exact hno i hc fun h => hl h.1
      · have hie : i = r.fs.length := by omega
        subst hie
        simp +contextual (maxSteps := 1000000) (disch := first | omega | (with_reducible first | refine krN ?_ | refine krS ?_ | refine krP ?_ | refine krG ?_); kernel_rfl | refine kr ?_; simp only [go_sem, reduceCtorEq, Int.lt_irrefl]; done | fail) only [go_sem, seval, -List.reduceReplicate, Int.lt_irrefl]
        rw [townsD_ok hok]
theorem wc64x {r : Roll} {o1 o2 o3 o4 : Option Bool} : WC Try.prog (AA b) (.fn (.func 64) [] []) [.v (encRoll o1 o2 o3 o4 r)] m K = K (I (townsE r.fs)) m :=
  WC_flat (by simp only [mkAnn, K64]) (rfAs (xs := [encRoll o1 o2 o3 o4 r]) (by show ((encRoll o1 o2 o3 o4 r).closed && true) = true; rw [clRoll]; rfl)) refTownsX_to rfl
theorem refRecordX_to {r : Roll} (hm : r.ms.length ≤ 1000000) (hf : r.fs.length ≤ 1000000) (ho : r.os.length ≤ 1000000) {c : Rec} {o1 o2 o3 o4 : Option Bool} : Ans Try.prog (AA b) 67 [encRoll o1 o2 o3 o4 r, encC c] (fun v => v = I (recE r c)) := by
  refine Ans_of Try.func67 rfl rfl ?_
  have hw : IntKind.wrap .i64 ((r.ms.length : Int) - 1) = (r.ms.length : Int) - 1 := wrap_i64 (by omega) (by omega)
  have hwf : IntKind.wrap .i64 ((r.fs.length : Int) - 1) = (r.fs.length : Int) - 1 := wrap_i64 (by omega) (by omega)
  have hwo : IntKind.wrap .i64 ((r.os.length : Int) - 1) = (r.os.length : Int) - 1 := wrap_i64 (by omega) (by omega)
  unfold recE
  cases i1 : inB c.man 0 ((r.ms.length : Int) - 1) with
  | false => unfold inB at i1; simp +contextual (maxSteps := 1000000) (disch := first | omega | (with_reducible first | refine krN ?_ | refine krS ?_ | refine krP ?_ | refine krG ?_); kernel_rfl | refine kr ?_; simp only [go_sem, reduceCtorEq, encC, hw, i1]; done | fail) only [go_sem, seval, -List.reduceReplicate, encC, hw, i1]
  | true =>
    unfold inB at i1
    cases hk : c.kin with
    | true =>
      cases i2 : inB c.child 0 ((r.ms.length : Int) - 1) with
      | false => unfold inB at i2; simp +contextual (maxSteps := 1000000) (disch := first | omega | (with_reducible first | refine krN ?_ | refine krS ?_ | refine krP ?_ | refine krG ?_); kernel_rfl | refine kr ?_; simp only [go_sem, reduceCtorEq, encC, hw, i1, i2, hk]; done | fail) only [go_sem, seval, -List.reduceReplicate, encC, hw, i1, i2, hk]
      | true =>
        unfold inB at i2
        by_cases h1 : c.child = c.man
        · simp +contextual (maxSteps := 1000000) (disch := first | omega | (with_reducible first | refine krN ?_ | refine krS ?_ | refine krP ?_ | refine krG ?_); kernel_rfl | refine kr ?_; simp only [go_sem, reduceCtorEq, encC, hw, i1, i2, hk, h1]; done | fail) only [go_sem, seval, -List.reduceReplicate, encC, hw, i1, i2, hk, h1]
        · by_cases h2 : c.office = 0
          · by_cases h3 : c.town = 0
            · by_cases h4 : c.lo = 0
              · by_cases h5 : c.hi = 0
                · simp +contextual (maxSteps := 1000000) (disch := first | omega | (with_reducible first | refine krN ?_ | refine krS ?_ | refine krP ?_ | refine krG ?_); kernel_rfl | refine kr ?_; simp only [go_sem, reduceCtorEq, encC, hw, i1, i2, hk, h1, h2, h3, h4, h5, bin_neS0, and_self]; done | fail) only [go_sem, seval, -List.reduceReplicate, encC, hw, i1, i2, hk, h1, h2, h3, h4, h5, bin_neS0, and_self]
                · simp +contextual (maxSteps := 1000000) (disch := first | omega | (with_reducible first | refine krN ?_ | refine krS ?_ | refine krP ?_ | refine krG ?_); kernel_rfl | refine kr ?_; simp only [go_sem, reduceCtorEq, encC, hw, i1, i2, hk, h1, h2, h3, h4, h5, bin_neSx, and_false, decide_true, decide_false, Bool.and_false, Bool.not_false]; done | fail) only [go_sem, seval, -List.reduceReplicate, encC, hw, i1, i2, hk, h1, h2, h3, h4, h5, bin_neSx, and_false, decide_true, decide_false, Bool.and_false, Bool.not_false]
              · simp +contextual (maxSteps := 1000000) (disch := first | omega | (with_reducible first | refine krN ?_ | refine krS ?_ | refine krP ?_ | refine krG ?_); kernel_rfl | refine kr ?_; simp only [go_sem, reduceCtorEq, encC, hw, i1, i2, hk, h1, h2, h3, h4, bin_neSx, and_false, false_and, decide_true, decide_false, Bool.false_and, Bool.not_false]; done | fail) only [go_sem, seval, -List.reduceReplicate, encC, hw, i1, i2, hk, h1, h2, h3, h4, bin_neSx, and_false, false_and, decide_true, decide_false, Bool.false_and, Bool.not_false]
            · simp +contextual (maxSteps := 1000000) (disch := first | omega | (with_reducible first | refine krN ?_ | refine krS ?_ | refine krP ?_ | refine krG ?_); kernel_rfl | refine kr ?_; simp only [go_sem, reduceCtorEq, encC, hw, i1, i2, hk, h1, h2, h3, and_false, false_and]; done | fail) only [go_sem, seval, -List.reduceReplicate, encC, hw, i1, i2, hk, h1, h2, h3, and_false, false_and]
          · simp +contextual (maxSteps := 1000000) (disch := first | omega | (with_reducible first | refine krN ?_ | refine krS ?_ | refine krP ?_ | refine krG ?_); kernel_rfl | refine kr ?_; simp only [go_sem, reduceCtorEq, encC, hw, i1, i2, hk, h1, h2, false_and]; done | fail) only [go_sem, seval, -List.reduceReplicate, encC, hw, i1, i2, hk, h1, h2, false_and]
    | false =>
      cases i2 : inB c.office (-1) ((r.os.length : Int) - 1) with
      | false => unfold inB at i2; simp +contextual (maxSteps := 1000000) (disch := first | omega | (with_reducible first | refine krN ?_ | refine krS ?_ | refine krP ?_ | refine krG ?_); kernel_rfl | refine kr ?_; simp only [go_sem, reduceCtorEq, encC, hw, hwo, i1, i2, hk, false_and]; done | fail) only [go_sem, seval, -List.reduceReplicate, encC, hw, hwo, i1, i2, hk, false_and]
      | true =>
        unfold inB at i2
        cases i3 : inB c.town 0 ((r.fs.length : Int) - 1) with
        | false => unfold inB at i3; simp +contextual (maxSteps := 1000000) (disch := first | omega | (with_reducible first | refine krN ?_ | refine krS ?_ | refine krP ?_ | refine krG ?_); kernel_rfl | refine kr ?_; simp only [go_sem, reduceCtorEq, encC, hw, hwf, hwo, i1, i2, i3, hk, and_false]; done | fail) only [go_sem, seval, -List.reduceReplicate, encC, hw, hwf, hwo, i1, i2, i3, hk, and_false]
        | true =>
          unfold inB at i3
          by_cases h1 : c.child = 0
          · simp +contextual (maxSteps := 1000000) (disch := first | omega | (with_reducible first | refine krN ?_ | refine krS ?_ | refine krP ?_ | refine krG ?_); kernel_rfl | refine kr ?_; simp only [go_sem, reduceCtorEq, encC, hw, hwf, hwo, i1, i2, i3, hk, h1, wc66x, and_self]; done | fail) only [go_sem, seval, -List.reduceReplicate, encC, hw, hwf, hwo, i1, i2, i3, hk, h1, wc66x, and_self]
          · simp +contextual (maxSteps := 1000000) (disch := first | omega | (with_reducible first | refine krN ?_ | refine krS ?_ | refine krP ?_ | refine krG ?_); kernel_rfl | refine kr ?_; simp only [go_sem, reduceCtorEq, encC, hw, hwf, hwo, i1, i2, i3, hk, h1, and_self]; done | fail) only [go_sem, seval, -List.reduceReplicate, encC, hw, hwf, hwo, i1, i2, i3, hk, h1, and_self]
theorem wc67x {r : Roll} (hm : r.ms.length ≤ 1000000) (hf : r.fs.length ≤ 1000000) (ho : r.os.length ≤ 1000000) {c : Rec} {o1 o2 o3 o4 : Option Bool} : WC Try.prog (AA b) (.fn (.func 67) [] []) [.v (encRoll o1 o2 o3 o4 r), .v (.agg [.bool c.kin, I c.man, I c.office, I c.town, I c.child, I c.lo, I c.hi])] m K = K (I (recE r c)) m :=
  WC_flat (by simp only [mkAnn, K67]) (rfAs (xs := [encRoll o1 o2 o3 o4 r, encC c]) (by show ((encRoll o1 o2 o3 o4 r).closed && ((encC c).closed && true)) = true; rw [clRoll, clC]; rfl)) (refRecordX_to hm hf ho) rfl
set_option maxRecDepth 10000 in
set_option maxHeartbeats 4000000 in
theorem refCheckX_to {r : Roll} (hm : r.ms.length ≤ 1000000) (hf : r.fs.length ≤ 1000000) (ho : r.os.length ≤ 1000000) {o1 o2 o3 o4 : Option Bool} : Ans Try.prog (AA b) 25 [encRoll o1 o2 o3 o4 r] (fun v => v = I (checkF r)) := by
  refine Ans_of Try.func25 rfl rfl ?_
  have e0 : checkF r = orE (rulesE r) (chk4 r) := by
    unfold checkF chk2 chk3 rulesE orE
    by_cases h1 : manyE r.os.length 0 5 = 0 <;> by_cases h2 : firstE offE r.os = 0 <;> simp only [h1, h2, if_true, if_false]
  rw [e0]
  by_cases hr : rulesE r = 0
  case neg =>
    rw [orE_n hr]
    simp +contextual (maxSteps := 1000000) (disch := first | omega | (with_reducible first | refine krN ?_ | refine krS ?_ | refine krP ?_ | refine krG ?_); kernel_rfl | refine kr ?_; simp only [go_sem, reduceCtorEq, wc63x, hr]; done | fail) only [go_sem, seval, -List.reduceReplicate, wc63x, hr]
  rw [hr, orE_0]
  by_cases ht : townsE r.fs = 0
  case neg =>
    rw [show chk4 r = townsE r.fs by unfold chk4; exact orE_n ht]
    simp +contextual (maxSteps := 1000000) (disch := first | omega | (with_reducible first | refine krN ?_ | refine krS ?_ | refine krP ?_ | refine krG ?_); kernel_rfl | refine kr ?_; simp only [go_sem, reduceCtorEq, wc63x, hr, wc64x, ht]; done | fail) only [go_sem, seval, -List.reduceReplicate, wc63x, hr, wc64x, ht]
  rw [show chk4 r = chk5 r by unfold chk4; rw [ht, orE_0]]
  by_cases e2 : r.ms.length = 0
  · have e2' : (r.ms.length : Int) = 0 := by omega
    rw [show chk5 r = 7 by unfold chk5 manyE; rw [if_pos (by omega)]; rfl]
    simp +contextual (maxSteps := 1000000) (disch := first | omega | (with_reducible first | refine krN ?_ | refine krS ?_ | refine krP ?_ | refine krG ?_); kernel_rfl | refine kr ?_; simp only [go_sem, reduceCtorEq, wc63x, hr, wc64x, ht, e2']; done | fail) only [go_sem, seval, -List.reduceReplicate, wc63x, hr, wc64x, ht, e2']
  have e2' : ¬ (r.ms.length : Int) = 0 := by omega
  by_cases e3 : 6 < r.ms.length
  · have e3' : 6 < (r.ms.length : Int) := by omega
    rw [show chk5 r = 6 by unfold chk5 manyE; rw [if_neg (by omega), if_pos e3]; rfl]
    simp +contextual (maxSteps := 1000000) (disch := first | omega | (with_reducible first | refine krN ?_ | refine krS ?_ | refine krP ?_ | refine krG ?_); kernel_rfl | refine kr ?_; simp only [go_sem, reduceCtorEq, wc63x, hr, wc64x, ht, e2', e3']; done | fail) only [go_sem, seval, -List.reduceReplicate, wc63x, hr, wc64x, ht, e2', e3']
  have e3' : ¬ 6 < (r.ms.length : Int) := by omega
  rw [show chk5 r = chk6 r by unfold chk5 manyE; rw [if_neg (by omega), if_neg e3, orE_0]]
  simp +contextual (maxSteps := 1000000) (disch := first | omega | (with_reducible first | refine krN ?_ | refine krS ?_ | refine krP ?_ | refine krG ?_); kernel_rfl | refine kr ?_; simp only [go_sem, reduceCtorEq, wc63x, hr, wc64x, ht, e2', e3']; done | fail) only [go_sem, seval, -List.reduceReplicate, wc63x, hr, wc64x, ht, e2', e3']
  refine wp_loop_to r.ms.length (fun i st => ∃ (ex : List (Nat × Vl)), (∀ j, j < i → manE r.ms[j]! = 0) ∧ st = ({ sl := (1, .loc (encRoll o1 o2 o3 o4 r)) :: (5, I i) :: ex, hp := noHeap, nx := 0 } : FS)) ?_ 0 (Nat.zero_le _) ⟨_, fun j hj => absurd hj (by omega), rfl⟩
  rintro i st hi ⟨ex, hok, rfl⟩
  by_cases hc : i < r.ms.length
  · have hbad : manE r.ms[i]! ≠ 0 → manE r.ms[i]! = chk6 r := fun h => by
      unfold chk6
      rw [firstE_at hok hc h, orE_n h]
    cases i1 : inB (r.ms[i]!).name 0 9 with
    | false =>
      have e : manE r.ms[i]! = 1 := if_neg (by rw [i1]; decide)
      have := hbad (by rw [e]; decide)
      unfold inB at i1
      simp +contextual (maxSteps := 1000000) (disch := first | omega | (with_reducible first | refine krN ?_ | refine krS ?_ | refine krP ?_ | refine krG ?_); kernel_rfl | refine kr ?_; simp only [go_sem, reduceCtorEq, Int.ofNat_lt, hc, ix_map, encM, i1]; done | fail) only [go_sem, seval, -List.reduceReplicate, Int.ofNat_lt, hc, ix_map, encM, i1]
      rw [← this, e]
    | true =>
      have e : manE r.ms[i]! = orE (yearsE r.ms[i]!.blo r.ms[i]!.bhi) (yearsE r.ms[i]!.dlo r.ms[i]!.dhi) := if_pos i1
      unfold inB at i1
      by_cases y1 : yearsE r.ms[i]!.blo r.ms[i]!.bhi = 0
      · rw [y1, orE_0] at e
        by_cases y2 : yearsE r.ms[i]!.dlo r.ms[i]!.dhi = 0
        · simp +contextual (maxSteps := 1000000) (disch := first | omega | (with_reducible first | refine krN ?_ | refine krS ?_ | refine krP ?_ | refine krG ?_); kernel_rfl | refine kr ?_; simp only [go_sem, reduceCtorEq, Int.ofNat_lt, hc, ix_map, encM, i1, wc66x, y1, y2]; done | fail) only [go_sem, seval, -List.reduceReplicate, Int.ofNat_lt, hc, ix_map, encM, i1, wc66x, y1, y2]
          refine ⟨_, fun j hj => ?_, rfl⟩
          by_cases ej : j = i
          · rw [ej, e]; exact y2
          · exact hok j (by omega)
        · have := hbad (by rw [e]; exact y2)
          simp +contextual (maxSteps := 1000000) (disch := first | omega | (with_reducible first | refine krN ?_ | refine krS ?_ | refine krP ?_ | refine krG ?_); kernel_rfl | refine kr ?_; simp only [go_sem, reduceCtorEq, Int.ofNat_lt, hc, ix_map, encM, i1, wc66x, y1, y2]; done | fail) only [go_sem, seval, -List.reduceReplicate, Int.ofNat_lt, hc, ix_map, encM, i1, wc66x, y1, y2]
          rw [← this, e]
      · rw [orE_n y1] at e
        have := hbad (by rw [e]; exact y1)
        simp +contextual (maxSteps := 1000000) (disch := first | omega | (with_reducible first | refine krN ?_ | refine krS ?_ | refine krP ?_ | refine krG ?_); kernel_rfl | refine kr ?_; simp only [go_sem, reduceCtorEq, Int.ofNat_lt, hc, ix_map, encM, i1, wc66x, y1]; done | fail) only [go_sem, seval, -List.reduceReplicate, Int.ofNat_lt, hc, ix_map, encM, i1, wc66x, y1]
        rw [← this, e]
  have hie : i = r.ms.length := by omega
  subst hie
  rw [show chk6 r = chk7 r by unfold chk6; rw [firstE_ok hok, orE_0]]
  clear hi hc hok
  by_cases e8 : 8 < r.cs.length
  · have e8' : 8 < (r.cs.length : Int) := by omega
    rw [show chk7 r = 6 by unfold chk7 manyE; rw [if_neg (by omega), if_pos e8]; rfl]
    simp +contextual (maxSteps := 1000000) (disch := first | omega | (with_reducible first | refine krN ?_ | refine krS ?_ | refine krP ?_ | refine krG ?_); kernel_rfl | refine kr ?_; simp only [go_sem, reduceCtorEq, Int.lt_irrefl, e8']; done | fail) only [go_sem, seval, -List.reduceReplicate, Int.lt_irrefl, e8']
  have e8' : ¬ 8 < (r.cs.length : Int) := by omega
  rw [show chk7 r = chk8 r by unfold chk7 manyE; rw [if_neg (by omega), if_neg e8, orE_0]]
  simp +contextual (maxSteps := 1000000) (disch := first | omega | (with_reducible first | refine krN ?_ | refine krS ?_ | refine krP ?_ | refine krG ?_); kernel_rfl | refine kr ?_; simp only [go_sem, reduceCtorEq, Int.lt_irrefl, e8']; done | fail) only [go_sem, seval, -List.reduceReplicate, Int.lt_irrefl, e8']
  refine wp_loop_to r.cs.length (fun i st => ∃ (ex : List (Nat × Vl)), (∀ j, j < i → recE r r.cs[j]! = 0) ∧ st = ({ sl := (1, .loc (encRoll o1 o2 o3 o4 r)) :: (9, I i) :: ex, hp := noHeap, nx := 0 } : FS)) ?_ 0 (Nat.zero_le _) ⟨_, fun j hj => absurd hj (by omega), rfl⟩
  clear ex
  rintro i st hi ⟨ex, hok, rfl⟩
  by_cases hc : i < r.cs.length
  · have hr67 := fun (m : Mem) (K : Vl → Mem → Prop) => wc67x (b := b) (m := m) (K := K) (r := r) hm hf ho (c := r.cs[i]!) (o1 := o1) (o2 := o2) (o3 := o3) (o4 := o4)
    by_cases hrc : recE r r.cs[i]! = 0
    · simp +contextual (maxSteps := 1000000) (disch := first | omega | (with_reducible first | refine krN ?_ | refine krS ?_ | refine krP ?_ | refine krG ?_); kernel_rfl | refine kr ?_; simp only [go_sem, reduceCtorEq, Int.ofNat_lt, hc, ix_map, encC, hr67, hrc]; done | fail) only [go_sem, seval, -List.reduceReplicate, Int.ofNat_lt, hc, ix_map, encC, hr67, hrc]
      refine ⟨_, fun j hj => ?_, rfl⟩
      by_cases ej : j = i
      · rw [ej]; exact hrc
      · exact hok j (by omega)
    · have : chk8 r = recE r r.cs[i]! := firstE_at hok hc hrc
      simp +contextual (maxSteps := 1000000) (disch := first | omega | (with_reducible first | refine krN ?_ | refine krS ?_ | refine krP ?_ | refine krG ?_); kernel_rfl | refine kr ?_; simp only [go_sem, reduceCtorEq, Int.ofNat_lt, hc, ix_map, encC, hr67, hrc]; done | fail) only [go_sem, seval, -List.reduceReplicate, Int.ofNat_lt, hc, ix_map, encC, hr67, hrc]
      rw [this]
  · have hie : i = r.cs.length := by omega
    subst hie
    simp +contextual (maxSteps := 1000000) (disch := first | omega | (with_reducible first | refine krN ?_ | refine krS ?_ | refine krP ?_ | refine krG ?_); kernel_rfl | refine kr ?_; simp only [go_sem, reduceCtorEq, Int.lt_irrefl]; done | fail) only [go_sem, seval, -List.reduceReplicate, Int.lt_irrefl]
    rw [show chk8 r = 0 from firstE_ok hok]
theorem wc25x {r : Roll} (hm : r.ms.length ≤ 1000000) (hf : r.fs.length ≤ 1000000) (ho : r.os.length ≤ 1000000) {o1 o2 o3 o4 : Option Bool} : WC Try.prog (AA b) (.fn (.func 25) [] []) [.v (encRoll o1 o2 o3 o4 r)] m K = K (I (checkF r)) m :=
  WC_flat (by simp only [mkAnn, K25]) (rfAs (xs := [encRoll o1 o2 o3 o4 r]) (by show ((encRoll o1 o2 o3 o4 r).closed && true) = true; rw [clRoll]; rfl)) (refCheckX_to hm hf ho) rfl
theorem busyX_to {r : Roll} (hm : r.ms.length ≤ 1000000) (hf : r.fs.length ≤ 1000000) (ho : r.os.length ≤ 1000000) (hc8 : r.cs.length ≤ 1000000) {o1 o2 o3 o4 : Option Bool} : Ans Try.prog (AA b) 15 [encRoll o1 o2 o3 o4 r] (fun v => ∃ t, v = .bool t) := by
  refine Ans_of Try.func15 rfl rfl ?_
  simp +contextual (maxSteps := 1000000) (disch := first | omega | (with_reducible first | refine krN ?_ | refine krS ?_ | refine krP ?_ | refine krG ?_); kernel_rfl | refine kr ?_; simp only [go_sem, reduceCtorEq]; done | fail) only [go_sem, seval, -List.reduceReplicate]
  refine wp_loop_to r.ms.length (fun i st => ∃ (ex : List (Nat × Vl)), st = ({ sl := (1, .loc (encRoll o1 o2 o3 o4 r)) :: (3, I i) :: ex, hp := noHeap, nx := 0 } : FS)) ?_ 0 (Nat.zero_le _) ⟨_, rfl⟩
  rintro i st hi ⟨ex, rfl⟩
  by_cases hc : i < r.ms.length
  · simp +contextual (maxSteps := 1000000) (disch := first | omega | (with_reducible first | refine krN ?_ | refine krS ?_ | refine krP ?_ | refine krG ?_); kernel_rfl | refine kr ?_; simp only [go_sem, reduceCtorEq, Int.ofNat_lt, hc]; done | fail) only [go_sem, seval, -List.reduceReplicate, Int.ofNat_lt, hc]
    refine wp_loop_to r.cs.length (fun j st => ∃ (ex : List (Nat × Vl)), st = ({ sl := (1, .loc (encRoll o1 o2 o3 o4 r)) :: (3, I i) :: (4, I (countM r i j)) :: (5, I j) :: ex, hp := noHeap, nx := 0 } : FS)) ?_ 0 (Nat.zero_le _) ⟨_, rfl⟩
    rintro j st hj ⟨ex, rfl⟩
    by_cases hcj : j < r.cs.length
    · have hsu := @countM_succ r i j
      have hcl := @countM_le r i j
      have hwc : IntKind.wrap .i64 ((countM r i j : Int) + 1) = ((countM r i j + 1 : Nat) : Int) := by rw [wrap_i64 (by omega) (by omega)]; omega
      cases hk : r.cs[j]!.kin with
      | true =>
        rw [hk, if_neg (by simp)] at hsu
        simp +contextual (maxSteps := 1000000) (disch := first | omega | (with_reducible first | refine krN ?_ | refine krS ?_ | refine krP ?_ | refine krG ?_); kernel_rfl | refine kr ?_; simp only [go_sem, reduceCtorEq, Int.ofNat_lt, hcj, ix_map, encC, hk]; done | fail) only [go_sem, seval, -List.reduceReplicate, Int.ofNat_lt, hcj, ix_map, encC, hk]
        exact ⟨_, by rw [hsu]; rfl⟩
      | false =>
        by_cases he : r.cs[j]!.man = (i : Int)
        · rw [if_pos ⟨hk, he⟩] at hsu
          simp +contextual (maxSteps := 1000000) (disch := first | omega | (with_reducible first | refine krN ?_ | refine krS ?_ | refine krP ?_ | refine krG ?_); kernel_rfl | refine kr ?_; simp only [go_sem, reduceCtorEq, Int.ofNat_lt, hcj, ix_map, encC, hk, he, hwc]; done | fail) only [go_sem, seval, -List.reduceReplicate, Int.ofNat_lt, hcj, ix_map, encC, hk, he, hwc]
          exact ⟨_, by rw [hsu]⟩
        · rw [if_neg (fun h => he h.2)] at hsu
          simp +contextual (maxSteps := 1000000) (disch := first | omega | (with_reducible first | refine krN ?_ | refine krS ?_ | refine krP ?_ | refine krG ?_); kernel_rfl | refine kr ?_; simp only [go_sem, reduceCtorEq, Int.ofNat_lt, hcj, ix_map, encC, hk, he]; done | fail) only [go_sem, seval, -List.reduceReplicate, Int.ofNat_lt, hcj, ix_map, encC, hk, he]
          exact ⟨_, by rw [hsu]; rfl⟩
    · have hje : j = r.cs.length := by omega
      subst hje
      by_cases h4 : 4 < (countM r i r.cs.length : Int)
      · simp +contextual (maxSteps := 1000000) (disch := first | omega | (with_reducible first | refine krN ?_ | refine krS ?_ | refine krP ?_ | refine krG ?_); kernel_rfl | refine kr ?_; simp only [go_sem, reduceCtorEq, Int.lt_irrefl, h4, wc25x, hm, hf, ho]; done | fail) only [go_sem, seval, -List.reduceReplicate, Int.lt_irrefl, h4, wc25x, hm, hf, ho]
        exact ⟨_, rfl⟩
      · simp +contextual (maxSteps := 1000000) (disch := first | omega | (with_reducible first | refine krN ?_ | refine krS ?_ | refine krP ?_ | refine krG ?_); kernel_rfl | refine kr ?_; simp only [go_sem, reduceCtorEq, Int.lt_irrefl, h4]; done | fail) only [go_sem, seval, -List.reduceReplicate, Int.lt_irrefl, h4]
        exact ⟨_, rfl⟩
  · have hie : i = r.ms.length := by omega
    subst hie
    simp +contextual (maxSteps := 1000000) (disch := first | omega | (with_reducible first | refine krN ?_ | refine krS ?_ | refine krP ?_ | refine krG ?_); kernel_rfl | refine kr ?_; simp only [go_sem, reduceCtorEq, Int.lt_irrefl]; done | fail) only [go_sem, seval, -List.reduceReplicate, Int.lt_irrefl]
    exact ⟨_, rfl⟩
end
end Go.Proofs
