/- What functions of the given program do in the ideal machine (G42), and the plain laws of what they answer; the conditions stand in each theorem. -/
import Derived.Test.YtencmmlmeifffaaGk
import Derived.Test.YtencmmlmeifffaaGg
set_option linter.all false
set_option linter.unusedSectionVars false
set_option linter.unusedSimpArgs false
set_option linter.unusedVariables false
namespace Go.Proofs
open Go Go.Idl
set_option linter.unusedSimpArgs false
variable {b : Bool}
theorem orE_zero {a c : Int} (h : orE a c = 0) : a = 0 ∧ c = 0 := by
  unfold orE at h
  by_cases e : a = 0
  · rw [if_pos e] at h; exact ⟨e, h⟩
  · rw [if_neg e] at h; exact absurd h e
theorem manyE_zero {n lo hi : Nat} (h : manyE n lo hi = 0) : lo ≤ n ∧ n ≤ hi := by
  unfold manyE at h
  split at h
  · cases h
  · split at h
    · cases h
    · omega
theorem yearsE_zero {lo hi : Int} (h : yearsE lo hi = 0) : YearsOk lo hi := by
  unfold yearsE at h
  split at h
  · split at h
    · unfold YearsOk; omega
    · cases h
  · cases h
theorem recE_zero {r : Roll} {c : Rec} (h : recE r c = 0) : RecVal r c := by
  unfold recE at h
  cases i1 : inB c.man 0 ((r.ms.length : Int) - 1) with
  | false => rw [i1] at h; cases h
  | true =>
    rw [i1, if_pos rfl] at h
    have b1 := inB_iff.1 i1
    cases hk : c.kin with
    | true =>
      rw [hk, if_pos rfl] at h
      cases i2 : inB c.child 0 ((r.ms.length : Int) - 1) with
      | false => rw [i2] at h; cases h
      | true =>
        rw [i2, if_pos rfl] at h
        have b2 := inB_iff.1 i2
        split at h
        · cases h
        · rename_i hcm
          split at h
          · rename_i h4
            exact ⟨b1.1, by omega, fun _ => ⟨b2.1, by omega, hcm, h4⟩, fun e => absurd (hk.symm.trans e) (by decide)⟩
          · cases h
    | false =>
      rw [hk, if_neg (by decide)] at h
      split at h
      · rename_i hb
        have b2 := inB_iff.1 hb.1
        have b3 := inB_iff.1 hb.2
        split at h
        · rename_i hch
          exact ⟨b1.1, by omega, fun e => absurd (hk.symm.trans e) (by decide), fun _ => ⟨b2.1, by omega, b3.1, by omega, hch, yearsE_zero h⟩⟩
        · cases h
      · cases h
theorem checkF_wf {r : Roll} (h : checkF r = 0) : WF r := by
  obtain ⟨h1, h⟩ := orE_zero h
  obtain ⟨h2, h⟩ := orE_zero h
  obtain ⟨h3, h⟩ := orE_zero h
  obtain ⟨h4, h⟩ := orE_zero h
  obtain ⟨h5, h⟩ := orE_zero h
  obtain ⟨h6, h⟩ := orE_zero h
  obtain ⟨h7, h8⟩ := orE_zero h
  have t1 : 1 ≤ r.fs.length ∧ r.fs.length ≤ 4 ∧ ∀ i, i < r.fs.length → TownOk r.fs i := by
    unfold townsE at h4
    split at h4
    · cases h4
    · split at h4
      · cases h4
      · refine ⟨by omega, by omega, fun i hi => ?_⟩
        by_cases e : TownOk r.fs i
        · exact e
        · rw [townsD_no hi e] at h4; cases h4
  have ru : (0 ≤ r.life ∧ r.life ≤ 100) ∧ 1 ≤ r.plo ∧ r.plo ≤ r.phi ∧ r.phi ≤ 100 := by
    unfold ruleE at h3
    split at h3
    · rename_i hb
      have b1 := inB_iff.1 hb.1
      have b2 := inB_iff.1 hb.2.1
      have b3 := inB_iff.1 hb.2.2
      split at h3
      · cases h3
      · omega
    · cases h3
  have m1 : ∀ m ∈ r.ms, (0 ≤ m.name ∧ m.name ≤ 9) ∧ YearsOk m.blo m.bhi ∧ YearsOk m.dlo m.dhi := fun m hm => by
    have := firstE_zero h6 m hm
    unfold manE at this
    split at this
    · rename_i hb
      obtain ⟨y1, y2⟩ := orE_zero this
      exact ⟨inB_iff.1 hb, yearsE_zero y1, yearsE_zero y2⟩
    · cases this
  refine ⟨⟨(manyE_zero h1).2, fun o ho => ?_, ru.1, ru.2, ⟨t1.1, t1.2.1⟩, fun w hw => ?_, manyE_zero h5, fun m hm => (m1 m hm).2, (manyE_zero h7).2, fun c hc => recE_zero (firstE_zero h8 c hc)⟩, fun m hm => (m1 m hm).1, fun i hi => (t1.2.2 i hi).2.1, fun i k hk hi => (t1.2.2 i hi).2.2 k hk⟩
  · have := firstE_zero h2 o ho
    unfold offE at this
    split at this
    · rename_i hb
      have b1 := inB_iff.1 hb.1
      have b2 := inB_iff.1 hb.2.1
      have b3 := inB_iff.1 hb.2.2
      unfold OffOk
      omega
    · cases this
  · obtain ⟨i, hi, rfl⟩ := List.getElem_of_mem hw
    rw [← get!_eq hi]
    exact (t1.2.2 i hi).1
def Narrow20 (r : Roll) : Prop := r.os.length ≤ 20 ∧ r.fs.length ≤ 20 ∧ r.ms.length ≤ 20 ∧ r.cs.length ≤ 20 ∧ ∀ i, i < r.fs.length → r.fs[i]!.length ≤ 20
section
variable {m : Mem} {K : Vl → Mem → Prop}
theorem wide_to {r : Roll} (hf : r.fs.length ≤ 9223372036854775807) {o1 o2 o3 o4 : Option Bool} : Ans Try.prog (AA b) 14 [encRoll o1 o2 o3 o4 r] (fun v => ∃ t, v = .bool t ∧ (t = false → Narrow20 r)) := by
  refine Ans_of Try.func14 rfl rfl ?_
  simp +contextual (maxSteps := 1000000) (disch := first | omega | (with_reducible first | refine krN ?_ | refine krS ?_ | refine krP ?_ | refine krG ?_); kernel_rfl | refine kr ?_; simp only [go_sem, reduceCtorEq]; done | fail) only [go_sem, seval, -List.reduceReplicate]
  refine wp_loop_to (min r.fs.length 20) (fun i st => ∃ (ex : List (Nat × Vl)), (∀ j, j < i → r.fs[j]!.length ≤ 20) ∧ st = ({ sl := (1, .loc (encRoll o1 o2 o3 o4 r)) :: (3, I i) :: ex, hp := noHeap, nx := 0 } : FS)) ?_ 0 (Nat.zero_le _) ⟨_, fun j hj => absurd hj (by omega), rfl⟩
  rintro i st hi ⟨ex, hok, rfl⟩
  by_cases hc : i < r.fs.length
  · by_cases h20 : i < 20
    · have h20' : (i : Int) < 20 := by omega
      have hm : i < min r.fs.length 20 := by omega
      by_cases hl : 20 < (r.fs[i]!.length : Int)
      · simp +contextual (maxSteps := 1000000) (disch := first | omega | (with_reducible first | refine krN ?_ | refine krS ?_ | refine krP ?_ | refine krG ?_); kernel_rfl | refine kr ?_; simp only [go_sem, reduceCtorEq, Int.ofNat_lt, hc, h20', ix_map, encRow, hl]; done | fail) only [go_sem, seval, -List.reduceReplicate, Int.ofNat_lt, hc, h20', ix_map, encRow, hl]
        exact ⟨true, rfl, fun e => by cases e⟩
      · simp +contextual (maxSteps := 1000000) (disch := first | omega | (with_reducible first | refine krN ?_ | refine krS ?_ | refine krP ?_ | refine krG ?_); kernel_rfl | refine kr ?_; simp only [go_sem, reduceCtorEq, Int.ofNat_lt, hc, h20', ix_map, encRow, hl, hm]; done | fail) only [go_sem, seval, -List.reduceReplicate, Int.ofNat_lt, hc, h20', ix_map, encRow, hl, hm]
        refine ⟨_, fun j hj => ?_, rfl⟩
        by_cases e : j = i
        · rw [e]; omega
        · exact hok j (by omega)
    · have h20' : ¬ (i : Int) < 20 := by omega
      by_cases h1 : 20 < (r.os.length : Int)
      · simp +contextual (maxSteps := 1000000) (disch := first | omega | (with_reducible first | refine krN ?_ | refine krS ?_ | refine krP ?_ | refine krG ?_); kernel_rfl | refine kr ?_; simp only [go_sem, reduceCtorEq, Int.ofNat_lt, hc, h20', h1]; done | fail) only [go_sem, seval, -List.reduceReplicate, Int.ofNat_lt, hc, h20', h1]
        exact ⟨true, rfl, fun e => by cases e⟩
      · by_cases h2 : 20 < (r.fs.length : Int)
        · simp +contextual (maxSteps := 1000000) (disch := first | omega | (with_reducible first | refine krN ?_ | refine krS ?_ | refine krP ?_ | refine krG ?_); kernel_rfl | refine kr ?_; simp only [go_sem, reduceCtorEq, Int.ofNat_lt, hc, h20', h1, h2]; done | fail) only [go_sem, seval, -List.reduceReplicate, Int.ofNat_lt, hc, h20', h1, h2]
          exact ⟨true, rfl, fun e => by cases e⟩
        · omega
  · have h1i : ¬ ((i : Int) < (r.fs.length : Int)) := by omega
    have hie : i = r.fs.length := by omega
    by_cases h1 : 20 < (r.os.length : Int)
    · simp +contextual (maxSteps := 1000000) (disch := first | omega | (with_reducible first | refine krN ?_ | refine krS ?_ | refine krP ?_ | refine krG ?_); kernel_rfl | refine kr ?_; simp only [go_sem, reduceCtorEq, h1i, h1]; done | fail) only [go_sem, seval, -List.reduceReplicate, h1i, h1]
      exact ⟨true, rfl, fun e => by cases e⟩
    · by_cases h2 : 20 < (r.fs.length : Int)
      · omega
      · by_cases h3 : 20 < (r.ms.length : Int)
        · simp +contextual (maxSteps := 1000000) (disch := first | omega | (with_reducible first | refine krN ?_ | refine krS ?_ | refine krP ?_ | refine krG ?_); kernel_rfl | refine kr ?_; simp only [go_sem, reduceCtorEq, h1i, h1, h2, h3]; done | fail) only [go_sem, seval, -List.reduceReplicate, h1i, h1, h2, h3]
          exact ⟨true, rfl, fun e => by cases e⟩
        · by_cases h4 : 20 < (r.cs.length : Int)
          · simp +contextual (maxSteps := 1000000) (disch := first | omega | (with_reducible first | refine krN ?_ | refine krS ?_ | refine krP ?_ | refine krG ?_); kernel_rfl | refine kr ?_; simp only [go_sem, reduceCtorEq, h1i, h1, h2, h3, h4]; done | fail) only [go_sem, seval, -List.reduceReplicate, h1i, h1, h2, h3, h4]
            exact ⟨true, rfl, fun e => by cases e⟩
          · simp +contextual (maxSteps := 1000000) (disch := first | omega | (with_reducible first | refine krN ?_ | refine krS ?_ | refine krP ?_ | refine krG ?_); kernel_rfl | refine kr ?_; simp only [go_sem, reduceCtorEq, h1i, h1, h2, h3, h4]; done | fail) only [go_sem, seval, -List.reduceReplicate, h1i, h1, h2, h3, h4]
            exact ⟨false, rfl, fun _ => ⟨by omega, by omega, by omega, by omega, fun j hj => hok j (by omega)⟩⟩
theorem bin_eqB {x : Bool} : binOpV { ok := true, agg := false, size := 1, zero := Vl.bool false, flat := some [CK.b], k := TK.bool } .eql (.bool x) (.bool x) = some (.bool true) := by cases x <;> rfl
theorem bin_eq2 {x y : Int} {k : List (Nat × Bool × Nat)} : binOpV { ok := true, agg := true, size := 2, zero := Vl.agg [I 0, I 0], flat := some [CK.i, CK.i], k := TK.struct k } .eql (Vl.agg [I x, I y]) (Vl.agg [I x, I y]) = some (.bool true) := by
  simp [binOpV, eqCells, eqCell]
theorem bin_eq3 {x y u : Int} {k : List (Nat × Bool × Nat)} : binOpV { ok := true, agg := true, size := 3, zero := Vl.agg [I 0, I 0, I 0], flat := some [CK.i, CK.i, CK.i], k := TK.struct k } .eql (Vl.agg [I x, I y, I u]) (Vl.agg [I x, I y, I u]) = some (.bool true) := by
  simp [binOpV, eqCells, eqCell]
theorem bin_eq5 {x y u v w : Int} {k : List (Nat × Bool × Nat)} : binOpV { ok := true, agg := true, size := 5, zero := Vl.agg [I 0, I 0, I 0, I 0, I 0], flat := some [CK.i, CK.i, CK.i, CK.i, CK.i], k := TK.struct k } .eql (Vl.agg [I x, I y, I u, I v, I w]) (Vl.agg [I x, I y, I u, I v, I w]) = some (.bool true) := by
  simp [binOpV, eqCells, eqCell]
theorem bin_eq7 {a : Bool} {x y u v w q : Int} {k : List (Nat × Bool × Nat)} : binOpV { ok := true, agg := true, size := 7, zero := Vl.agg [.bool false, I 0, I 0, I 0, I 0, I 0, I 0], flat := some [CK.b, CK.i, CK.i, CK.i, CK.i, CK.i, CK.i], k := TK.struct k } .eql (Vl.agg [.bool a, I x, I y, I u, I v, I w, I q]) (Vl.agg [.bool a, I x, I y, I u, I v, I w, I q]) = some (.bool true) := by
  simp [binOpV, eqCells, eqCell]
theorem flags_to {w : List Bool} (hl : w.length ≤ 1000000) {o1 o2 : Option Bool} : Ans Try.prog (AA b) 68 [SL 1 (w.map Vl.bool) o1, SL 1 (w.map Vl.bool) o2] (fun v => v = .bool true) := by
  refine Ans_of Try.func68 rfl rfl ?_
  simp +contextual (maxSteps := 1000000) (disch := first | omega | (with_reducible first | refine krN ?_ | refine krS ?_ | refine krP ?_ | refine krG ?_); kernel_rfl | refine kr ?_; simp only [go_sem, reduceCtorEq]; done | fail) only [go_sem, seval, -List.reduceReplicate]
  refine wp_loop_to w.length (fun i st => ∃ (ex : List (Nat × Vl)), st = ({ sl := (0, SL 1 (w.map Vl.bool) o1) :: (1, SL 1 (w.map Vl.bool) o2) :: (5, .bool true) :: (6, I i) :: ex, hp := noHeap, nx := 0 } : FS)) ?_ 0 (Nat.zero_le _) ⟨_, rfl⟩
  rintro i st hi ⟨ex, rfl⟩
  by_cases hc : i < w.length
  · simp +contextual (maxSteps := 1000000) (disch := first | omega | (with_reducible first | refine krN ?_ | refine krS ?_ | refine krP ?_ | refine krG ?_); kernel_rfl | refine kr ?_; simp only [go_sem, reduceCtorEq, Int.ofNat_lt, hc, ix_map, bin_eqB]; done | fail) only [go_sem, seval, -List.reduceReplicate, Int.ofNat_lt, hc, ix_map, bin_eqB]
    exact ⟨_, rfl⟩
  · have hie : i = w.length := by omega
    subst hie
    simp +contextual (maxSteps := 1000000) (disch := first | omega | (with_reducible first | refine krN ?_ | refine krS ?_ | refine krP ?_ | refine krG ?_); kernel_rfl | refine kr ?_; simp only [go_sem, reduceCtorEq, Int.lt_irrefl]; done | fail) only [go_sem, seval, -List.reduceReplicate, Int.lt_irrefl]
theorem wc68 {w : List Bool} (hl : w.length ≤ 1000000) {o1 o2 : Option Bool} : WC Try.prog (AA b) (.fn (.func 68) [] []) [.v (SL 1 (w.map Vl.bool) o1), .v (SL 1 (w.map Vl.bool) o2)] m K = K (.bool true) m :=
  WC_flat (by simp only [mkAnn, K68]) (rfAs (xs := [SL 1 (w.map Vl.bool) o1, SL 1 (w.map Vl.bool) o2]) (by show ((SL 1 (w.map Vl.bool) o1).closed && ((SL 1 (w.map Vl.bool) o2).closed && true)) = true; rw [closed_SL (closedL_map (fun _ => rfl) w), closed_SL (closedL_map (fun _ => rfl) w)]; rfl)) (flags_to hl) rfl
set_option maxRecDepth 10000 in
set_option maxHeartbeats 4000000 in
theorem sameRolls_to {r : Roll} (hr : Narrow20 r) {o1 o2 o3 o4 p1 p2 p3 p4 : Option Bool} : Ans Try.prog (AA b) 27 [encRoll o1 o2 o3 o4 r, encRoll p1 p2 p3 p4 r] (fun v => v = .bool true) := by
  refine Ans_of Try.func27 rfl rfl ?_
  obtain ⟨l1, l2, l3, l4, l5⟩ := hr
  simp +contextual (maxSteps := 1000000) (disch := first | omega | (with_reducible first | refine krN ?_ | refine krS ?_ | refine krP ?_ | refine krG ?_); kernel_rfl | refine kr ?_; simp only [go_sem, reduceCtorEq, bin_eq2]; done | fail) only [go_sem, seval, -List.reduceReplicate, bin_eq2]
  refine wp_loop_to r.os.length (fun i st => ∃ (ex : List (Nat × Vl)), st = ({ sl := (2, .loc (encRoll o1 o2 o3 o4 r)) :: (3, .loc (encRoll p1 p2 p3 p4 r)) :: (5, .bool true) :: (6, I i) :: ex, hp := noHeap, nx := 0 } : FS)) ?_ 0 (Nat.zero_le _) ⟨_, rfl⟩
  rintro i st hi ⟨ex, rfl⟩
  by_cases hc : i < r.os.length
  case pos =>
    simp +contextual (maxSteps := 1000000) (disch := first | omega | (with_reducible first | refine krN ?_ | refine krS ?_ | refine krP ?_ | refine krG ?_); kernel_rfl | refine kr ?_; simp only [go_sem, reduceCtorEq, Int.ofNat_lt, hc, ix_map, encO, bin_eq3]; done | fail) only [go_sem, seval, -List.reduceReplicate, Int.ofNat_lt, hc, ix_map, encO, bin_eq3]
    exact ⟨_, rfl⟩
  obtain rfl : i = r.os.length := by omega
  simp +contextual (maxSteps := 1000000) (disch := first | omega | (with_reducible first | refine krN ?_ | refine krS ?_ | refine krP ?_ | refine krG ?_); kernel_rfl | refine kr ?_; simp only [go_sem, reduceCtorEq, Int.lt_irrefl]; done | fail) only [go_sem, seval, -List.reduceReplicate, Int.lt_irrefl]
  clear hi hc
  refine wp_loop_to r.fs.length (fun i st => ∃ (ex : List (Nat × Vl)), st = ({ sl := (2, .loc (encRoll o1 o2 o3 o4 r)) :: (3, .loc (encRoll p1 p2 p3 p4 r)) :: (5, .bool true) :: (7, I i) :: ex, hp := noHeap, nx := 0 } : FS)) ?_ 0 (Nat.zero_le _) ⟨_, rfl⟩
  rintro i st hi ⟨ex, rfl⟩
  by_cases hc : i < r.fs.length
  case pos =>
    have w68 := fun (m : Mem) (K : Vl → Mem → Prop) => wc68 (b := b) (m := m) (K := K) (w := r.fs[i]!) (o1 := some false) (o2 := some false) (by have := l5 i hc; omega)
    simp +contextual (maxSteps := 1000000) (disch := first | omega | (with_reducible first | refine krN ?_ | refine krS ?_ | refine krP ?_ | refine krG ?_); kernel_rfl | refine kr ?_; simp only [go_sem, reduceCtorEq, Int.ofNat_lt, hc, ix_map, encRow, w68]; done | fail) only [go_sem, seval, -List.reduceReplicate, Int.ofNat_lt, hc, ix_map, encRow, w68]
    exact ⟨_, rfl⟩
  obtain rfl : i = r.fs.length := by omega
  simp +contextual (maxSteps := 1000000) (disch := first | omega | (with_reducible first | refine krN ?_ | refine krS ?_ | refine krP ?_ | refine krG ?_); kernel_rfl | refine kr ?_; simp only [go_sem, reduceCtorEq, Int.lt_irrefl]; done | fail) only [go_sem, seval, -List.reduceReplicate, Int.lt_irrefl]
  clear hi hc
  refine wp_loop_to r.ms.length (fun i st => ∃ (ex : List (Nat × Vl)), st = ({ sl := (2, .loc (encRoll o1 o2 o3 o4 r)) :: (3, .loc (encRoll p1 p2 p3 p4 r)) :: (5, .bool true) :: (8, I i) :: ex, hp := noHeap, nx := 0 } : FS)) ?_ 0 (Nat.zero_le _) ⟨_, rfl⟩
  rintro i st hi ⟨ex, rfl⟩
  by_cases hc : i < r.ms.length
  case pos =>
    simp +contextual (maxSteps := 1000000) (disch := first | omega | (with_reducible first | refine krN ?_ | refine krS ?_ | refine krP ?_ | refine krG ?_); kernel_rfl | refine kr ?_; simp only [go_sem, reduceCtorEq, Int.ofNat_lt, hc, ix_map, encM, bin_eq5]; done | fail) only [go_sem, seval, -List.reduceReplicate, Int.ofNat_lt, hc, ix_map, encM, bin_eq5]
    exact ⟨_, rfl⟩
  obtain rfl : i = r.ms.length := by omega
  simp +contextual (maxSteps := 1000000) (disch := first | omega | (with_reducible first | refine krN ?_ | refine krS ?_ | refine krP ?_ | refine krG ?_); kernel_rfl | refine kr ?_; simp only [go_sem, reduceCtorEq, Int.lt_irrefl]; done | fail) only [go_sem, seval, -List.reduceReplicate, Int.lt_irrefl]
  clear hi hc
  refine wp_loop_to r.cs.length (fun i st => ∃ (ex : List (Nat × Vl)), st = ({ sl := (2, .loc (encRoll o1 o2 o3 o4 r)) :: (3, .loc (encRoll p1 p2 p3 p4 r)) :: (5, .bool true) :: (9, I i) :: ex, hp := noHeap, nx := 0 } : FS)) ?_ 0 (Nat.zero_le _) ⟨_, rfl⟩
  rintro i st hi ⟨ex, rfl⟩
  by_cases hc : i < r.cs.length
  case pos =>
    simp +contextual (maxSteps := 1000000) (disch := first | omega | (with_reducible first | refine krN ?_ | refine krS ?_ | refine krP ?_ | refine krG ?_); kernel_rfl | refine kr ?_; simp only [go_sem, reduceCtorEq, Int.ofNat_lt, hc, ix_map, encC, bin_eq7]; done | fail) only [go_sem, seval, -List.reduceReplicate, Int.ofNat_lt, hc, ix_map, encC, bin_eq7]
    exact ⟨_, rfl⟩
  obtain rfl : i = r.cs.length := by omega
  simp +contextual (maxSteps := 1000000) (disch := first | omega | (with_reducible first | refine krN ?_ | refine krS ?_ | refine krP ?_ | refine krG ?_); kernel_rfl | refine kr ?_; simp only [go_sem, reduceCtorEq, Int.lt_irrefl]; done | fail) only [go_sem, seval, -List.reduceReplicate, Int.lt_irrefl]
theorem wc27 {r : Roll} (hr : Narrow20 r) {o1 o2 o3 o4 p1 p2 p3 p4 : Option Bool} : WC Try.prog (AA b) (.fn (.func 27) [] []) [.v (encRoll o1 o2 o3 o4 r), .v (encRoll p1 p2 p3 p4 r)] m K = K (.bool true) m :=
  WC_flat (by simp only [mkAnn, K27]) (rfAs (xs := [encRoll o1 o2 o3 o4 r, encRoll p1 p2 p3 p4 r]) (by show ((encRoll o1 o2 o3 o4 r).closed && ((encRoll p1 p2 p3 p4 r).closed && true)) = true; rw [clRoll, clRoll]; rfl)) (sameRolls_to hr) rfl
end
end Go.Proofs
