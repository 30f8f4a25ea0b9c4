/- What functions of the given program do in the ideal machine (G54), and the plain laws of what they answer; the conditions stand in each theorem. -/
import Derived.Test.YtencmmlmeifffaaGq
import Derived.Test.YtencmmlmeifffaaGg
import Derived.Test.YtencmmlmeifffaaHa
set_option linter.all false
set_option linter.unusedSectionVars false
set_option linter.unusedSimpArgs false
set_option linter.unusedVariables false
namespace Go.Proofs
open Go Go.Idl
set_option linter.unusedSimpArgs false
variable {b : Bool}
theorem WF.dropW {r : Roll} (hv : WF r) (l : List Nat) : WF (dropF r l) :=
  { toVal := hv.toVal.drop l, names := hv.names, diag := hv.diag, symm := hv.symm }
theorem may_iff {r : Roll} (hv : Val r) {l : List Nat} {en : Bool} : (solveF en (dropF r l)).2 = true ↔ ∃ t, Lived (dropF r l) t := solve_iff' (hv.drop l)
theorem may_eq {r : Roll} (hv : Val r) {l : List Nat} : (solveF false (dropF r l)).2 = mayF r l := by
  have h1 := may_iff hv (l := l) (en := false)
  have h2 := may_iff hv (l := l) (en := true)
  unfold mayF
  cases e1 : (solveF false (dropF r l)).2 <;> cases e2 : (solveF true (dropF r l)).2 <;> simp_all
noncomputable def wrongX (o : Option Bool) (r : Roll) : Vl := if checkF r = 0 then (match wrongF r with | some l => .tup [SL 1 (l.map IN) o, I 0] | none => .tup [.nils, I 9]) else .tup [.nils, I (checkF r)]
theorem wc33n {m : Mem} {K : Vl → Mem → Prop} : WC Try.prog (AA b) (.fn (.func 33) [] []) [.v .nils, .v .nils] m K = K (.bool true) m := wc33 (a := []) (c := []) (o1 := none) (o2 := none) (by decide) (by decide)
section
variable {r : Roll} {m : Mem} {K : Vl → Mem → Prop} {o1 o2 o3 o4 : Option Bool}
theorem wc44x {n k a : Nat} (hn : n ≤ 8) (hk : k ≤ 8) (ha : a ≤ n) (h : ∀ (ps : List (List Nat × Option Bool)) (o : Option Bool), ps.map Prod.fst = combs (List.range' a (n - a)) k → K (SL 1 (ps.map encL) o) m) : WC Try.prog (AA b) (.fn (.func 44) [] []) [.v (I a), .v (I n), .v (I k)] m K := by
  refine wc_ans (by simp only [mkAnn, K44]) (rfAs (xs := [I a, I n, I k]) rfl) (refLists_to (b := b) hn k a hk ha) ?_
  rintro v ⟨ps, o, h2, rfl⟩
  exact ⟨closed_SL (closedL_map encL_cl ps), h ps o h2⟩
theorem wrongX_to (hn : Narrow20 r) : Ans Try.prog (AA b) 31 [encRoll o1 o2 o3 o4 r] (fun v => v = wrongX none r) := by
  by_cases h : checkF r = 0
  · have : wrongX none r = wrongV r := by
      unfold wrongX wrongV
      rw [if_pos h]
      cases wrongF r with
      | none => rfl
      | some l => simp only; rw [listV_SL]
    rw [this]
    exact wrong_to (checkF_wf h)
  · refine Ans_of Try.func31 rfl rfl ?_
    obtain ⟨h1, h2, h3, h4⟩ := n20 hn
    unfold wrongX
    rw [if_neg h]
    simp +contextual (maxSteps := 1000000) (disch := first | omega | (with_reducible first | refine krN ?_ | refine krS ?_ | refine krP ?_ | refine krG ?_); kernel_rfl | refine kr ?_; simp only [go_sem, reduceCtorEq, wc24x, h, newBox]; done | fail) only [go_sem, seval, -List.reduceReplicate, wc24x, h, newBox]
theorem refWrong_to (hn : Narrow20 r) : Ans Try.prog (AA b) 32 [encRoll o1 o2 o3 o4 r] (fun v => ∃ o, v = wrongX o r) := by
  refine Ans_of Try.func32 rfl rfl ?_
  obtain ⟨h1, h2, h3, h4⟩ := n20 hn
  by_cases h : checkF r = 0
  case neg =>
    have e : ∀ o, wrongX o r = .tup [.nils, I (checkF r)] := fun o => if_neg h
    simp only [e]
    simp +contextual (maxSteps := 1000000) (disch := first | omega | (with_reducible first | refine krN ?_ | refine krS ?_ | refine krP ?_ | refine krG ?_); kernel_rfl | refine kr ?_; simp only [go_sem, reduceCtorEq, wc25x, h]; done | fail) only [go_sem, seval, -List.reduceReplicate, wc25x, h]
    exact ⟨none, trivial⟩
  have hw := checkF_wf h
  have hc8 := hw.cs_l
  have e : ∀ o, wrongX o r = match wrongF r with | some l => .tup [SL 1 (l.map IN) o, I 0] | none => .tup [.nils, I 9] := fun o => if_pos h
  simp only [e]
  simp +contextual (maxSteps := 1000000) (disch := first | omega | (with_reducible first | refine krN ?_ | refine krS ?_ | refine krP ?_ | refine krG ?_); kernel_rfl | refine kr ?_; simp only [go_sem, reduceCtorEq, wc25x, h]; done | fail) only [go_sem, seval, -List.reduceReplicate, wc25x, h]
  refine wp_loop_to (r.cs.length + 1) (fun i st => ∃ (ex : List (Nat × Vl)), (∀ k, k < i → ∀ x ∈ combs (List.range r.cs.length) k, mayF r x = false) ∧ st = ({ sl := (1, .loc (encRoll o1 o2 o3 o4 r)) :: (5, I i) :: ex, hp := noHeap, nx := 0 } : FS)) ?_ 0 (Nat.zero_le _) ⟨_, fun k hk => absurd hk (by omega), rfl⟩
  rintro i st hi ⟨ex, hno, rfl⟩
  by_cases hc : i < r.cs.length + 1
  case neg =>
    obtain rfl : i = r.cs.length + 1 := by omega
    have hc' : ¬ (((r.cs.length + 1 : Nat) : Int) ≤ (r.cs.length : Int)) := by omega
    have hwf : wrongF r = none := find_none (n := r.cs.length) (p := mayF r) fun k hk => hno k (by omega)
    simp +contextual (maxSteps := 1000000) (disch := first | omega | (with_reducible first | refine krN ?_ | refine krS ?_ | refine krP ?_ | refine krG ?_); kernel_rfl | refine kr ?_; simp only [go_sem, reduceCtorEq, hc', hwf]; done | fail) only [go_sem, seval, -List.reduceReplicate, hc', hwf]
    exact ⟨none, trivial⟩
  have hc' : (i : Int) ≤ (r.cs.length : Int) := by omega
  simp +contextual (maxSteps := 1000000) (disch := first | omega | (with_reducible first | refine krN ?_ | refine krS ?_ | refine krP ?_ | refine krG ?_); kernel_rfl | refine kr ?_; simp only [go_sem, reduceCtorEq, hc']; done | fail) only [go_sem, seval, -List.reduceReplicate, hc']
  refine wc44x (a := 0) (by omega) (by omega) (Nat.zero_le _) fun ps op hps => ?_
  have hpl : ps.length ≤ 256 := by
    have e := congrArg List.length hps
    rw [List.length_map] at e
    rw [e]
    refine Nat.le_trans (combs_len _ _) ?_
    rw [List.length_range']
    exact Nat.le_trans (Nat.pow_le_pow_right (by decide) (show r.cs.length - 0 ≤ 8 by omega)) (by decide)
  have hps : ps.map Prod.fst = combs (List.range r.cs.length) i := by rw [hps, List.range_eq_range']; rfl
  simp +contextual (maxSteps := 1000000) (disch := first | omega | (with_reducible first | refine krN ?_ | refine krS ?_ | refine krP ?_ | refine krG ?_); kernel_rfl | refine kr ?_; simp only [go_sem, reduceCtorEq]; done | fail) only [go_sem, seval, -List.reduceReplicate]
  refine wp_loop_to ps.length (fun j st => ∃ (ex : List (Nat × Vl)), (∀ k, k < j → mayF r (ps[k]!).1 = false) ∧ st = ({ sl := (1, .loc (encRoll o1 o2 o3 o4 r)) :: (5, I i) :: (6, SL 1 (ps.map encL) op) :: (7, I j) :: ex, hp := noHeap, nx := 0 } : FS)) ?_ 0 (Nat.zero_le _) ⟨_, fun k hk => absurd hk (by omega), rfl⟩
  clear ex
  rintro j st hj ⟨ex, hnj, rfl⟩
  by_cases hjc : j < ps.length
  case neg =>
    obtain rfl : j = ps.length := by omega
    simp +contextual (maxSteps := 1000000) (disch := first | omega | (with_reducible first | refine krN ?_ | refine krS ?_ | refine krP ?_ | refine krG ?_); kernel_rfl | refine kr ?_; simp only [go_sem, reduceCtorEq, Int.lt_irrefl]; done | fail) only [go_sem, seval, -List.reduceReplicate, Int.lt_irrefl]
    refine ⟨hc, _, fun k hk x hx => ?_, rfl⟩
    rcases Nat.lt_succ_iff_lt_or_eq.1 hk with hk | rfl
    · exact hno k hk x hx
    · rw [← hps] at hx
      obtain ⟨p, hp, rfl⟩ := List.mem_map.1 hx
      obtain ⟨j, hj, rfl⟩ := List.getElem_of_mem hp
      have := hnj j hj
      rw [get!_eq hj] at this
      exact this
  have hmem : (ps[j]!).1 ∈ combs (List.range r.cs.length) i := hps ▸ List.mem_map_of_mem (get!_mem hjc)
  have hpj := combs_mem hmem
  have hpj2 : (ps[j]!).1.length ≤ 1000 := by omega
  have hc8' : r.cs.length ≤ 1000 := by omega
  have hwd := hw.dropW (ps[j]!).1
  have hme := may_eq hw.toVal (l := (ps[j]!).1)
  have hks := (known_solve hwd).1
  cases hm : mayF r (ps[j]!).1 with
  | true =>
    have hkv : knownV (dropF r (ps[j]!).1) = .tup [.lst 2 ((knownF (dropF r (ps[j]!).1)).1.map encS) false, .bool true] := if_pos (by rw [hks, hme, hm])
    have hwf : wrongF r = some (ps[j]!).1 := by
      have hpr : combs (List.range r.cs.length) i = (ps.take j).map Prod.fst ++ (ps[j]!).1 :: (ps.drop (j + 1)).map Prod.fst := by
        rw [← hps, ← List.map_cons, ← List.map_append]
        congr 1
        rw [get!_eq hjc, ← List.drop_eq_getElem_cons hjc, List.take_append_drop]
      exact find_wrong hc hno hpr (fun x hx => by
        obtain ⟨p, hp, rfl⟩ := List.mem_map.1 hx
        obtain ⟨k, hk, rfl⟩ := List.getElem_of_mem hp
        rw [List.length_take] at hk
        have := hnj k (by omega)
        rw [get!_eq (by omega)] at this
        rw [List.getElem_take]; exact this) hm
    simp +contextual (maxSteps := 1000000) (disch := first | omega | (with_reducible first | refine krN ?_ | refine krS ?_ | refine krP ?_ | refine krG ?_); kernel_rfl | refine kr ?_; simp only [go_sem, reduceCtorEq, Int.ofNat_lt, hjc, ix_map, wc45, hc8', hpj2, wc57, hwd, hkv, rfS, hwf]; done | fail) only [go_sem, seval, -List.reduceReplicate, Int.ofNat_lt, hjc, ix_map, wc45, hc8', hpj2, wc57, hwd, hkv, rfS, hwf]
    exact OB_intro (rfC (closed_SL (closedL_map (fun _ => rfl) _))) ⟨_, rfl⟩
  | false =>
    have hkv : knownV (dropF r (ps[j]!).1) = .tup [.nils, .bool false] := if_neg (by rw [hks, hme, hm]; decide)
    simp +contextual (maxSteps := 1000000) (disch := first | omega | (with_reducible first | refine krN ?_ | refine krS ?_ | refine krP ?_ | refine krG ?_); kernel_rfl | refine kr ?_; simp only [go_sem, reduceCtorEq, Int.ofNat_lt, hjc, ix_map, wc45, hc8', hpj2, wc57, hwd, hkv]; done | fail) only [go_sem, seval, -List.reduceReplicate, Int.ofNat_lt, hjc, ix_map, wc45, hc8', hpj2, wc57, hwd, hkv]
    refine ⟨_, fun k hk => ?_, rfl⟩
    rcases Nat.lt_succ_iff_lt_or_eq.1 hk with hk | rfl
    · exact hnj k hk
    · exact hm
theorem wrongX_cl {o : Option Bool} : (wrongX o r).closed = true := by
  unfold wrongX
  split
  · split
    · show ((SL 1 _ o).closed && (true && true)) = true
      rw [closed_SL (closedL_map (fun _ => rfl) _)]; rfl
    · rfl
  · rfl
theorem wc31x (hn : Narrow20 r) : WC Try.prog (AA b) (.fn (.func 31) [] []) [.v (encRoll o1 o2 o3 o4 r)] m K = K (wrongX none r) m := wcG (args := [encRoll o1 o2 o3 o4 r]) K31.2.2.1 clR1 wrongX_cl (wrongX_to hn)
theorem wc32 (hn : Narrow20 r) (h : ∀ o, K (wrongX o r) m) : WC Try.prog (AA b) (.fn (.func 32) [] []) [.v (encRoll o1 o2 o3 o4 r)] m K := by
  refine wc_ans (by simp only [mkAnn, K32]) (rfAs (xs := [encRoll o1 o2 o3 o4 r]) clR1) (refWrong_to (b := b) (o1 := o1) (o2 := o2) (o3 := o3) (o4 := o4) hn) ?_
  rintro v ⟨o, rfl⟩
  exact ⟨wrongX_cl, h o⟩
theorem wrongF_len {l : List Nat} (h : wrongF r = some l) : l.length ≤ r.cs.length := by
  have h1 := List.mem_of_find?_eq_some h
  unfold allLists at h1
  obtain ⟨_, hm, hl⟩ := List.mem_flatten.1 h1
  obtain ⟨k, hk, rfl⟩ := List.mem_map.1 hm
  have := combs_mem hl
  rw [List.mem_range] at hk
  omega
end
set_option maxRecDepth 10000 in
set_option maxHeartbeats 8000000 in
theorem wrongs5_to {x : Roll} {ns : List Int} (hx : x.fs.length ≤ 9223372036854775807) (hn : ns.length ≤ 9223372036854775807) {o1 o2 o3 o4 o : Option Bool} : Ans Try.prog (AA true) 5 [encRoll o1 o2 o3 o4 x, SL 1 (ns.map I) o] (fun v => v = .bool true) := by
  refine Ans_of Try.func5 rfl rfl ?_
  simp +contextual (maxSteps := 1000000) (disch := first | omega | (with_reducible first | refine krN ?_ | refine krS ?_ | refine krP ?_ | refine krG ?_); kernel_rfl | refine kr ?_; simp only [go_sem, reduceCtorEq, encC]; done | fail) only [go_sem, seval, -List.reduceReplicate, encC]
  refine wide_wc hx fun t ht => ?_
  cases t with
  | true => simp +contextual (maxSteps := 1000000) (disch := first | omega | (with_reducible first | refine krN ?_ | refine krS ?_ | refine krP ?_ | refine krG ?_); kernel_rfl | refine kr ?_; simp only [go_sem, reduceCtorEq, wc16]; done | fail) only [go_sem, seval, -List.reduceReplicate, wc16]
  | false =>
  have hx20 := ht rfl
  clear ht
  simp +contextual (maxSteps := 1000000) (disch := first | omega | (with_reducible first | refine krN ?_ | refine krS ?_ | refine krP ?_ | refine krG ?_); kernel_rfl | refine kr ?_; simp only [go_sem, reduceCtorEq]; done | fail) only [go_sem, seval, -List.reduceReplicate]
  refine busyX_wc hx20 fun t => ?_
  cases t with
  | true => simp +contextual (maxSteps := 1000000) (disch := first | omega | (with_reducible first | refine krN ?_ | refine krS ?_ | refine krP ?_ | refine krG ?_); kernel_rfl | refine kr ?_; simp only [go_sem, reduceCtorEq, wc16]; done | fail) only [go_sem, seval, -List.reduceReplicate, wc16]
  | false =>
  simp +contextual (maxSteps := 1000000) (disch := first | omega | (with_reducible first | refine krN ?_ | refine krS ?_ | refine krP ?_ | refine krG ?_); kernel_rfl | refine kr ?_; simp only [go_sem, reduceCtorEq]; done | fail) only [go_sem, seval, -List.reduceReplicate]
  refine wc_heap (by simp only [mkAnn, K18]) rfl (newUrn_to (b := true) hn) ?_
  rintro v hp' nx' ⟨rfl, rfl, p, q, rfl⟩
  simp +contextual (maxSteps := 1000000) (disch := first | omega | (with_reducible first | refine krN ?_ | refine krS ?_ | refine krP ?_ | refine krG ?_); kernel_rfl | refine kr ?_; simp only [go_sem, reduceCtorEq]; done | fail) only [go_sem, seval, -List.reduceReplicate]
  refine wc_heap (by simp only [mkAnn, K30]) rfl (spoilt_to (b := true) (s := (p, q)) (recs := 5) (by decide) (by decide)) ?_
  rintro v hk nx ⟨life, plo, phi, T, F, os, ms, cs, hw, _, hcl, hT1, _, rfl, hnx0, s, hk0⟩
  obtain ⟨R, hRd⟩ : ∃ R, R = rollD life plo phi T F os ms cs := ⟨_, rfl⟩
  have hcl : (R.cs.length : Int) ≤ 5 := by rw [hRd]; exact hcl
  rw [← hRd] at hw ⊢
  simp +contextual (maxSteps := 1000000) (disch := first | omega | (with_reducible first | refine krN ?_ | refine krS ?_ | refine krP ?_ | refine krG ?_); kernel_rfl | refine kr ?_; simp only [go_sem, reduceCtorEq]; done | fail) only [go_sem, seval, -List.reduceReplicate]
  generalize hL : (List.cons (Vl.agg _) (List.cons (Vl.agg _) List.nil)) = L
  have hLl : L.length = 2 := by rw [← hL]; rfl
  have hR20 := Narrow20.wf hw
  have hLe : ∀ i, i < 2 → ∃ (p1 p2 p3 p4 : Option Bool) (r : Roll), L.getD i .undef = encRoll p1 p2 p3 p4 r ∧ Narrow20 r := fun i hi => by
    rw [← hL]
    obtain rfl | rfl : i = 0 ∨ i = 1 := by omega
    · exact ⟨o1, o2, o3, o4, x, rfl, hx20⟩
    · exact ⟨some false, some false, some false, some false, R, rfl, hR20⟩
  clear hL hR20 hcl hw hRd hT1
  refine wp_loop_to 2 (fun i st => ∃ (hp : Nat → Ob) (nx : Nat) (s : Int × Int) (ex : List (Nat × Vl)), hp 0 = urnO s ∧ 0 < nx ∧ st = ({ sl := (5, .lst 7 L true) :: (6, I i) :: ex, hp := hp, nx := nx } : FS)) ?_ 0 (Nat.zero_le _) ⟨hk, nx, s, [], hk0, hnx0, rfl⟩
  clear hk0 hnx0 hk nx s
  rintro i st hi ⟨hp, nx, s, ex, hp0, hnx, rfl⟩
  by_cases hc : i < 2
  case neg =>
    obtain rfl : i = 2 := by omega
    simp +contextual (maxSteps := 1000000) (disch := first | omega | (with_reducible first | refine krN ?_ | refine krS ?_ | refine krP ?_ | refine krG ?_); kernel_rfl | refine kr ?_; simp only [go_sem, reduceCtorEq, hLl, wc16]; done | fail) only [go_sem, seval, -List.reduceReplicate, hLl, wc16]
  obtain ⟨p1, p2, p3, p4, r, hr, hr20⟩ := hLe i hc
  have hix : ∀ m, indexAddrV (.slice 7 120 (.agg [.nils, I 0, I 0, I 0, .nils, .nils, .nils])) (.v (.lst 7 L true)) (.int .i64 i) m = some (.v (.fp (encRoll p1 p2 p3 p4 r) 0), m) := fun m => by
    have := indexAddr_SL (e := 7) (xs := L) (o := some true) (eb := 120) (ez := .agg [.nils, I 0, I 0, I 0, .nils, .nils, .nils]) (k := .i64) (i := i) (m := m) (by rw [hLl]; omega) (by decide)
    rw [show ((i : Int)).toNat = i from Int.toNat_natCast i, hr] at this
    exact this
  have hci : (i : Int) < 2 := by omega
  simp +contextual (maxSteps := 1000000) (disch := first | omega | (with_reducible first | refine krN ?_ | refine krS ?_ | refine krP ?_ | refine krG ?_); kernel_rfl | refine kr ?_; simp only [go_sem, reduceCtorEq, hLl, hix, hci]; done | fail) only [go_sem, seval, -List.reduceReplicate, hLl, hix, hci]
  refine busyX_wc hr20 fun t => ?_
  cases t with
  | true =>
    simp +contextual (maxSteps := 1000000) (disch := first | omega | (with_reducible first | refine krN ?_ | refine krS ?_ | refine krP ?_ | refine krG ?_); kernel_rfl | refine kr ?_; simp only [go_sem, reduceCtorEq]; done | fail) only [go_sem, seval, -List.reduceReplicate]
    exact ⟨hc, hp, nx, s, _, hp0, hnx, rfl⟩
  | false =>
  simp +contextual (maxSteps := 1000000) (disch := first | omega | (with_reducible first | refine krN ?_ | refine krS ?_ | refine krP ?_ | refine krG ?_); kernel_rfl | refine kr ?_; simp only [go_sem, reduceCtorEq, hLl, hix]; done | fail) only [go_sem, seval, -List.reduceReplicate, hLl, hix]
  obtain ⟨n1, n2, n3, n4, n5⟩ := id hr20
  refine wc_heap (by simp only [mkAnn, K19]) rfl (copy_to (b := true) (s := s) (by omega) (by omega) (by omega) (by omega) (fun w h => by
    obtain ⟨j, hj, rfl⟩ := List.getElem_of_mem h
    have := n5 j hj
    rw [get!_eq hj] at this; omega) hnx hp0) ?_
  rintro v hp' nx' ⟨rfl, rfl, rfl⟩
  have f1 := rfC1 (h := hp) (n := nx) (s := s) (os := r.os) (ms := r.ms) (cs := r.cs) (fs := r.fs) hnx rfl
  have f2 := rfC2 (h := hp) (n := nx) (s := s) (os := r.os) (ms := r.ms) (cs := r.cs) (fs := r.fs) rfl
  have f3 := rfC3 (h := hp) (n := nx) (s := s) (os := r.os) (ms := r.ms) (cs := r.cs) (fs := r.fs) rfl
  have f4 := rfC4 (h := hp) (n := nx) (s := s) (os := r.os) (ms := r.ms) (cs := r.cs) (fs := r.fs) rfl
  simp +contextual (maxSteps := 1000000) (disch := first | omega | (with_reducible first | refine krN ?_ | refine krS ?_ | refine krP ?_ | refine krG ?_); kernel_rfl | refine kr ?_; simp only [go_sem, reduceCtorEq, f1, f2, f3, f4]; done | fail) only [go_sem, seval, -List.reduceReplicate, f1, f2, f3, f4]
  clear f1 f2 f3 f4
  generalize hk2e : killHp _ (CPr _ _ _) = hk2
  have hk20 : hk2 0 = urnO s := by
    rw [← hk2e]
    refine killC_low hnx fun k hk => ?_
    simp only [List.mem_cons, List.mem_append, List.mem_flatten, List.mem_map, List.mem_range, List.not_mem_nil, or_false] at hk
    rcases hk with rfl | rfl | ⟨l, ⟨j, hj, rfl⟩, hm⟩ | rfl | rfl
    · omega
    · omega
    · rw [List.mem_singleton] at hm; omega
    · omega
    · omega
  clear hk2e hp0
  have e2 : Vl.agg [.lst 3 (r.os.map encO) false, I r.life, I r.plo, I r.phi, .lst 1 (r.fs.map encRow) false, .lst 5 (r.ms.map encM) false, .lst 7 (r.cs.map encC) false] = encRoll (some false) (some false) (some false) (some false) r := rfl
  rw [e2]
  have hfin : ∀ (sl ex : List (Nat × Vl)), sl = (5, .lst 7 L true) :: (6, I ((i + 1 : Nat) : Int)) :: ex → ∃ (hp' : Nat → Ob) (nx' : Nat) (s : Int × Int) (ex : List (Nat × Vl)), hp' 0 = urnO s ∧ 0 < nx' ∧ ({ sl := sl, hp := hk2, nx := nx + 4 + r.fs.length } : FS) = { sl := (5, .lst 7 L true) :: (6, I ((i + 1 : Nat) : Int)) :: ex, hp := hp', nx := nx' } := fun sl ex h => by
    subst h
    exact ⟨hk2, _, s, ex, hk20, by omega, rfl⟩
  by_cases h : checkF r = 0
  case neg =>
    have v1 : ∀ o, wrongX o r = .tup [.nils, I (checkF r)] := fun o => if_neg h
    simp +contextual (maxSteps := 1000000) (disch := first | omega | (with_reducible first | refine krN ?_ | refine krS ?_ | refine krP ?_ | refine krG ?_); kernel_rfl | refine kr ?_; simp only [go_sem, reduceCtorEq, hLl, hix, wc31x, hr20, v1]; done | fail) only [go_sem, seval, -List.reduceReplicate, hLl, hix, wc31x, hr20, v1]
    refine wc32 hr20 fun o => ?_
    simp +contextual (maxSteps := 1000000) (disch := first | omega | (with_reducible first | refine krN ?_ | refine krS ?_ | refine krP ?_ | refine krG ?_); kernel_rfl | refine kr ?_; simp only [go_sem, reduceCtorEq, hLl, hix, v1, wc33n, wc27, hr20]; done | fail) only [go_sem, seval, -List.reduceReplicate, hLl, hix, v1, wc33n, wc27, hr20]
    exact ⟨hc, hfin _ _ rfl⟩
  cases hwr : wrongF r with
  | none =>
    have v1 : ∀ o, wrongX o r = .tup [.nils, I 9] := fun o => by unfold wrongX; rw [if_pos h, hwr]
    simp +contextual (maxSteps := 1000000) (disch := first | omega | (with_reducible first | refine krN ?_ | refine krS ?_ | refine krP ?_ | refine krG ?_); kernel_rfl | refine kr ?_; simp only [go_sem, reduceCtorEq, hLl, hix, wc31x, hr20, v1]; done | fail) only [go_sem, seval, -List.reduceReplicate, hLl, hix, wc31x, hr20, v1]
    refine wc32 hr20 fun o => ?_
    simp +contextual (maxSteps := 1000000) (disch := first | omega | (with_reducible first | refine krN ?_ | refine krS ?_ | refine krP ?_ | refine krG ?_); kernel_rfl | refine kr ?_; simp only [go_sem, reduceCtorEq, hLl, hix, v1, wc33n, wc27, hr20]; done | fail) only [go_sem, seval, -List.reduceReplicate, hLl, hix, v1, wc33n, wc27, hr20]
    exact ⟨hc, hfin _ _ rfl⟩
  | some l =>
    have v1 : ∀ o, wrongX o r = .tup [SL 1 (l.map IN) o, I 0] := fun o => by unfold wrongX; rw [if_pos h, hwr]
    have hll : l.length ≤ 1000 := by have := wrongF_len hwr; omega
    have hdl : decide (l = l) = true := decide_eq_true rfl
    simp +contextual (maxSteps := 1000000) (disch := first | omega | (with_reducible first | refine krN ?_ | refine krS ?_ | refine krP ?_ | refine krG ?_); kernel_rfl | refine kr ?_; simp only [go_sem, reduceCtorEq, hLl, hix, wc31x, hr20, v1]; done | fail) only [go_sem, seval, -List.reduceReplicate, hLl, hix, wc31x, hr20, v1]
    refine wc32 hr20 fun o => ?_
    simp +contextual (maxSteps := 1000000) (disch := first | omega | (with_reducible first | refine krN ?_ | refine krS ?_ | refine krP ?_ | refine krG ?_); kernel_rfl | refine kr ?_; simp only [go_sem, reduceCtorEq, hLl, hix, v1, wc33, hll, hdl, wc27, hr20]; done | fail) only [go_sem, seval, -List.reduceReplicate, hLl, hix, v1, wc33, hll, hdl, wc27, hr20]
    exact ⟨hc, hfin _ _ rfl⟩
end Go.Proofs
