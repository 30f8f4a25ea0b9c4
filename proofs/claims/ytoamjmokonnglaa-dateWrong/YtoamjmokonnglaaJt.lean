/- What functions of the given program do in the ideal machine (J45, J46), and the plain laws of what they answer; the conditions stand in each theorem. -/
import Derived.Test.YtoamjmokonnglaaJs
set_option linter.all false
set_option linter.unusedSectionVars false
set_option linter.unusedSimpArgs false
set_option linter.unusedVariables false
namespace Go.Proofs
open Go Go.Idl Go.Dt
set_option linter.unusedSimpArgs false
variable {b : Nat}
def FR (d : Dt) (v : Vl) : Prop := ((foundV d).2 ≠ 0 ∧ v = .tup [.nils, I (foundV d).2]) ∨ ((foundV d).2 = 0 ∧ DtOk d ∧ ∃ (ks : List Tb) (o : Bool), ks ≠ [] ∧ Ents d ks ∧ v = .tup [.lst 1 (ks.map (kV (ptsR d))) o, I 0])
theorem FR.cl {d : Dt} {v : Vl} (h : FR d v) : v.closed = true := by
  rcases h with ⟨_, rfl⟩ | ⟨_, _, ks, o, _, _, rfl⟩
  · rfl
  · show ((Vl.lst 1 (ks.map (kV (ptsR d))) o).closed && true) = true
    rw [show (Vl.lst 1 (ks.map (kV (ptsR d))) o).closed = true from closedL_map (fun _ => kV_cl) _]; rfl
set_option maxRecDepth 10000 in
theorem foundR_to {d : Dt} {o1 o2 : Option Bool} : Ans Try.prog (AA b) 74 [encD o1 o2 d] (FR d) := by
  refine Ans_of Try.func74 rfl rfl ?_
  by_cases h1 : checkE d = 0
  case neg =>
    have hf : foundV d = (.nils, checkE d) := by unfold foundV; rw [if_pos h1]
    simp +contextual (maxSteps := 1000000) (disch := first | omega | (with_reducible first | refine krN ?_ | refine krS ?_ | refine krP ?_ | refine krG ?_); kernel_rfl | refine kr ?_; simp only [go_sem, reduceCtorEq, wc14, h1]; done | fail) only [go_sem, seval, -List.reduceReplicate, wc14, h1]
    exact .inl ⟨by rw [hf]; exact h1, by rw [hf]⟩
  have hd := checkE_ok.1 h1
  simp +contextual (maxSteps := 1000000) (disch := first | omega | (with_reducible first | refine krN ?_ | refine krS ?_ | refine krP ?_ | refine krG ?_); kernel_rfl | refine kr ?_; simp only [go_sem, reduceCtorEq, wc14, h1]; done | fail) only [go_sem, seval, -List.reduceReplicate, wc14, h1]
  refine wc_ans (by simp only [mkAnn, K66]) (rfAs (xs := [encD o1 o2 d]) (by simp only [closedL, clD, Bool.and_self])) (begin_to hd) ?_
  rintro v ⟨K, rfl, g⟩
  refine ⟨kV_cl, ?_⟩
  simp +contextual (maxSteps := 1000000) (disch := first | omega | (with_reducible first | refine krN ?_ | refine krS ?_ | refine krP ?_ | refine krG ?_); kernel_rfl | refine kr ?_; simp only [go_sem, reduceCtorEq]; done | fail) only [go_sem, seval, -List.reduceReplicate]
  have hA := all_to (b := b) hd (o1 := o1) (o2 := o2) d.notes.length 0 (by omega) K g.ub (fun _ => g.good)
  rw [List.drop_zero] at hA
  refine wc_ans (by simp only [mkAnn, K65]) (rfAs (xs := [encD o1 o2 d, I ((0 : Nat) : Int), kV (ptsR d) K]) (by simp only [closedL, clD, kV_cl]; rfl)) hA ?_
  have hE := waysR_ents hd g
  unfold waysR at hE
  generalize waysK (ptsR d) (d.notes.map (wkR d)) K = ks at hE ⊢
  rintro v ⟨o, rfl⟩
  refine ⟨kVs_cl, ?_⟩
  have hfe : (foundV d).2 = if ks.length = 0 then 9 else 0 := by
    rw [hE.len]; unfold foundV
    rw [if_neg (fun h => h h1)]
    by_cases h : (tabsL d).length = 0
    · rw [if_pos h, if_pos h]
    · rw [if_neg h, if_neg h]
  by_cases h0 : ks.length = 0
  · have hk : ks = [] := List.length_eq_zero_iff.1 h0
    subst hk
    rw [if_pos h0] at hfe
    simp +contextual (maxSteps := 1000000) (disch := first | omega | (with_reducible first | refine krN ?_ | refine krS ?_ | refine krP ?_ | refine krG ?_); kernel_rfl | refine kr ?_; simp only [go_sem, reduceCtorEq, SL_slot, List.map_nil, len_SL, List.length_nil]; done | fail) only [go_sem, seval, -List.reduceReplicate, SL_slot, List.map_nil, len_SL, List.length_nil]
    exact .inl ⟨by rw [hfe]; decide, by rw [hfe]⟩
  · rw [if_neg h0] at hfe
    obtain ⟨x, hx⟩ : ∃ x, SL 1 (ks.map (kV (ptsR d))) o = .lst 1 (ks.map (kV (ptsR d))) x := by
      rcases SL_cases 1 (ks.map (kV (ptsR d))) o with ⟨h, _⟩ | h
      · exact absurd (by rw [List.map_eq_nil_iff.1 h]; rfl) h0
      · exact h
    rw [hx]
    have h0' : ¬ (ks.length : Int) = 0 := by omega
    simp +contextual (maxSteps := 1000000) (disch := first | omega | (with_reducible first | refine krN ?_ | refine krS ?_ | refine krP ?_ | refine krG ?_); kernel_rfl | refine kr ?_; simp only [go_sem, reduceCtorEq, List.length_map, h0', h0]; done | fail) only [go_sem, seval, -List.reduceReplicate, List.length_map, h0', h0]
    refine OB_intro (reify_lst (closedL_map (fun _ => kV_cl) _)) (.inr ⟨hfe, hd, ks, x, fun e => h0 (by rw [e]; rfl), hE, rfl⟩)
theorem ix_ks {n eb : Nat} {ez : Vl} {ks : List Tb} {o : Bool} {kd : IntKind} {i : Int} {m : Mem} (h0 : 0 ≤ i) (h1 : i < ks.length) : indexAddrV (.slice 1 eb ez) (.v (.lst 1 (ks.map (kV n)) o)) (.int kd i) m = some (.v (.fp (kV n ks[i.toNat]!) 0), m) := ix_lst h0 h1 (by decide)
theorem ix_rowK0 {K : Tb} {n a eb : Nat} {ez : Vl} {kd : IntKind} {m : Mem} (h : 0 < n) : indexAddrV (.slice 1 eb ez) (.v (rowK K n a)) (.int kd 0) m = some (.v (.fp (I (K a 0)) 0), m) := ix_rowK (k := 0) h
theorem ix_rng0 {e eb : Nat} {ez : Vl} {f : Nat → Vl} {n : Nat} {o : Bool} {kd : IntKind} {m : Mem} (h : 0 < n) (he : e ≠ 0) : indexAddrV (.slice e eb ez) (.v (.lst e ((List.range n).map f) o)) (.int kd 0) m = some (.v (.fp (f 0) 0), m) := ix_rng (i := 0) h he
set_option maxRecDepth 10000 in
theorem ends_to {d : Dt} (hd : DtOk d) {ks : List Tb} (hne : ks ≠ []) (hE : Ents d ks) {v : Nat} (hv : v < ptsR d) {o : Bool} : Ans Try.prog (AA b) 75 [.lst 1 (ks.map (kV (ptsR d))) o, I v] (fun w => w = encS (joinT (tabsL d) (embR d v))) := by
  refine Ans_of Try.func75 rfl rfl ?_
  have hl := hE.len
  have h0 : 0 < ks.length := List.length_pos_iff.2 hne
  have hlt : tabsL d ≠ [] := fun e => by rw [e] at hl; exact hne (List.length_eq_zero_iff.1 hl)
  have hT := tabs_TOk hd
  have hp0 : 0 < ptsR d := by omega
  have hlen := tabs_len hd
  have E1 : ∀ i, i < ks.length → (ks[i]!) v 0 = tb (tabsL d)[i]! (embR d v) 0 := fun i hi => by rw [hE.eq i hi v 0 hv hp0, embR_0]
  have E2 : ∀ i, i < ks.length → (ks[i]!) 0 v = tb (tabsL d)[i]! 0 (embR d v) := fun i hi => by rw [hE.eq i hi 0 v hp0 hv, embR_0]
  have hB : ∀ i, i < ks.length → -1073741824 ≤ tb (tabsL d)[i]! (embR d v) 0 ∧ tb (tabsL d)[i]! (embR d v) 0 ≤ 1073741824 := fun i hi => (hT _ (get!_mem (by omega))).2 _ _ (embR_lt hd hv) (by omega)
  have e1 := E1 0 h0
  have e2 := E2 0 h0
  have b1 := hB 0 h0
  have h0' : (0 : Int) < ks.length := by omega
  have hp0' : (0 : Int) < ptsR d := by omega
  have hv' : (v : Int) < ptsR d := by omega
  generalize embR d v = q at *
  generalize tabsL d = l at *
  simp +contextual (maxSteps := 1000000) (disch := first | omega | (with_reducible first | refine krN ?_ | refine krS ?_ | refine krP ?_ | refine krG ?_); kernel_rfl | refine kr ?_; simp only [go_sem, reduceCtorEq, ix_ks, ix_rng, ix_rowK, h0, h0', hv, hp0, Int.zero_sub, e1, e2, List.length_map, List.length_range, ix_rowK0, ix_rng0]; done | fail) only [go_sem, seval, -List.reduceReplicate, ix_ks, ix_rng, ix_rowK, h0, h0', hv, hp0, Int.zero_sub, e1, e2, List.length_map, List.length_range, ix_rowK0, ix_rng0]
  refine wp_loop_to ks.length (fun i st => ∃ ex, st = ({ sl := (0, .lst 1 (ks.map (kV (ptsR d))) o) :: (1, I v) :: (4, .loc (Sp 0 0)) :: (5, .loc (Sp (loT q (l.take i) (-tb l[0]! q 0)) (hiT q (l.take i) (tb l[0]! 0 q)))) :: (6, I i) :: ex, hp := noHeap, nx := 0 } : FS)) ?_ 0 (Nat.zero_le _) ⟨_, rfl⟩
  rintro i st hi ⟨ex, rfl⟩
  by_cases hc : i < ks.length
  · have htk := take_snoc (show i < l.length by omega)
    have e1 := loT_app (v := q) (U := l[i]!) (l.take i) (-tb l[0]! q 0)
    have e2 := hiT_app (v := q) (U := l[i]!) (l.take i) (tb l[0]! 0 q)
    rw [← htk] at e1 e2
    have i1 := E1 i hc
    have i2 := E2 i hc
    have b2 := hB i hc
    simp +contextual (maxSteps := 1000000) (disch := first | omega | (with_reducible first | refine krN ?_ | refine krS ?_ | refine krP ?_ | refine krG ?_); kernel_rfl | refine kr ?_; simp only [go_sem, reduceCtorEq, Int.ofNat_lt, hc, ix_ks, ix_rng, ix_rowK, hv, hp0, Int.zero_sub, i1, i2, List.length_map, List.length_range, ix_rowK0, ix_rng0, ← e1, ← e2]; done | fail) only [go_sem, seval, -List.reduceReplicate, Int.ofNat_lt, hc, ix_ks, ix_rng, ix_rowK, hv, hp0, Int.zero_sub, i1, i2, List.length_map, List.length_range, ix_rowK0, ix_rng0, ← e1, ← e2]
    exact ⟨_, rfl⟩
  · have hie : i = ks.length := by omega
    subst hie
    rw [joinT_eq hlt]
    have htl : l.take ks.length = l := by rw [hl, List.take_length]
    simp +contextual (maxSteps := 1000000) (disch := first | omega | (with_reducible first | refine krN ?_ | refine krS ?_ | refine krP ?_ | refine krG ?_); kernel_rfl | refine kr ?_; simp only [go_sem, reduceCtorEq, Int.lt_irrefl, List.length_map, htl]; done | fail) only [go_sem, seval, -List.reduceReplicate, Int.lt_irrefl, List.length_map, htl]
theorem wc75 {d : Dt} (hd : DtOk d) {ks : List Tb} (hne : ks ≠ []) (hE : Ents d ks) {v : Nat} (hv : v < ptsR d) {o : Bool} {m : Mem} {Q : Vl → Mem → Prop} : WC Try.prog (AA b) (.fn (.func 75) [] []) [.v (.lst 1 (ks.map (kV (ptsR d))) o), .v (.int .i64 (v : Int))] m Q = Q (encS (joinT (tabsL d) (embR d v))) m :=
  WC_flat (by simp only [mkAnn, K75]) (rfAs (xs := [.lst 1 (ks.map (kV (ptsR d))) o, I v]) (by simp only [closedL, Vl.closed, closedL_map (fun _ => kV_cl) ks]; rfl)) (ends_to hd hne hE hv) rfl
end Go.Proofs
namespace Go.Proofs
open Go Go.Idl Go.Dt
set_option linter.unusedSimpArgs false
variable {b : Nat}
set_option maxRecDepth 10000 in
theorem yearsRf_to {d : Dt} {o1 o2 : Option Bool} : Ans Try.prog (AA b) 37 [encD o1 o2 d] (fun v => v = .tup [if (foundV d).2 = 0 then SL 2 ((List.range d.stones.toNat).map fun i => encS (joinT (tabsL d) (1 + i))) (some false) else .nils, I (foundV d).2]) := by
  refine Ans_of Try.func37 rfl rfl ?_
  simp +contextual (maxSteps := 1000000) (disch := first | omega | (with_reducible first | refine krN ?_ | refine krS ?_ | refine krP ?_ | refine krG ?_); kernel_rfl | refine kr ?_; simp only [go_sem, reduceCtorEq]; done | fail) only [go_sem, seval, -List.reduceReplicate]
  refine wc_ans (by simp only [mkAnn, K74]) (rfAs (xs := [encD o1 o2 d]) (by simp only [closedL, clD, Bool.and_self])) foundR_to ?_
  intro v hv
  refine ⟨hv.cl, ?_⟩
  rcases hv with ⟨h1, rfl⟩ | ⟨h1, hd, ks, o, hne, hE, rfl⟩
  · rw [if_neg h1]
    simp +contextual (maxSteps := 1000000) (disch := first | omega | (with_reducible first | refine krN ?_ | refine krS ?_ | refine krP ?_ | refine krG ?_); kernel_rfl | refine kr ?_; simp only [go_sem, reduceCtorEq, h1]; done | fail) only [go_sem, seval, -List.reduceReplicate, h1]
  · rw [if_pos h1, h1]
    have hs6 := hd.stones
    have he3 := hd.eras_l
    obtain ⟨n, hn⟩ : ∃ n, d.stones.toNat = n := ⟨_, rfl⟩
    have hnn : d.stones = (n : Int) := by omega
    rw [hn]
    simp +contextual (maxSteps := 1000000) (disch := first | omega | (with_reducible first | refine krN ?_ | refine krS ?_ | refine krP ?_ | refine krG ?_); kernel_rfl | refine kr ?_; simp only [go_sem, reduceCtorEq]; done | fail) only [go_sem, seval, -List.reduceReplicate]
    refine wp_loop_to n (fun i st => ∃ ex, st = ({ sl := (1, .loc (encD o1 o2 d)) :: (4, .lst 1 (ks.map (kV (ptsR d))) o) :: (6, .own 0 i) :: (7, I i) :: ex, hp := upd noHeap 0 (.arr 2 ((List.range i).map fun i => encS (joinT (tabsL d) (1 + i)))), nx := 1 } : FS)) ?_ 0 (Nat.zero_le _) ⟨_, rfl⟩
    rintro i st hi ⟨ex, rfl⟩
    by_cases hc : i < n
    · have hc0 : (i : Int) < n := by omega
      have hap := fun (lc : List (Nat × Vl)) (x : Vl) (t : Bool) => ap22_own (m := ⟨lc, upd noHeap 0 (.arr 2 ((List.range i).map fun i => encS (joinT (tabsL d) (1 + i)))), 1⟩) (id := 0) (n := i) (x := x) (o := t) (xs := (List.range i).map fun i => encS (joinT (tabsL d) (1 + i))) (show upd noHeap 0 (Ob.arr 2 _) 0 = _ from upd_same _ _ _) (by rw [List.length_map, List.length_range]) (by omega)
      have hw : IntKind.wrap .i64 (1 + (i : Int)) = ((1 + i : Nat) : Int) := by rw [wrap_i64 (by omega) (by omega)]; omega
      have w76 := fun (x : Int) (m : Mem) (Q : Vl → Mem → Prop) => wc76 (b := b) (x := x) (m := m) (Q := Q)
      have hb : embR d (1 + i) = 1 + i := embR_st (by omega)
      have hst1 : True := trivial
      have w75 := fun (m : Mem) (Q : Vl → Mem → Prop) => wc75 (b := b) (m := m) (Q := Q) (o := o) hd hne hE (v := 1 + i) (by unfold ptsR; omega)
      simp +contextual (maxSteps := 1000000) (disch := first | omega | (with_reducible first | refine krN ?_ | refine krS ?_ | refine krP ?_ | refine krG ?_); kernel_rfl | refine kr ?_; simp only [go_sem, reduceCtorEq, hnn, hc0, hc, hap, w76, hw, w75, hb, hst1]; done | fail) only [go_sem, seval, -List.reduceReplicate, hnn, hc0, hc, hap, w76, hw, w75, hb, hst1]
      exact ⟨[], by rw [List.map_append]; rfl⟩
    · have hie : i = n := by omega
      subst hie
      have f1 : reify (upd noHeap 0 (.arr 2 ((List.range i).map fun i => encS (joinT (tabsL d) (1 + i))))) (.own 0 i) = some (.lst 2 ((List.range i).map fun i => encS (joinT (tabsL d) (1 + i))) false, [0]) := reify_flat (.inl (upd_same _ _ _)) (by rw [List.length_range]) fun _ => rfl
      simp +contextual (maxSteps := 1000000) (disch := first | omega | (with_reducible first | refine krN ?_ | refine krS ?_ | refine krP ?_ | refine krG ?_); kernel_rfl | refine kr ?_; simp only [go_sem, reduceCtorEq, hnn, Int.lt_irrefl, f1]; done | fail) only [go_sem, seval, -List.reduceReplicate, hnn, Int.lt_irrefl, f1]
      rfl
set_option maxRecDepth 10000 in
theorem firstsRf_to {d : Dt} {o1 o2 : Option Bool} : Ans Try.prog (AA b) 39 [encD o1 o2 d] (fun v => v = .tup [if (foundV d).2 = 0 then SL 2 ((List.range d.eras.length).map fun i => encS (joinT (tabsL d) (7 + i))) (some false) else .nils, I (foundV d).2]) := by
  refine Ans_of Try.func39 rfl rfl ?_
  simp +contextual (maxSteps := 1000000) (disch := first | omega | (with_reducible first | refine krN ?_ | refine krS ?_ | refine krP ?_ | refine krG ?_); kernel_rfl | refine kr ?_; simp only [go_sem, reduceCtorEq]; done | fail) only [go_sem, seval, -List.reduceReplicate]
  refine wc_ans (by simp only [mkAnn, K74]) (rfAs (xs := [encD o1 o2 d]) (by simp only [closedL, clD, Bool.and_self])) foundR_to ?_
  intro v hv
  refine ⟨hv.cl, ?_⟩
  rcases hv with ⟨h1, rfl⟩ | ⟨h1, hd, ks, o, hne, hE, rfl⟩
  · rw [if_neg h1]
    simp +contextual (maxSteps := 1000000) (disch := first | omega | (with_reducible first | refine krN ?_ | refine krS ?_ | refine krP ?_ | refine krG ?_); kernel_rfl | refine kr ?_; simp only [go_sem, reduceCtorEq, h1]; done | fail) only [go_sem, seval, -List.reduceReplicate, h1]
  · rw [if_pos h1, h1]
    have hs6 := hd.stones
    have he3 := hd.eras_l
    obtain ⟨n, hn⟩ : ∃ n, d.eras.length = n := ⟨_, rfl⟩
    have hnn : (d.eras.length : Int) = (n : Int) := by omega
    rw [hn]
    simp +contextual (maxSteps := 1000000) (disch := first | omega | (with_reducible first | refine krN ?_ | refine krS ?_ | refine krP ?_ | refine krG ?_); kernel_rfl | refine kr ?_; simp only [go_sem, reduceCtorEq]; done | fail) only [go_sem, seval, -List.reduceReplicate]
    refine wp_loop_to n (fun i st => ∃ ex, st = ({ sl := (1, .loc (encD o1 o2 d)) :: (4, .lst 1 (ks.map (kV (ptsR d))) o) :: (6, .own 0 i) :: (7, I i) :: ex, hp := upd noHeap 0 (.arr 2 ((List.range i).map fun i => encS (joinT (tabsL d) (7 + i)))), nx := 1 } : FS)) ?_ 0 (Nat.zero_le _) ⟨_, rfl⟩
    rintro i st hi ⟨ex, rfl⟩
    by_cases hc : i < n
    · have hc0 : (i : Int) < n := by omega
      have hap := fun (lc : List (Nat × Vl)) (x : Vl) (t : Bool) => ap22_own (m := ⟨lc, upd noHeap 0 (.arr 2 ((List.range i).map fun i => encS (joinT (tabsL d) (7 + i)))), 1⟩) (id := 0) (n := i) (x := x) (o := t) (xs := (List.range i).map fun i => encS (joinT (tabsL d) (7 + i))) (show upd noHeap 0 (Ob.arr 2 _) 0 = _ from upd_same _ _ _) (by rw [List.length_map, List.length_range]) (by omega)
      have hst1 : IntKind.wrap .i64 (1 + d.stones) = 1 + d.stones := wrap_i64 (by omega) (by omega)
      have hw : IntKind.wrap .i64 (1 + d.stones + (i : Int)) = ((1 + d.stones.toNat + i : Nat) : Int) := by rw [wrap_i64 (by omega) (by omega)]; omega
      have w76 := fun (x : Int) (m : Mem) (Q : Vl → Mem → Prop) => wc79 (b := b) (d := d) (o1 := o1) (o2 := o2) (x := x) (m := m) (Q := Q)
      have hb : embR d (1 + d.stones.toNat + i) = 7 + i := embR_er
      have w75 := fun (m : Mem) (Q : Vl → Mem → Prop) => wc75 (b := b) (m := m) (Q := Q) (o := o) hd hne hE (v := 1 + d.stones.toNat + i) (by unfold ptsR; omega)
      simp +contextual (maxSteps := 1000000) (disch := first | omega | (with_reducible first | refine krN ?_ | refine krS ?_ | refine krP ?_ | refine krG ?_); kernel_rfl | refine kr ?_; simp only [go_sem, reduceCtorEq, hnn, hc0, hc, hap, w76, hw, w75, hb, hst1]; done | fail) only [go_sem, seval, -List.reduceReplicate, hnn, hc0, hc, hap, w76, hw, w75, hb, hst1]
      exact ⟨[], by rw [List.map_append]; rfl⟩
    · have hie : i = n := by omega
      subst hie
      have f1 : reify (upd noHeap 0 (.arr 2 ((List.range i).map fun i => encS (joinT (tabsL d) (7 + i))))) (.own 0 i) = some (.lst 2 ((List.range i).map fun i => encS (joinT (tabsL d) (7 + i))) false, [0]) := reify_flat (.inl (upd_same _ _ _)) (by rw [List.length_range]) fun _ => rfl
      simp +contextual (maxSteps := 1000000) (disch := first | omega | (with_reducible first | refine krN ?_ | refine krS ?_ | refine krP ?_ | refine krG ?_); kernel_rfl | refine kr ?_; simp only [go_sem, reduceCtorEq, hnn, Int.lt_irrefl, f1]; done | fail) only [go_sem, seval, -List.reduceReplicate, hnn, Int.lt_irrefl, f1]
      rfl
theorem spR_cl (n : Nat) (f : Nat → Int × Int) : (Vl.tup [SL 2 ((List.range n).map fun i => encS (f i)) (some false), I 0]).closed = true := by
  show ((SL 2 ((List.range n).map fun i => encS (f i)) (some false)).closed && true) = true
  rw [closed_SL (closedL_map (fun _ => rfl) _)]; rfl
section
variable {m : Mem} {K : Vl → Mem → Prop}
theorem wc37 {d : Dt} {o1 o2 : Option Bool} : WC Try.prog (AA b) (.fn (.func 37) [] []) [.v (encD o1 o2 d)] m K = K (.tup [if (foundV d).2 = 0 then SL 2 ((List.range d.stones.toNat).map fun i => encS (joinT (tabsL d) (1 + i))) (some false) else .nils, I (foundV d).2]) m :=
  WC_closed (by simp only [mkAnn, K37]) (rfAs (xs := [encD o1 o2 d]) (by simp only [closedL, clD, Bool.and_self])) (by split <;> first | rfl | (rename_i h; rw [h]; exact spR_cl _ _)) yearsRf_to
theorem wc39 {d : Dt} {o1 o2 : Option Bool} : WC Try.prog (AA b) (.fn (.func 39) [] []) [.v (encD o1 o2 d)] m K = K (.tup [if (foundV d).2 = 0 then SL 2 ((List.range d.eras.length).map fun i => encS (joinT (tabsL d) (7 + i))) (some false) else .nils, I (foundV d).2]) m :=
  WC_closed (by simp only [mkAnn, K39]) (rfAs (xs := [encD o1 o2 d]) (by simp only [closedL, clD, Bool.and_self])) (by split <;> first | rfl | (rename_i h; rw [h]; exact spR_cl _ _)) firstsRf_to
end
end Go.Proofs
