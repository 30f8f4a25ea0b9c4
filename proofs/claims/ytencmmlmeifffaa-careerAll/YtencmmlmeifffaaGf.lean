/- What functions of the given program do in the ideal machine (G12, G13), and the plain laws of what they answer; the conditions stand in each theorem. -/
import Derived.Test.YtencmmlmeifffaaHa
import Derived.Test.YtencmmlmeifffaaGc
import Derived.Test.YtencmmlmeifffaaGd
set_option linter.all false
set_option linter.unusedSectionVars false
set_option linter.unusedSimpArgs false
set_option linter.unusedVariables false
namespace Go.Proofs
open Go Go.Idl
set_option linter.unusedSimpArgs false
variable {b : Bool}
def rollD (life plo phi : Int) (T : Nat) (F : Nat → Nat → Bool) (os : List Office) (ms : List Man) (cs : List Rec) : Roll := ⟨os, life, plo, phi, rowsL T F, ms, cs⟩
def truthD (m q : Nat) (bs ds ys : List Int) : Nat → Int := fun i => if i < m then bs[i]! else if 6 ≤ i ∧ i < 6 + m then ds[i - 6]! else if 12 ≤ i ∧ i < 12 + q then ys[i - 12]! else 0
section
variable {m q : Nat} {bs ds ys : List Int} {i : Nat}
theorem truthD_b (h : i < m) : truthD m q bs ds ys i = bs[i]! := if_pos h
theorem truthD_d (hm : m ≤ 6) (h : i < m) : truthD m q bs ds ys (6 + i) = ds[i]! := by
  unfold truthD
  rw [if_neg (by omega), if_pos (by omega), show 6 + i - 6 = i by omega]
theorem truthD_y (hm : m ≤ 6) (h : i < q) : truthD m q bs ds ys (12 + i) = ys[i]! := by
  unfold truthD
  rw [if_neg (by omega), if_neg (by omega), if_pos (by omega), show 12 + i - 12 = i by omega]
end
theorem map_get! {α β : Type} [Inhabited α] [Inhabited β] {f : α → β} {l : List α} {i : Nat} (h : i < l.length) : (l.map f)[i]! = f l[i]! := by
  rw [get!_eq (by rw [List.length_map]; exact h), get!_eq h, List.getElem_map]
theorem range_get! {n i : Nat} (h : i < n) : (List.range n)[i]! = i := by
  rw [get!_eq (by rw [List.length_range]; exact h), List.getElem_range]
theorem rowsL_get {T : Nat} {F : Nat → Nat → Bool} {i : Nat} (h : i < T) : (rowsL T F)[i]! = (List.range T).map (F i) := by
  unfold rowsL
  rw [map_get! (by rw [List.length_range]; exact h), range_get! h]
theorem rowsL_get2 {T : Nat} {F : Nat → Nat → Bool} {i k : Nat} (h : i < T) (hk : k < T) : (rowsL T F)[i]![k]! = F i k := by
  rw [rowsL_get h, map_get! (by rw [List.length_range]; exact hk), range_get! hk]
theorem getD_get! {α : Type} [Inhabited α] {l : List α} {i : Nat} {d : α} (h : i < l.length) : l.getD i d = l[i]! := by
  rw [List.getD_eq_getElem?_getD, List.getElem?_eq_getElem h, get!_eq h]; rfl
theorem farAt_get {fs : List (List Bool)} (hs : ∀ w ∈ fs, w.length = fs.length) {i k : Int} (h0 : 0 ≤ i) (h1 : i < fs.length) (h2 : 0 ≤ k) (h3 : k < fs.length) : farAt fs i k = (fs[i.toNat]!)[k.toNat]! := by
  unfold farAt
  have hl : i.toNat < fs.length := by omega
  rw [getD_get! hl, getD_get! (by rw [hs _ (get!_mem hl)]; omega)]
theorem WF.far_symm {r : Roll} (h : WF r) {i k : Int} (h0 : 0 ≤ i) (h1 : i < r.fs.length) (h2 : 0 ≤ k) (h3 : k < r.fs.length) : farAt r.fs i k = farAt r.fs k i := by
  rw [farAt_get h.fs_ok h0 h1 h2 h3, farAt_get h.fs_ok h2 h3 h0 h1]
  rcases Nat.lt_trichotomy i.toNat k.toNat with e | e | e
  · exact (h.symm _ _ e (by omega)).symm
  · rw [e]
  · exact h.symm _ _ e (by omega)
section
variable {men recs life plo phi : Int} {T : Nat} {F : Nat → Nat → Bool} {os : List Office} {ms : List Man} {cs : List Rec} {bs ds ys : List Int}
theorem Rolled.wf (h : Rolled men recs life plo phi T F os ms cs bs ds ys) (h1 : men ≤ 6) (h2 : recs ≤ 8) : WF (rollD life plo phi T F os ms cs) where
  os_l := by have := h.os_b; show os.length ≤ 5; omega
  os_ok o ho := by have := h.os_ok o ho; unfold OkO at this; unfold OffOk; omega
  life := by have := h.life_b; show 0 ≤ life ∧ life ≤ 100; omega
  par := by have := h.plo_b; have := h.phi_b; show 1 ≤ plo ∧ plo ≤ phi ∧ phi ≤ 100; omega
  fs_l := by have := h.T_b; show 1 ≤ (rowsL T F).length ∧ (rowsL T F).length ≤ 4; rw [rows_len]; omega
  fs_ok w hw := by
    show w.length = (rowsL T F).length
    rw [rows_len]
    obtain ⟨j, _, rfl⟩ := List.mem_map.1 hw
    simp
  ms_l := by have := h.ms_b; show 1 ≤ ms.length ∧ ms.length ≤ 6; omega
  ms_ok m hm := by
    have hm : m ∈ ms := hm
    obtain ⟨j, hj, rfl⟩ := List.getElem_of_mem hm
    have := h.man j hj
    have hl := h.life_b
    rw [get!_eq hj] at this
    unfold ManOk at this
    unfold YearsOk
    omega
  cs_l := by have := h.cs_b; show cs.length ≤ 8; omega
  cs_ok c hc := by
    have hc : c ∈ cs := hc
    obtain ⟨j, hj, rfl⟩ := List.getElem_of_mem hc
    obtain ⟨a1, a2, a3, a4⟩ := h.recs_ok.1 j hj
    rw [get!_eq hj] at a1 a2 a3 a4
    have hbl := h.bs_l
    have hm := h.man cs[j].man.toNat (by omega)
    have hl := h.life_b
    unfold ManOk at hm
    refine ⟨a1, by show _ < (ms.length : Int); omega, fun e => ?_, fun e => ?_⟩
    · obtain ⟨b1, b2, b3, b4, b5, b6, b7, _⟩ := a3 e
      exact ⟨b1, by show _ < (ms.length : Int); omega, b3, b4, b5, b6, b7⟩
    · obtain ⟨b1, b2, b3, b4, b5, b6, b7, b8, b9, b10, b11, _⟩ := a4 e
      exact ⟨b1, b2, b3, by show _ < ((rowsL T F).length : Int); rw [rows_len]; exact b4, b5, by unfold YearsOk; omega⟩
  names m hm := by
    have hm : m ∈ ms := hm
    obtain ⟨j, hj, rfl⟩ := List.getElem_of_mem hm
    have := h.man j hj
    rw [get!_eq hj] at this
    unfold ManOk at this
    omega
  diag i hi := by
    have hi : i < (rowsL T F).length := hi
    rw [rows_len] at hi
    show ((rowsL T F)[i]!)[i]! = false
    rw [rowsL_get2 hi hi]; exact h.irr i
  symm i k hk hi := by
    have hi : i < (rowsL T F).length := hi
    rw [rows_len] at hi
    show ((rowsL T F)[i]!)[k]! = ((rowsL T F)[k]!)[i]!
    rw [rowsL_get2 hi (by omega), rowsL_get2 (by omega) hi]; exact h.sym i k
theorem fits_fitP {r : Roll} (hv : WF r) {c d : Rec} {y z : Int} (hc : RecVal r c) (hd : RecVal r d) (kc : c.kin = false) (kd : d.kin = false) (h : Fits r.os r.fs c y d z) : FitP r.os r.fs d z c y := by
  obtain ⟨h1, h2, h3, h4⟩ := h
  obtain ⟨_, _, _, c1⟩ := hc
  obtain ⟨_, _, _, d1⟩ := hd
  have c1 := c1 kc
  have d1 := d1 kd
  have hs := hv.far_symm d1.2.2.1 d1.2.2.2.1 c1.2.2.1 c1.2.2.2.1
  unfold FitP
  rw [hs]
  refine ⟨fun e e0 => ?_, fun e hyz => h1 ⟨hyz.symm, e⟩, fun e0 e => ?_, fun e0 e => ?_⟩
  · rw [e] at e0 ⊢
    by_cases hyz : y = z
    · cases hf : farAt r.fs c.town d.town with
      | true => exact absurd ⟨hyz, hf⟩ h1
      | false => exact .inr ⟨rfl, hyz.symm⟩
    · refine .inl ?_
      have : ¬ max (y - z) (z - y) < (offAt r.os c.office).again := fun hlt => h2 ⟨e0, e.symm, hyz, hlt⟩
      omega
  · have : ¬ y - z < (offAt r.os c.office).gap := fun hlt => h4 ⟨e0, e, hlt⟩
    omega
  · have : ¬ z - y < (offAt r.os d.office).gap := fun hlt => h3 ⟨e0, e, hlt⟩
    omega
theorem Rolled.lived (h : Rolled men recs life plo phi T F os ms cs bs ds ys) (h1 : men ≤ 6) (h2 : recs ≤ 8) : Lived (rollD life plo phi T F os ms cs) (truthD ms.length cs.length bs ds ys) := by
  have hw := h.wf h1 h2
  have hm6 : ms.length ≤ 6 := hw.ms_l.2
  have hbl := h.bs_l
  have hdl := h.ds_l
  refine ⟨fun i hi => ?_, fun i hi => ?_, fun i hi => ?_, fun i hi => ?_, fun i hi hk => ?_, fun i hi hk => ?_, fun i k hik hk k1 k2 hm => ?_, fun i hi hu => ?_⟩
  · have hi : i < ms.length := hi
    have := h.man i hi
    unfold ManOk at this
    rw [truthD_b hi]
    exact ⟨this.2.2.2.2.2.2.2.1, this.2.2.2.2.2.2.2.2.1⟩
  · have hi : i < ms.length := hi
    have := h.man i hi
    unfold ManOk at this
    rw [truthD_d hm6 hi]
    show ms[i]!.dlo ≤ _ ∧ _ ≤ ms[i]!.dhi
    omega
  · have hi : i < ms.length := hi
    have := h.man i hi
    unfold ManOk at this
    rw [truthD_d hm6 hi, truthD_b hi]
    show _ ∧ _ ≤ _ + life
    omega
  · have hi : i < cs.length := hi
    obtain ⟨a1, a2, a3, a4⟩ := h.recs_ok.1 i hi
    rw [truthD_y hm6 hi]
    show cs[i]!.lo ≤ _ ∧ _ ≤ cs[i]!.hi
    cases hk : cs[i]!.kin with
    | true => have := a3 hk; omega
    | false => have := a4 hk; omega
  · have hi : i < cs.length := hi
    have hk : cs[i]!.kin = true := hk
    obtain ⟨a1, a2, a3, a4⟩ := h.recs_ok.1 i hi
    have := a3 hk
    show truthD _ _ _ _ _ cs[i]!.man.toNat + plo ≤ truthD _ _ _ _ _ cs[i]!.child.toNat ∧ truthD _ _ _ _ _ cs[i]!.child.toNat ≤ truthD _ _ _ _ _ cs[i]!.man.toNat + phi ∧ truthD _ _ _ _ _ cs[i]!.child.toNat ≤ truthD _ _ _ _ _ (6 + cs[i]!.man.toNat) + 1
    rw [truthD_b (by omega), truthD_b (by omega), truthD_d hm6 (by omega)]
    omega
  · have hi : i < cs.length := hi
    have hk : cs[i]!.kin = false := hk
    obtain ⟨a1, a2, a3, a4⟩ := h.recs_ok.1 i hi
    have := a4 hk
    show truthD _ _ _ _ _ cs[i]!.man.toNat + ageOf os cs[i]! ≤ _ ∧ _ ≤ truthD _ _ _ _ _ (6 + cs[i]!.man.toNat)
    rw [truthD_b (by omega), truthD_d hm6 (by omega), truthD_y hm6 hi]
    refine ⟨?_, by omega⟩
    unfold ageOf
    split
    · rename_i h0
      have e := this.2.2.2.2.2.2.2.2.2.2.2 h0
      unfold offAt at e
      rw [getD_get! (by omega)] at e
      omega
    · omega
  · have hk : k < cs.length := hk
    have hi : i < cs.length := by omega
    rw [truthD_y hm6 hi, truthD_y hm6 hk]
    exact fits_fitP hw (hw.cs_ok _ (get!_mem hk)) (hw.cs_ok _ (get!_mem hi)) k2 k1 (h.recs_ok.2 i k hik hk k1 k2 hm)
  · have hu : ¬ (i < ms.length ∨ (6 ≤ i ∧ i < 6 + ms.length) ∨ (12 ≤ i ∧ i < 12 + cs.length)) := hu
    unfold truthD
    rw [if_neg (by omega), if_neg (by omega), if_neg (by omega)]
end
theorem drop_nil {r : Roll} : dropF r [] = r := by
  have h : keptTo r [] r.cs.length = r.cs := by
    unfold keptTo
    have e : (List.range r.cs.length).filter (fun i => !([] : List Nat).contains i) = List.range r.cs.length := List.filter_eq_self.2 fun _ _ => rfl
    rw [e]
    apply List.ext_getElem (by simp)
    intro i h1 h2
    rw [List.getElem_map, List.getElem_range, get!_eq h2]
  unfold dropF
  rw [h]
theorem combs_zero {l : List Nat} : combs l 0 = [[]] := by cases l <;> rfl
theorem wrong_nil {r : Roll} (h : (solveF true r).2 = true) : wrongV r = .tup [.nils, I 0] := by
  have hm : mayF r [] = true := by unfold mayF; rw [drop_nil]; exact h
  have hw : wrongF r = some [] := by
    unfold wrongF allLists
    rw [List.range_succ_eq_map, List.map_cons, List.flatten_cons, combs_zero]
    show (([] : List Nat) :: _).find? (mayF r) = _
    rw [List.find?_cons_of_pos hm]
  unfold wrongV
  rw [hw]
  rfl
end Go.Proofs
namespace Go.Proofs
open Go Go.Idl
set_option linter.unusedSimpArgs false
variable {b : Bool}
theorem killHp_ne {ks : List Nat} {i : Nat} (h : i ∉ ks) : ∀ {hp : Nat → Ob}, killHp ks hp i = hp i := by
  induction ks with
  | nil => intro hp; rfl
  | cons k ks ih =>
    intro hp
    simp only [List.mem_cons, not_or] at h
    show killHp ks (upd hp k (froOb (hp k))) i = hp i
    rw [ih h.2, upd_ne _ _ h.1]
theorem awake_ans : Ans Try.prog (AA true) 16 [] (fun v => v = .bool true) := ⟨.bool true, ⟨0, rfl⟩, rfl⟩
section
variable {m : Mem} {K : Vl → Mem → Prop}
theorem wc16 : WC Try.prog (AA true) (.fn (.func 16) [] []) [] m K = K (.bool true) m := WC_flat (ks := []) (p := false) (vs := []) (by simp only [mkAnn, K16]) rfl awake_ans rfl
theorem wc31 {r : Roll} (hv : WF r) {o1 o2 o3 o4 : Option Bool} : WC Try.prog (AA b) (.fn (.func 31) [] []) [.v (encRoll o1 o2 o3 o4 r)] m K = K (wrongV r) m := by
  have ha := rfAs (m := m) (xs := [encRoll o1 o2 o3 o4 r]) (by show ((encRoll o1 o2 o3 o4 r).closed && true) = true; rw [clRoll]; rfl)
  have hw := wrong_to (b := b) hv (o1 := o1) (o2 := o2) (o3 := o3) (o4 := o4)
  have key : ∀ v, (v.flat = true ∨ (v.flat = false ∧ v.closed = true)) → Ans Try.prog (AA b) 31 [encRoll o1 o2 o3 o4 r] (fun x => x = v) → WC Try.prog (AA b) (.fn (.func 31) [] []) [.v (encRoll o1 o2 o3 o4 r)] m K = K v m := fun v hv h => by
    rcases hv with hf | ⟨hf, hc⟩
    · exact WC_flat (by simp only [mkAnn, K31]) ha h hf
    · exact WC_pure (by simp only [mkAnn, K31]) ha hf hc h
  refine key _ ?_ hw
  unfold wrongV
  cases wrongF r with
  | none => exact .inl rfl
  | some l =>
    cases l with
    | nil => exact .inl rfl
    | cons x l => exact .inr ⟨rfl, by
        show (closedL ((x :: l).map IN) && (true && true)) = true
        rw [closedL_map (fun _ => rfl)]; rfl⟩
theorem flat_spans {k : Kn} {l : List Nat} : closedL (spans k l) = true := closedL_map (fun _ => rfl) l
theorem wc20 {r : Roll} (hv : WF r) {o1 o2 o3 o4 : Option Bool} : WC Try.prog (AA b) (.fn (.func 20) [] []) [.v (encRoll o1 o2 o3 o4 r)] m K = K (livesV r) m := by
  have ha := rfAs (m := m) (xs := [encRoll o1 o2 o3 o4 r]) (by show ((encRoll o1 o2 o3 o4 r).closed && true) = true; rw [clRoll]; rfl)
  have hw := lives_to (b := b) hv (o1 := o1) (o2 := o2) (o3 := o3) (o4 := o4)
  by_cases h0 : (possF r).2 = 0
  · refine WC_pure (by simp only [mkAnn, K20]) ha ?_ ?_ hw <;> rw [livesV, if_pos h0]
    · rfl
    · show (closedL _ && (closedL _ && (true && true))) = true
      rw [flat_spans, flat_spans]; rfl
  · refine WC_flat (by simp only [mkAnn, K20]) ha hw ?_
    rw [livesV, if_neg h0]; rfl
theorem wc22 {r : Roll} (hv : WF r) {o1 o2 o3 o4 : Option Bool} : WC Try.prog (AA b) (.fn (.func 22) [] []) [.v (encRoll o1 o2 o3 o4 r)] m K = K (yearsV r) m := by
  have ha := rfAs (m := m) (xs := [encRoll o1 o2 o3 o4 r]) (by show ((encRoll o1 o2 o3 o4 r).closed && true) = true; rw [clRoll]; rfl)
  have hw := yearsOf_to (b := b) hv (o1 := o1) (o2 := o2) (o3 := o3) (o4 := o4)
  by_cases h0 : (possF r).2 = 0
  · refine WC_pure (by simp only [mkAnn, K22]) ha ?_ ?_ hw <;> rw [yearsV, if_pos h0]
    · rfl
    · show (closedL _ && (true && true)) = true
      rw [closedL_map (fun i => by unfold yearAt; split <;> rfl)]; rfl
  · refine WC_flat (by simp only [mkAnn, K22]) ha hw ?_
    rw [yearsV, if_neg h0]; rfl
theorem wc34 {lo hi n : Int} : WC Try.prog (AA b) (.fn (.func 34) [] []) [.v (.agg [I lo, I hi]), .v (I n)] m K = K (.bool (decide (lo ≤ n ∧ n ≤ hi))) m :=
  WC_flat (by simp only [mkAnn, K34]) (rfAs (xs := [.agg [I lo, I hi], I n]) rfl) (has_to lo hi n) rfl
theorem busy_wc {r : Roll} (hv : WF r) {o1 o2 o3 o4 : Option Bool} (h : ∀ t : Bool, K (.bool t) m) : WC Try.prog (AA b) (.fn (.func 15) [] []) [.v (encRoll o1 o2 o3 o4 r)] m K := by
  refine wc_ans (by simp only [mkAnn, K15]) (rfAs (xs := [encRoll o1 o2 o3 o4 r]) (by show ((encRoll o1 o2 o3 o4 r).closed && true) = true; rw [clRoll]; rfl)) (busy_to (b := b) (o1 := o1) (o2 := o2) (o3 := o3) (o4 := o4) hv) ?_
  rintro v ⟨t, rfl⟩
  exact ⟨rfl, h t⟩
end
theorem ix_spans {p : Kn} {l : List Nat} {i : Nat} (h : i < l.length) : ∀ (eb : Nat) (ez : Vl) (k : IntKind) (m : Mem), indexAddrV (.slice 2 eb ez) (.v (.lst 2 (spans p l) false)) (.int k i) m = some (.v (.fp (Sp (p.getD l[i]! (0, 0)).1 (p.getD l[i]! (0, 0)).2) 0), m) := fun eb ez k m =>
  ix_lst (f := fun i => Sp (p.getD i (0, 0)).1 (p.getD i (0, 0)).2) (Int.natCast_nonneg i) (by omega) (by decide)
theorem ix_years {R : Roll} {p : Kn} {n i : Nat} (h : i < n) : ∀ (eb : Nat) (ez : Vl) (k : IntKind) (m : Mem), indexAddrV (.slice 2 eb ez) (.v (.lst 2 ((List.range n).map (yearAt R p)) false)) (.int k i) m = some (.v (.fp (yearAt R p i) 0), m) := fun eb ez k m => by
  rw [ix_lst (Int.natCast_nonneg i) (by rw [List.length_range]; omega) (by decide), Int.toNat_natCast, range_get! h]
set_option maxRecDepth 10000 in
set_option maxHeartbeats 4000000 in
theorem true_to {ns : List Int} (hn : ns.length ≤ 9223372036854775807) {o : Option Bool} : Ans Try.prog (AA true) 6 [SL 1 (ns.map I) o] (fun v => v = .bool true) := by
  refine Ans_of Try.func6 rfl rfl ?_
  simp +contextual (maxSteps := 1000000) (disch := first | omega | (with_reducible first | refine krN ?_ | refine krS ?_ | refine krP ?_ | refine krG ?_); kernel_rfl | refine kr ?_; simp only [go_sem, ↓reduceIte, Nat.reduceEqDiff, Nat.reduceAdd, Nat.reduceMul, Nat.reduceLeDiff, Nat.reduceLT, Nat.reduceBEq, bne, reduceCtorEq, Int.reduceLE, Int.reduceToNat, Int.reduceLT, Int.reduceAdd, Int.reduceSub, Int.reduceNeg, Int.cast_ofNat_Int]; done | fail) only [go_sem, ↓reduceIte, Nat.reduceEqDiff, Nat.reduceAdd, Nat.reduceMul, Nat.reduceLeDiff, Nat.reduceLT, Nat.reduceBEq, bne, reduceCtorEq, Int.reduceLE, Int.reduceToNat, Int.reduceLT, Int.reduceAdd, Int.reduceSub, Int.reduceNeg, Int.cast_ofNat_Int]
  refine wc_heap (by simp only [mkAnn, K18]) rfl (newUrn_to (b := true) hn) ?_
  rintro v hp' nx' ⟨rfl, rfl, x, y, rfl⟩
  simp +contextual (maxSteps := 1000000) (disch := first | omega | (with_reducible first | refine krN ?_ | refine krS ?_ | refine krP ?_ | refine krG ?_); kernel_rfl | refine kr ?_; simp only [go_sem, ↓reduceIte, Nat.reduceEqDiff, Nat.reduceAdd, Nat.reduceMul, Nat.reduceLeDiff, Nat.reduceLT, Nat.reduceBEq, bne, reduceCtorEq, Int.reduceLE, Int.reduceToNat, Int.reduceLT, Int.reduceAdd, Int.reduceSub, Int.reduceNeg, Int.cast_ofNat_Int]; done | fail) only [go_sem, ↓reduceIte, Nat.reduceEqDiff, Nat.reduceAdd, Nat.reduceMul, Nat.reduceLeDiff, Nat.reduceLT, Nat.reduceBEq, bne, reduceCtorEq, Int.reduceLE, Int.reduceToNat, Int.reduceLT, Int.reduceAdd, Int.reduceSub, Int.reduceNeg, Int.cast_ofNat_Int]
  refine wc_heap (by simp only [mkAnn, K17]) rfl (rollOf_to (b := true) (s := (x, y)) (men := 5) (recs := 6) (by decide) (by decide) (by decide) (by decide)) ?_
  rintro v hp' nx' ⟨s, life, plo, phi, T, F, os, ms, cs, bs, ds, ys, hR, rfl, rfl, rfl⟩
  have hw := hR.wf (by decide) (by decide)
  have hL := hR.lived (by decide) (by decide)
  have r1 := rfR1 (s := s) (os := os) (ms := ms) (cs := cs) (T := T) (t := T) (F := F) (x := true) (bs := bs) (ds := ds) (ys := ys) rfl
  have r2 := rfR2 (s := s) (os := os) (ms := ms) (cs := cs) (T := T) (F := F) (x := true) (bs := bs) (ds := ds) (ys := ys)
  have r3 := rfR3 (s := s) (os := os) (ms := ms) (cs := cs) (T := T) (t := T) (F := F) (x := true) (bs := bs) (ds := ds) (ys := ys) rfl
  have r4 := rfR4 (s := s) (os := os) (ms := ms) (cs := cs) (T := T) (t := T) (F := F) (x := true) (bs := bs) (ds := ds) (ys := ys) rfl
  simp +contextual (maxSteps := 1000000) (disch := first | omega | (with_reducible first | refine krN ?_ | refine krS ?_ | refine krP ?_ | refine krG ?_); kernel_rfl | refine kr ?_; simp only [go_sem, ↓reduceIte, Nat.reduceEqDiff, Nat.reduceAdd, Nat.reduceMul, Nat.reduceLeDiff, Nat.reduceLT, Nat.reduceBEq, bne, reduceCtorEq, Int.reduceLE, Int.reduceToNat, Int.reduceLT, Int.reduceAdd, Int.reduceSub, Int.reduceNeg, Int.cast_ofNat_Int, r1, r2, r3, r4]; done | fail) only [go_sem, ↓reduceIte, Nat.reduceEqDiff, Nat.reduceAdd, Nat.reduceMul, Nat.reduceLeDiff, Nat.reduceLT, Nat.reduceBEq, bne, reduceCtorEq, Int.reduceLE, Int.reduceToNat, Int.reduceLT, Int.reduceAdd, Int.reduceSub, Int.reduceNeg, Int.cast_ofNat_Int, r1, r2, r3, r4]
  clear r1 r2 r3 r4
  generalize hhk : killHp _ (HPr _) = hk
  have hat : ∀ i, 5 + T ≤ i → hk i = HPr ⟨s, os, ms, cs, T, T, F, true, bs, ds, ys⟩ i := fun i hi => by
    rw [← hhk]
    refine killHp_ne ?_
    simp only [List.mem_cons, List.mem_append, List.mem_flatten, List.mem_map, List.mem_range, List.not_mem_nil, or_false, not_or]
    refine ⟨by omega, by omega, ?_, by have := hR.T_b; omega, by have := hR.T_b; omega⟩
    rintro ⟨l, ⟨j, hj, rfl⟩, hm⟩
    rw [List.mem_singleton] at hm
    omega
  have q1 : reify hk (.own (5 + T) ms.length) = some (.lst 1 (bs.map I) false, [5 + T]) := reify_flat (.inl ((hat _ (by omega)).trans (HPr_b (d := ⟨s, os, ms, cs, T, T, F, true, bs, ds, ys⟩) rfl))) hR.bs_l fun _ => rfl
  have q2 : reify hk (.own (5 + T + 1) ms.length) = some (.lst 1 (ds.map I) false, [5 + T + 1]) := reify_flat (.inl ((hat _ (by omega)).trans (HPr_d (d := ⟨s, os, ms, cs, T, T, F, true, bs, ds, ys⟩) rfl))) hR.ds_l fun _ => rfl
  have q3 : reify hk (.own (5 + T + 1 + 1) cs.length) = some (.lst 1 (ys.map I) false, [5 + T + 1 + 1]) := reify_flat (.inl ((hat _ (by omega)).trans (HPr_y (d := ⟨s, os, ms, cs, T, T, F, true, bs, ds, ys⟩) rfl))) hR.ys_l fun _ => rfl
  obtain ⟨R, hRd⟩ : ∃ R, R = rollD life plo phi T F os ms cs := ⟨_, rfl⟩
  have e1 : Vl.agg [.lst 3 (os.map encO) false, I life, I plo, I phi, .lst 1 ((rowsL T F).map encRow) false, .lst 5 (ms.map encM) false, .lst 7 (cs.map encC) false] = encRoll (some false) (some false) (some false) (some false) R := by rw [hRd]; rfl
  have e2 : ∀ l : List Int, Vl.lst 1 (l.map I) false = SL 1 (l.map I) (some false) := fun _ => rfl
  rw [e1]
  simp +contextual (maxSteps := 1000000) (disch := first | omega | (with_reducible first | refine krN ?_ | refine krS ?_ | refine krP ?_ | refine krG ?_); kernel_rfl | refine kr ?_; simp only [go_sem, ↓reduceIte, Nat.reduceEqDiff, Nat.reduceAdd, Nat.reduceMul, Nat.reduceLeDiff, Nat.reduceLT, Nat.reduceBEq, bne, reduceCtorEq, Int.reduceLE, Int.reduceToNat, Int.reduceLT, Int.reduceAdd, Int.reduceSub, Int.reduceNeg, Int.cast_ofNat_Int, q1, q2, q3]; done | fail) only [go_sem, ↓reduceIte, Nat.reduceEqDiff, Nat.reduceAdd, Nat.reduceMul, Nat.reduceLeDiff, Nat.reduceLT, Nat.reduceBEq, bne, reduceCtorEq, Int.reduceLE, Int.reduceToNat, Int.reduceLT, Int.reduceAdd, Int.reduceSub, Int.reduceNeg, Int.cast_ofNat_Int, q1, q2, q3]
  have hbl := hR.bs_l
  have hdl := hR.ds_l
  have hyl := hR.ys_l
  have hml : R.ms.length = ms.length := by rw [hRd]; rfl
  have hcl : R.cs.length = cs.length := by rw [hRd]; rfl
  rw [← hRd] at hw hL
  have hm6 := hw.ms_l
  have hc8 := hw.cs_l
  clear q1 q2 q3 hat hhk e1 hRd
  refine busy_wc hw fun t => ?_
  cases t with
  | true => simp +contextual (maxSteps := 1000000) (disch := first | omega | (with_reducible first | refine krN ?_ | refine krS ?_ | refine krP ?_ | refine krG ?_); kernel_rfl | refine kr ?_; simp only [go_sem, ↓reduceIte, Nat.reduceEqDiff, Nat.reduceAdd, Nat.reduceMul, Nat.reduceLeDiff, Nat.reduceLT, Nat.reduceBEq, bne, reduceCtorEq, Int.reduceLE, Int.reduceToNat, Int.reduceLT, Int.reduceAdd, Int.reduceSub, Int.reduceNeg, Int.cast_ofNat_Int, wc16]; done | fail) only [go_sem, ↓reduceIte, Nat.reduceEqDiff, Nat.reduceAdd, Nat.reduceMul, Nat.reduceLeDiff, Nat.reduceLT, Nat.reduceBEq, bne, reduceCtorEq, Int.reduceLE, Int.reduceToNat, Int.reduceLT, Int.reduceAdd, Int.reduceSub, Int.reduceNeg, Int.cast_ofNat_Int, wc16]
  | false =>
    have hin := solve_in hw.toVal ((truth_iff hw.toVal).2 hL)
    have hsm : (solveF false R).2 = true := (solve_iff' hw.toVal).2 ⟨_, hL⟩
    have hp0 : (possF R).2 = 0 := by unfold possF; rw [if_pos hsm]
    have hp1 : (possF R).1 = (solveF false R).1 := by unfold possF; rw [if_pos hsm]
    have hlv := livesV.eq_1 R
    rw [if_pos hp0, hp1] at hlv
    have hyv := yearsV.eq_1 R
    rw [if_pos hp0, hp1] at hyv
    have hwv := wrong_nil ((solve_iff' hw.toVal (enough := true)).2 ⟨_, hL⟩)
    generalize (solveF false R).1 = p at hin hlv hyv
    have spl : ∀ (k : Kn) (l : List Nat), (spans k l).length = l.length := fun k l => by unfold spans; rw [List.length_map]
    simp +contextual (maxSteps := 1000000) (disch := first | omega | (with_reducible first | refine krN ?_ | refine krS ?_ | refine krP ?_ | refine krG ?_); kernel_rfl | refine kr ?_; simp only [go_sem, ↓reduceIte, Nat.reduceEqDiff, Nat.reduceAdd, Nat.reduceMul, Nat.reduceLeDiff, Nat.reduceLT, Nat.reduceBEq, bne, reduceCtorEq, Int.reduceLE, Int.reduceToNat, Int.reduceLT, Int.reduceAdd, Int.reduceSub, Int.reduceNeg, Int.cast_ofNat_Int, wc16, wc20, wc22, wc31, hw, hlv, hyv, hwv, spl, List.length_range, List.length_map, hml, hcl]; done | fail) only [go_sem, ↓reduceIte, Nat.reduceEqDiff, Nat.reduceAdd, Nat.reduceMul, Nat.reduceLeDiff, Nat.reduceLT, Nat.reduceBEq, bne, reduceCtorEq, Int.reduceLE, Int.reduceToNat, Int.reduceLT, Int.reduceAdd, Int.reduceSub, Int.reduceNeg, Int.cast_ofNat_Int, wc16, wc20, wc22, wc31, hw, hlv, hyv, hwv, spl, List.length_range, List.length_map, hml, hcl]
    generalize killHp _ hk = hk2
    refine wp_loop_to ms.length (fun i st => ∃ (ex : List (Nat × Vl)), st = ({ sl := (4, .loc (.agg [.lst 1 (bs.map I) false, .lst 1 (ds.map I) false, .lst 1 (ys.map I) false])) :: (5, .lst 2 (spans p (List.range ms.length)) false) :: (6, .lst 2 (spans p ((List.range ms.length).map fun x => 6 + x)) false) ::
      (8, .lst 2 ((List.range cs.length).map (yearAt R p)) false) :: (12, I i) :: ex, hp := hk2, nx := 5 + T + 1 + 1 + 1 } : FS)) ?_ 0 (Nat.zero_le _) ⟨_, rfl⟩
    rintro i st hi ⟨ex, rfl⟩
    by_cases hc : i < ms.length
    · have x1 := ix_spans (l := List.range ms.length) (p := p) (i := i) (by simpa using hc)
      have x2 := ix_spans (l := (List.range ms.length).map fun x => 6 + x) (p := p) (i := i) (by simpa using hc)
      rw [range_get! hc] at x1
      rw [map_get! (by simpa using hc), range_get! hc] at x2
      have hi1 := hin i (by omega)
      have hi2 := hin (6 + i) (by omega)
      rw [truthD_b hc] at hi1
      rw [truthD_d (by omega) hc] at hi2
      have hd1 := decide_eq_true hi1
      have hd2 := decide_eq_true hi2
      have hcb : i < bs.length := by omega
      have hcd : i < ds.length := by omega
      simp +contextual (maxSteps := 1000000) (disch := first | omega | (with_reducible first | refine krN ?_ | refine krS ?_ | refine krP ?_ | refine krG ?_); kernel_rfl | refine kr ?_; simp only [go_sem, ↓reduceIte, Nat.reduceEqDiff, Nat.reduceAdd, Nat.reduceMul, Nat.reduceLeDiff, Nat.reduceLT, Nat.reduceBEq, bne, reduceCtorEq, Int.reduceLE, Int.reduceToNat, Int.reduceLT, Int.reduceAdd, Int.reduceSub, Int.reduceNeg, Int.cast_ofNat_Int, Int.ofNat_lt, hc, x1, x2, ix_lst, hcb, hcd, wc34, hd1, hd2, spl, List.length_range, List.length_map]; done | fail) only [go_sem, ↓reduceIte, Nat.reduceEqDiff, Nat.reduceAdd, Nat.reduceMul, Nat.reduceLeDiff, Nat.reduceLT, Nat.reduceBEq, bne, reduceCtorEq, Int.reduceLE, Int.reduceToNat, Int.reduceLT, Int.reduceAdd, Int.reduceSub, Int.reduceNeg, Int.cast_ofNat_Int, Int.ofNat_lt, hc, x1, x2, ix_lst, hcb, hcd, wc34, hd1, hd2, spl, List.length_range, List.length_map]
      exact ⟨_, rfl⟩
    · have hie : i = ms.length := by omega
      subst hie
      simp +contextual (maxSteps := 1000000) (disch := first | omega | (with_reducible first | refine krN ?_ | refine krS ?_ | refine krP ?_ | refine krG ?_); kernel_rfl | refine kr ?_; simp only [go_sem, ↓reduceIte, Nat.reduceEqDiff, Nat.reduceAdd, Nat.reduceMul, Nat.reduceLeDiff, Nat.reduceLT, Nat.reduceBEq, bne, reduceCtorEq, Int.reduceLE, Int.reduceToNat, Int.reduceLT, Int.reduceAdd, Int.reduceSub, Int.reduceNeg, Int.cast_ofNat_Int, Int.lt_irrefl, spl, List.length_range, List.length_map]; done | fail) only [go_sem, ↓reduceIte, Nat.reduceEqDiff, Nat.reduceAdd, Nat.reduceMul, Nat.reduceLeDiff, Nat.reduceLT, Nat.reduceBEq, bne, reduceCtorEq, Int.reduceLE, Int.reduceToNat, Int.reduceLT, Int.reduceAdd, Int.reduceSub, Int.reduceNeg, Int.cast_ofNat_Int, Int.lt_irrefl, spl, List.length_range, List.length_map]
      refine wp_loop_to cs.length (fun i st => ∃ (ex : List (Nat × Vl)), st = ({ sl := (4, .loc (.agg [.lst 1 (bs.map I) false, .lst 1 (ds.map I) false, .lst 1 (ys.map I) false])) ::
        (8, .lst 2 ((List.range cs.length).map (yearAt R p)) false) :: (13, I i) :: ex, hp := hk2, nx := 5 + T + 1 + 1 + 1 } : FS)) ?_ 0 (Nat.zero_le _) ⟨_, rfl⟩
      clear ex hi hc
      rintro i st hi ⟨ex, rfl⟩
      by_cases hc : i < cs.length
      · have hcy : i < ys.length := by omega
        have x3 := ix_years (R := R) (p := p) (n := cs.length) (i := i) hc
        have hi3 := hin (12 + i) (by omega)
        rw [truthD_y (by omega) hc] at hi3
        obtain ⟨lo, hi', e3, hd3⟩ : ∃ lo hi', yearAt R p i = Sp lo hi' ∧ decide (lo ≤ ys[i]! ∧ ys[i]! ≤ hi') = true := by
          unfold yearAt
          cases hk : R.cs[i]!.kin with
          | true =>
            have hy0 := (hL.year i (by omega))
            have hz := (hw.cs_ok _ (get!_mem (show i < R.cs.length by omega))).2.2.1 hk
            rw [truthD_y (by omega) hc] at hy0
            exact ⟨_, _, rfl, decide_eq_true (by omega)⟩
          | false => exact ⟨_, _, rfl, decide_eq_true hi3⟩
        rw [e3] at x3
        simp +contextual (maxSteps := 1000000) (disch := first | omega | (with_reducible first | refine krN ?_ | refine krS ?_ | refine krP ?_ | refine krG ?_); kernel_rfl | refine kr ?_; simp only [go_sem, ↓reduceIte, Nat.reduceEqDiff, Nat.reduceAdd, Nat.reduceMul, Nat.reduceLeDiff, Nat.reduceLT, Nat.reduceBEq, bne, reduceCtorEq, Int.reduceLE, Int.reduceToNat, Int.reduceLT, Int.reduceAdd, Int.reduceSub, Int.reduceNeg, Int.cast_ofNat_Int, Int.ofNat_lt, hc, x3, ix_lst, hcy, wc34, hd3, List.length_range, List.length_map]; done | fail) only [go_sem, ↓reduceIte, Nat.reduceEqDiff, Nat.reduceAdd, Nat.reduceMul, Nat.reduceLeDiff, Nat.reduceLT, Nat.reduceBEq, bne, reduceCtorEq, Int.reduceLE, Int.reduceToNat, Int.reduceLT, Int.reduceAdd, Int.reduceSub, Int.reduceNeg, Int.cast_ofNat_Int, Int.ofNat_lt, hc, x3, ix_lst, hcy, wc34, hd3, List.length_range, List.length_map]
        exact ⟨_, rfl⟩
      · have hie : i = cs.length := by omega
        subst hie
        simp +contextual (maxSteps := 1000000) (disch := first | omega | (with_reducible first | refine krN ?_ | refine krS ?_ | refine krP ?_ | refine krG ?_); kernel_rfl | refine kr ?_; simp only [go_sem, ↓reduceIte, Nat.reduceEqDiff, Nat.reduceAdd, Nat.reduceMul, Nat.reduceLeDiff, Nat.reduceLT, Nat.reduceBEq, bne, reduceCtorEq, Int.reduceLE, Int.reduceToNat, Int.reduceLT, Int.reduceAdd, Int.reduceSub, Int.reduceNeg, Int.cast_ofNat_Int, Int.lt_irrefl, List.length_range, List.length_map, wc16]; done | fail) only [go_sem, ↓reduceIte, Nat.reduceEqDiff, Nat.reduceAdd, Nat.reduceMul, Nat.reduceLeDiff, Nat.reduceLT, Nat.reduceBEq, bne, reduceCtorEq, Int.reduceLE, Int.reduceToNat, Int.reduceLT, Int.reduceAdd, Int.reduceSub, Int.reduceNeg, Int.cast_ofNat_Int, Int.lt_irrefl, List.length_range, List.length_map, wc16]
end Go.Proofs
