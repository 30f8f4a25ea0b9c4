/- What functions of the given program do in the ideal machine (G14, G21a), and the plain laws of what they answer; the conditions stand in each theorem. -/
import Derived.Test.YtencmmlmeifffaaGf
set_option linter.all false
set_option linter.unusedSectionVars false
set_option linter.unusedSimpArgs false
set_option linter.unusedVariables false
namespace Go.Proofs
open Go Go.Idl
set_option linter.unusedSimpArgs false
variable {b : Bool}
section
variable {s : Int × Int} {os : List Office} {ms : List Man} {cs : List Rec} {T t nx : Nat} {F : Nat → Nat → Bool} {x : Bool} {bs ds ys : List Int} {lc : List (Nat × Vl)}
theorem ixR4 {n eb : Nat} {ez : Vl} {i : Int} (hn : cs.length = n) (h0 : 0 ≤ i) (hi : i < n) : indexAddrV (.slice 7 eb ez) (.v (.own 4 n)) (.int .i64 i) { lc := lc, hp := HPr ⟨s, os, ms, cs, T, t, F, x, bs, ds, ys⟩, nx := nx } = some (.v (.ep 4 n i.toNat 0), { lc := lc, hp := HPr ⟨s, os, ms, cs, T, t, F, x, bs, ds, ys⟩, nx := nx }) :=
  indexAddr_own HPr_4 (by rw [List.length_map]; exact hn) ⟨h0, hi⟩ (by decide)
theorem rdR4 {n j off sz : Nat} {ag : Bool} (hn : cs.length = n) (hj : j < n) : Mem.read { lc := lc, hp := HPr ⟨s, os, ms, cs, T, t, F, x, bs, ds, ys⟩, nx := nx } ag sz (.v (.ep 4 n j off)) = sub ag sz off (encC cs[j]!) := by
  have hl : (cs.map encC).length = n := by rw [List.length_map]; exact hn
  simp only [Mem.read, HPr_4, hl, if_true]
  rw [List.getElem?_eq_getElem (by rw [hl]; exact hj), List.getElem_map, get!_eq (by omega)]
  rfl
theorem wrR4 {n j off : Nat} {v : Vl} (hn : cs.length = n) (hj : j < n) : Mem.write { lc := lc, hp := HPr ⟨s, os, ms, cs, T, t, F, x, bs, ds, ys⟩, nx := nx } v (.v (.ep 4 n j off)) = (put off v (encC cs[j]!)).map fun c => { lc := lc, hp := upd (HPr ⟨s, os, ms, cs, T, t, F, x, bs, ds, ys⟩) 4 (.arr 7 ((cs.map encC).set j c)), nx := nx } := by
  have hl : (cs.map encC).length = n := by rw [List.length_map]; exact hn
  simp only [Mem.write, HPr_4, hl, if_true]
  rw [List.getElem?_eq_getElem (by rw [hl]; exact hj), List.getElem_map, get!_eq (by omega)]
  rfl
theorem HPr_set4 {j : Nat} {k : Bool} {a o tw c lo hi : Int} : upd (HPr ⟨s, os, ms, cs, T, t, F, x, bs, ds, ys⟩) 4 (.arr 7 ((cs.map encC).set j (.agg [.bool k, .int .i64 a, .int .i64 o, .int .i64 tw, .int .i64 c, .int .i64 lo, .int .i64 hi]))) = HPr ⟨s, os, ms, cs.set j ⟨k, a, o, tw, c, lo, hi⟩, T, t, F, x, bs, ds, ys⟩ := by
  have e : (cs.map encC).set j (.agg [.bool k, .int .i64 a, .int .i64 o, .int .i64 tw, .int .i64 c, .int .i64 lo, .int .i64 hi]) = (cs.set j ⟨k, a, o, tw, c, lo, hi⟩).map encC := by rw [List.map_set]; rfl
  rw [e, HPr_cs]
end
theorem get!_set {α : Type} [Inhabited α] {l : List α} {i j : Nat} {a : α} (h : i < l.length) : (l.set i a)[j]! = if i = j then a else l[j]! := by
  by_cases hj : j < l.length
  · rw [get!_eq (by rw [List.length_set]; exact hj), List.getElem_set, get!_eq hj]
  · rw [getElem!_neg (l.set i a) j (by rw [List.length_set]; exact hj), getElem!_neg l j hj, if_neg (by omega)]
theorem get!_set_eq {α : Type} [Inhabited α] {l : List α} {i : Nat} {a : α} (h : i < l.length) : (l.set i a)[i]! = a := by rw [get!_set h, if_pos rfl]
section
variable {m : Mem} {K : Vl → Mem → Prop}
theorem span_to {lo hi : Int} : Ans Try.prog (AA b) 35 [I lo, I hi] (fun v => v = .agg [I lo, I hi]) := by
  refine Ans_of Try.func35 rfl rfl ?_
  simp +contextual (maxSteps := 1000000) (disch := first | omega | (with_reducible first | refine krN ?_ | refine krS ?_ | refine krP ?_ | refine krG ?_); kernel_rfl | refine kr ?_; simp only [go_sem, reduceCtorEq]; done | fail) only [go_sem, ↓reduceIte, Nat.reduceEqDiff, Nat.reduceAdd, Nat.reduceMul, Nat.reduceLeDiff, Nat.reduceLT, Nat.reduceBEq, bne, reduceCtorEq, Int.reduceLE, Int.reduceToNat, Int.reduceLT, Int.reduceAdd, Int.reduceSub, Int.reduceNeg, Int.cast_ofNat_Int]
theorem wc35 {lo hi : Int} : WC Try.prog (AA b) (.fn (.func 35) [] []) [.v (I lo), .v (I hi)] m K = K (.agg [I lo, I hi]) m := WC_flat (by simp only [mkAnn, K35]) (rfAs (xs := [I lo, I hi]) rfl) span_to rfl
end
attribute [go_sem] wc35
def Near (r : Roll) (B : Int) : Prop := (∀ m ∈ r.ms, -B ≤ m.blo ∧ m.bhi ≤ B ∧ -B ≤ m.dlo ∧ m.dhi ≤ B) ∧ ∀ c ∈ r.cs, -B ≤ c.lo ∧ c.hi ≤ B
theorem WF.recs {life plo phi : Int} {T : Nat} {F : Nat → Nat → Bool} {os : List Office} {ms : List Man} {cs cs' : List Rec} (h : WF (rollD life plo phi T F os ms cs)) (hl : cs'.length ≤ 8) (hc : ∀ c ∈ cs', RecVal (rollD life plo phi T F os ms cs) c) : WF (rollD life plo phi T F os ms cs') :=
  { os_l := h.os_l, os_ok := h.os_ok, life := h.life, par := h.par, fs_l := h.fs_l, fs_ok := h.fs_ok, ms_l := h.ms_l, ms_ok := h.ms_ok, cs_l := hl, cs_ok := hc, names := h.names, diag := h.diag, symm := h.symm }
set_option maxRecDepth 10000 in
set_option maxHeartbeats 4000000 in
theorem spoilt2_to {s : Int × Int} {recs : Int} (h3 : 0 ≤ recs) (h4 : recs ≤ 8) : HAns Try.prog (AA b) 30 [.bp 0 0, I recs] (upd noHeap 0 (urnO s)) 1 (fun v hp' nx' => ∃ s life plo phi T F os ms cs bs ds ys, WF (rollD life plo phi T F os ms cs) ∧ Near (rollD life plo phi T F os ms cs) 200 ∧ (cs.length : Int) ≤ recs ∧ 1 ≤ T ∧ (∃ t, Lived (rollD life plo phi T F os ms []) t) ∧ (life ≤ 60 ∧ phi ≤ 30) ∧
    v = .agg [.own 1 os.length, I life, I plo, I phi, .own 2 T, .own 3 ms.length, .own 4 cs.length] ∧ hp' = HPr ⟨s, os, ms, cs, T, T, F, true, bs, ds, ys⟩ ∧ nx' = 5 + T + 1 + 1 + 1) := by
  refine HAns_of Try.func30 rfl ?_
  simp +contextual (maxSteps := 1000000) (disch := first | omega | (with_reducible first | refine krN ?_ | refine krS ?_ | refine krP ?_ | refine krG ?_); kernel_rfl | refine kr ?_; simp only [go_sem, reduceCtorEq]; done | fail) only [go_sem, ↓reduceIte, Nat.reduceEqDiff, Nat.reduceAdd, Nat.reduceMul, Nat.reduceLeDiff, Nat.reduceLT, Nat.reduceBEq, bne, reduceCtorEq, Int.reduceLE, Int.reduceToNat, Int.reduceLT, Int.reduceAdd, Int.reduceSub, Int.reduceNeg, Int.cast_ofNat_Int]
  refine wc_heap (by simp only [mkAnn, K17]) rfl (rollOf_to (b := b) (s := s) (men := 4) (recs := recs) (by decide) (by decide) h3 h4) ?_
  rintro v hp' nx' ⟨s, life, plo, phi, T, F, os, ms, cs, bs, ds, ys, hR, rfl, rfl, rfl⟩
  have hw := hR.wf (by decide) h4
  have hml : ms.length ≤ 4 := by have := hR.ms_b; omega
  have hml1 : 1 ≤ ms.length := by have := hR.ms_b; omega
  have hT1 := hR.T_b
  have hnear : ∀ m ∈ ms, -200 ≤ m.blo ∧ m.bhi ≤ 200 ∧ -200 ≤ m.dlo ∧ m.dhi ≤ 200 := fun m hm => by
    obtain ⟨j, hj, rfl⟩ := List.getElem_of_mem hm
    have := hR.man j hj
    have hl := hR.life_b
    rw [get!_eq hj] at this
    unfold ManOk at this
    omega
  have hinv : ∀ j, j < cs.length → RecVal (rollD life plo phi T F os ms cs) cs[j]! ∧ -100 ≤ cs[j]!.lo ∧ cs[j]!.hi ≤ 100 := fun j hj => by
    refine ⟨hw.cs_ok _ (get!_mem hj), ?_⟩
    obtain ⟨a1, a2, a3, a4⟩ := hR.recs_ok.1 j hj
    have hbl := hR.bs_l
    have hm := hR.man cs[j]!.man.toNat (by omega)
    have hl := hR.life_b
    unfold ManOk at hm
    cases hk : cs[j]!.kin with
    | true => have := a3 hk; omega
    | false => have := a4 hk; omega
  have hlp : life ≤ 60 ∧ phi ≤ 30 := ⟨hR.life_b.2, hR.phi_b.2⟩
  have hmen : ∃ t, Lived (rollD life plo phi T F os ms []) t := by
    have hbl := hR.bs_l
    have hdl := hR.ds_l
    refine ⟨truthD ms.length 0 bs ds [], fun i hi => ?_, fun i hi => ?_, fun i hi => ?_, fun i hi => absurd hi (Nat.not_lt_zero _), fun i hi => absurd hi (Nat.not_lt_zero _), fun i hi => absurd hi (Nat.not_lt_zero _), fun i k _ hk => absurd hk (Nat.not_lt_zero _), fun i hi hu => ?_⟩
    · have hi : i < ms.length := hi
      have := hR.man i hi
      unfold ManOk at this
      rw [truthD_b hi]
      exact ⟨this.2.2.2.2.2.2.2.1, this.2.2.2.2.2.2.2.2.1⟩
    · have hi : i < ms.length := hi
      have := hR.man i hi
      unfold ManOk at this
      rw [truthD_d (by omega) hi]
      show ms[i]!.dlo ≤ _ ∧ _ ≤ ms[i]!.dhi
      omega
    · have hi : i < ms.length := hi
      have := hR.man i hi
      unfold ManOk at this
      rw [truthD_d (by omega) hi, truthD_b hi]
      show _ ∧ _ ≤ _ + life
      omega
    · have hu : ¬ (i < ms.length ∨ (6 ≤ i ∧ i < 6 + ms.length) ∨ (12 ≤ i ∧ i < 12 + 0)) := hu
      unfold truthD
      rw [if_neg (by omega), if_neg (by omega), if_neg (by omega)]
  obtain ⟨q, hq⟩ : ∃ q, q = cs.length := ⟨_, rfl⟩
  have hq8 : q ≤ 8 := by have := hw.cs_l; have e : (rollD life plo phi T F os ms cs).cs.length = cs.length := rfl; omega
  have hqr : (q : Int) ≤ recs := by have := hR.cs_b; omega
  simp +contextual (maxSteps := 1000000) (disch := first | omega | (with_reducible first | refine krN ?_ | refine krS ?_ | refine krP ?_ | refine krG ?_); kernel_rfl | refine kr ?_; simp only [go_sem, reduceCtorEq]; done | fail) only [go_sem, ↓reduceIte, Nat.reduceEqDiff, Nat.reduceAdd, Nat.reduceMul, Nat.reduceLeDiff, Nat.reduceLT, Nat.reduceBEq, bne, reduceCtorEq, Int.reduceLE, Int.reduceToNat, Int.reduceLT, Int.reduceAdd, Int.reduceSub, Int.reduceNeg, Int.cast_ofNat_Int]
  have hval : ∀ c, RecVal (rollD life plo phi T F os ms cs) c = RecVal (rollD life plo phi T F os ms []) c := fun _ => rfl
  simp only [hval] at hinv
  have hw0 := hw.recs (cs' := []) (by simp) (fun c h => by cases h)
  rw [← hq] at hinv ⊢
  refine wp_loop_to 2 (fun i st => ∃ (s : Int × Int) (cs : List Rec) (ex : List (Nat × Vl)), cs.length = q ∧ (∀ j, j < q → RecVal (rollD life plo phi T F os ms []) cs[j]! ∧ -(100 + 40 * (i : Int)) ≤ cs[j]!.lo ∧ cs[j]!.hi ≤ 100 + 40 * (i : Int)) ∧
    st = ({ sl := (0, .bp 0 0) :: (4, .loc (.agg [.nils, I 0, I 0, I 0, .nils, .nils, .nils])) :: (5, .loc (.agg [.own 1 os.length, I life, I plo, I phi, .own 2 T, .own 3 ms.length, .own 4 q])) :: (7, I i) :: ex, hp := HPr ⟨s, os, ms, cs, T, T, F, true, bs, ds, ys⟩, nx := 5 + T + 1 + 1 + 1 } : FS)) ?_ 0 (Nat.zero_le _) ⟨s, cs, _, hq.symm, by simpa using hinv, rfl⟩
  clear hinv hw hq hR s hval
  rintro i st hi ⟨s, cs, ex, hq, hinv, rfl⟩
  by_cases hc : i < 2 ∧ 0 < q
  · obtain ⟨hc2, hq0⟩ := hc
    have hi2 : (i : Int) < 2 := by omega
    have hq0' : 0 < (q : Int) := by omega
    have e1 := upR_b s (n := (q : Int)) (by omega)
    have hj : (upR s q).toNat < q := by omega
    have hjc : (upR s q).toNat < cs.length := by omega
    obtain ⟨hv, hlo, hhi⟩ := hinv _ hj
    have e2 := fromR_b (upS s q) (lo := -40) (hi := 40) (by omega) (by omega) (by omega) (by omega)
    have hset : ∀ c : Rec, RecVal (rollD life plo phi T F os ms []) c → -(100 + 40 * ((i + 1 : Nat) : Int)) ≤ c.lo → c.hi ≤ 100 + 40 * ((i + 1 : Nat) : Int) → ∀ j, j < q → RecVal (rollD life plo phi T F os ms []) (cs.set (upR s q).toNat c)[j]! ∧ -(100 + 40 * ((i + 1 : Nat) : Int)) ≤ (cs.set (upR s q).toNat c)[j]!.lo ∧ (cs.set (upR s q).toNat c)[j]!.hi ≤ 100 + 40 * ((i + 1 : Nat) : Int) := fun c h1 h2 h3 j hj => by
      rw [get!_set hjc]
      split
      · exact ⟨h1, h2, h3⟩
      · have := hinv j hj
        exact ⟨this.1, by omega, by omega⟩
    cases hk : cs[(upR s q).toNat]!.kin with
    | false =>
      obtain ⟨v1, v2, v3, v4⟩ := id hv
      obtain ⟨w1, w2, w3, w4, w5, w6⟩ := v4 hk
      obtain ⟨w7, w8, w9⟩ := id w6
      simp +contextual (maxSteps := 1000000) (disch := first | omega | (with_reducible first | refine krN ?_ | refine krS ?_ | refine krP ?_ | refine krG ?_); kernel_rfl | refine kr ?_; simp only [go_sem, reduceCtorEq, hi2, hq0', e1, ixR4, rdR4, wrR4, HPr_set4, hq, hj, encC, hk, List.length_set, get!_set_eq, hjc]; done | fail) only [go_sem, ↓reduceIte, Nat.reduceEqDiff, Nat.reduceAdd, Nat.reduceMul, Nat.reduceLeDiff, Nat.reduceLT, Nat.reduceBEq, bne, reduceCtorEq, Int.reduceLE, Int.reduceToNat, Int.reduceLT, Int.reduceAdd, Int.reduceSub, Int.reduceNeg, Int.cast_ofNat_Int, hi2, hq0', e1, ixR4, rdR4, wrR4, HPr_set4, hq, hj, encC, hk, List.length_set, get!_set_eq, hjc]
      refine WI_of (fun _ => ?_) (fun _ => ?_)
      · refine ⟨hc2, _, _, [], ?_, ?_, rfl⟩
        · rw [List.length_set]; exact hq
        · refine hset _ ⟨v1, v2, fun h => (by cases h), fun _ => ⟨w1, w2, w3, w4, w5, ?_⟩⟩ ?_ ?_
          · unfold YearsOk at w6 ⊢
            simp only
            omega
          · simp only; omega
          · simp only; omega
      · exact ⟨hc2, _, _, [], hq, fun j hj => by have := hinv j hj; exact ⟨this.1, by omega, by omega⟩, rfl⟩
    | true =>
      obtain ⟨v1, v2, v3, v4⟩ := id hv
      obtain ⟨w1, w2, w3, w4, w5, w6, w7⟩ := v3 hk
      simp +contextual (maxSteps := 1000000) (disch := first | omega | (with_reducible first | refine krN ?_ | refine krS ?_ | refine krP ?_ | refine krG ?_); kernel_rfl | refine kr ?_; simp only [go_sem, reduceCtorEq, hi2, hq0', e1, ixR4, rdR4, wrR4, HPr_set4, hq, hj, encC, hk, List.length_set, List.set_set, get!_set_eq, hjc]; done | fail) only [go_sem, ↓reduceIte, Nat.reduceEqDiff, Nat.reduceAdd, Nat.reduceMul, Nat.reduceLeDiff, Nat.reduceLT, Nat.reduceBEq, bne, reduceCtorEq, Int.reduceLE, Int.reduceToNat, Int.reduceLT, Int.reduceAdd, Int.reduceSub, Int.reduceNeg, Int.cast_ofNat_Int, hi2, hq0', e1, ixR4, rdR4, wrR4, HPr_set4, hq, hj, encC, hk, List.length_set, List.set_set, get!_set_eq, hjc]
      refine WI_of (fun _ => ?_) (fun _ => ?_)
      · refine ⟨hc2, _, _, [], ?_, ?_, rfl⟩
        · rw [List.length_set]; exact hq
        · refine hset _ ⟨w1, w2, fun _ => ⟨v1, v2, fun e => w3 e.symm, w4, w5, w6, w7⟩, fun h => (by cases h)⟩ ?_ ?_
          · show _ ≤ cs[(upR s q).toNat]!.lo
            omega
          · show cs[(upR s q).toNat]!.hi ≤ _
            omega
      · exact ⟨hc2, _, _, [], hq, fun j hj => by have := hinv j hj; exact ⟨this.1, by omega, by omega⟩, rfl⟩
  · have hend : WF (rollD life plo phi T F os ms cs) ∧ Near (rollD life plo phi T F os ms cs) 200 := by
      have hc : ∀ c ∈ cs, ∃ j, j < q ∧ c = cs[j]! := fun c h => by
        obtain ⟨j, hj, rfl⟩ := List.getElem_of_mem h
        exact ⟨j, by omega, (get!_eq hj).symm⟩
      refine ⟨hw0.recs (by omega) fun c h => ?_, hnear, fun c h => ?_⟩
      · obtain ⟨j, hj, rfl⟩ := hc c h
        exact (hinv j hj).1
      · obtain ⟨j, hj, rfl⟩ := hc c h
        have := hinv j hj
        omega
    by_cases hc2 : (i : Int) < 2
    · have hq0 : ¬ 0 < (q : Int) := by omega
      simp +contextual (maxSteps := 1000000) (disch := first | omega | (with_reducible first | refine krN ?_ | refine krS ?_ | refine krP ?_ | refine krG ?_); kernel_rfl | refine kr ?_; simp only [go_sem, reduceCtorEq, hc2, hq0]; done | fail) only [go_sem, ↓reduceIte, Nat.reduceEqDiff, Nat.reduceAdd, Nat.reduceMul, Nat.reduceLeDiff, Nat.reduceLT, Nat.reduceBEq, bne, reduceCtorEq, Int.reduceLE, Int.reduceToNat, Int.reduceLT, Int.reduceAdd, Int.reduceSub, Int.reduceNeg, Int.cast_ofNat_Int, hc2, hq0]
      exact ⟨s, life, plo, phi, T, F, os, ms, cs, bs, ds, ys, hend.1, hend.2, by omega, by omega, hmen, hlp, by rw [hq], rfl, rfl⟩
    · simp +contextual (maxSteps := 1000000) (disch := first | omega | (with_reducible first | refine krN ?_ | refine krS ?_ | refine krP ?_ | refine krG ?_); kernel_rfl | refine kr ?_; simp only [go_sem, reduceCtorEq, hc2]; done | fail) only [go_sem, ↓reduceIte, Nat.reduceEqDiff, Nat.reduceAdd, Nat.reduceMul, Nat.reduceLeDiff, Nat.reduceLT, Nat.reduceBEq, bne, reduceCtorEq, Int.reduceLE, Int.reduceToNat, Int.reduceLT, Int.reduceAdd, Int.reduceSub, Int.reduceNeg, Int.cast_ofNat_Int, hc2]
      exact ⟨s, life, plo, phi, T, F, os, ms, cs, bs, ds, ys, hend.1, hend.2, by omega, by omega, hmen, hlp, by rw [hq], rfl, rfl⟩
theorem spoilt_to {s : Int × Int} {recs : Int} (h3 : 0 ≤ recs) (h4 : recs ≤ 8) : HAns Try.prog (AA b) 30 [.bp 0 0, I recs] (upd noHeap 0 (urnO s)) 1 (fun v hp' nx' => ∃ s life plo phi T F os ms cs bs ds ys, WF (rollD life plo phi T F os ms cs) ∧ Near (rollD life plo phi T F os ms cs) 200 ∧ (cs.length : Int) ≤ recs ∧ 1 ≤ T ∧ (∃ t, Lived (rollD life plo phi T F os ms []) t) ∧
    v = .agg [.own 1 os.length, I life, I plo, I phi, .own 2 T, .own 3 ms.length, .own 4 cs.length] ∧ hp' = HPr ⟨s, os, ms, cs, T, T, F, true, bs, ds, ys⟩ ∧ nx' = 5 + T + 1 + 1 + 1) :=
  HAns.mono (spoilt2_to h3 h4) fun v hp' nx' ⟨s, life, plo, phi, T, F, os, ms, cs, bs, ds, ys, a1, a2, a3, a4, a5, _, a6⟩ => ⟨s, life, plo, phi, T, F, os, ms, cs, bs, ds, ys, a1, a2, a3, a4, a5, a6⟩
end Go.Proofs
namespace Go.Proofs
open Go Go.Idl
set_option linter.unusedSimpArgs false
variable {b : Bool}
def encS (p : Int × Int) : Vl := Sp p.1 p.2
theorem encS_cl (p : Int × Int) : (encS p).closed = true := rfl
theorem spans_enc {k : Kn} {l : List Nat} : spans k l = (l.map fun i => k.getD i (0, 0)).map encS := by unfold spans; rw [List.map_map]; rfl
def yearP (r : Roll) (p : Kn) (i : Nat) : Int × Int := if r.cs[i]!.kin = true then (0, 0) else p.getD (12 + i) (0, 0)
theorem years_enc {r : Roll} {p : Kn} {n : Nat} : (List.range n).map (yearAt r p) = ((List.range n).map (yearP r p)).map encS := by
  rw [List.map_map]
  refine List.map_congr_left fun i _ => ?_
  show yearAt r p i = encS (yearP r p i)
  unfold yearAt yearP
  split <;> rfl
section
variable {m : Mem} {K : Vl → Mem → Prop}
theorem withinS_to {a c x y : Int} (h : x ≤ a ∧ c ≤ y) : Ans Try.prog (AA b) 74 [.agg [I a, I c], .agg [I x, I y]] (fun v => v = .bool true) := by
  refine Ans_of Try.func74 rfl rfl ?_
  obtain ⟨h1, h2⟩ := h
  simp +contextual (maxSteps := 1000000) (disch := first | omega | (with_reducible first | refine krN ?_ | refine krS ?_ | refine krP ?_ | refine krG ?_); kernel_rfl | refine kr ?_; simp only [go_sem, reduceCtorEq, h1, h2]; done | fail) only [go_sem, ↓reduceIte, Nat.reduceEqDiff, Nat.reduceAdd, Nat.reduceMul, Nat.reduceLeDiff, Nat.reduceLT, Nat.reduceBEq, bne, reduceCtorEq, Int.reduceLE, Int.reduceToNat, Int.reduceLT, Int.reduceAdd, Int.reduceSub, Int.reduceNeg, Int.cast_ofNat_Int, h1, h2]
theorem wc74 {a c x y : Int} (h : x ≤ a ∧ c ≤ y) : WC Try.prog (AA b) (.fn (.func 74) [] []) [.v (.agg [I a, I c]), .v (.agg [I x, I y])] m K = K (.bool true) m :=
  WC_flat (by simp only [mkAnn, K74]) (rfAs (xs := [.agg [I a, I c], .agg [I x, I y]]) rfl) (withinS_to h) rfl
def insideP (A B : List (Int × Int)) : Prop := B.length ≤ A.length ∧ ∀ i, i < B.length → (B[i]!).1 ≤ (A[i]!).1 ∧ (A[i]!).2 ≤ (B[i]!).2
theorem inside_to {A B : List (Int × Int)} (hl : A.length ≤ 1000) (h : insideP A B) : Ans Try.prog (AA b) 43 [.lst 2 (A.map encS) false, .lst 2 (B.map encS) false] (fun v => v = .bool true) := by
  refine Ans_of Try.func43 rfl rfl ?_
  obtain ⟨h1, h2⟩ := h
  have hlt : ¬ ((A.length : Int) < (B.length : Int)) := by omega
  simp +contextual (maxSteps := 1000000) (disch := first | omega | (with_reducible first | refine krN ?_ | refine krS ?_ | refine krP ?_ | refine krG ?_); kernel_rfl | refine kr ?_; simp only [go_sem, reduceCtorEq, List.length_map, hlt]; done | fail) only [go_sem, ↓reduceIte, Nat.reduceEqDiff, Nat.reduceAdd, Nat.reduceMul, Nat.reduceLeDiff, Nat.reduceLT, Nat.reduceBEq, bne, reduceCtorEq, Int.reduceLE, Int.reduceToNat, Int.reduceLT, Int.reduceAdd, Int.reduceSub, Int.reduceNeg, Int.cast_ofNat_Int, List.length_map, hlt]
  refine wp_loop_to B.length (fun i st => ∃ (ex : List (Nat × Vl)), st = ({ sl := (0, .lst 2 (A.map encS) false) :: (1, .lst 2 (B.map encS) false) :: (5, I i) :: ex, hp := noHeap, nx := 0 } : FS)) ?_ 0 (Nat.zero_le _) ⟨_, rfl⟩
  rintro i st hi ⟨ex, rfl⟩
  by_cases hc : i < B.length
  · have hca : i < A.length := by omega
    have h3 := h2 i hc
    simp +contextual (maxSteps := 1000000) (disch := first | omega | (with_reducible first | refine krN ?_ | refine krS ?_ | refine krP ?_ | refine krG ?_); kernel_rfl | refine kr ?_; simp only [go_sem, reduceCtorEq, Int.ofNat_lt, hc, hca, ix_lst, List.length_map, encS, wc74, h3]; done | fail) only [go_sem, ↓reduceIte, Nat.reduceEqDiff, Nat.reduceAdd, Nat.reduceMul, Nat.reduceLeDiff, Nat.reduceLT, Nat.reduceBEq, bne, reduceCtorEq, Int.reduceLE, Int.reduceToNat, Int.reduceLT, Int.reduceAdd, Int.reduceSub, Int.reduceNeg, Int.cast_ofNat_Int, Int.ofNat_lt, hc, hca, ix_lst, List.length_map, encS, wc74, h3]
    exact ⟨_, rfl⟩
  · have hie : i = B.length := by omega
    subst hie
    simp +contextual (maxSteps := 1000000) (disch := first | omega | (with_reducible first | refine krN ?_ | refine krS ?_ | refine krP ?_ | refine krG ?_); kernel_rfl | refine kr ?_; simp only [go_sem, reduceCtorEq, Int.lt_irrefl, List.length_map]; done | fail) only [go_sem, ↓reduceIte, Nat.reduceEqDiff, Nat.reduceAdd, Nat.reduceMul, Nat.reduceLeDiff, Nat.reduceLT, Nat.reduceBEq, bne, reduceCtorEq, Int.reduceLE, Int.reduceToNat, Int.reduceLT, Int.reduceAdd, Int.reduceSub, Int.reduceNeg, Int.cast_ofNat_Int, Int.lt_irrefl, List.length_map]
theorem wc43 {A B : List (Int × Int)} (hl : A.length ≤ 1000) (h : insideP A B) : WC Try.prog (AA b) (.fn (.func 43) [] []) [.v (.lst 2 (A.map encS) false), .v (.lst 2 (B.map encS) false)] m K = K (.bool true) m :=
  WC_flat (by simp only [mkAnn, K43]) (rfAs (xs := [.lst 2 (A.map encS) false, .lst 2 (B.map encS) false]) (by show (closedL _ && (closedL _ && true)) = true; rw [closedL_map encS_cl, closedL_map encS_cl]; rfl)) (inside_to hl h) rfl
theorem bin_neSq (x y z w : Int) (h : x = z ∧ y = w) : binOpV { ok := true, agg := true, size := 2, zero := Vl.agg [I 0, I 0], flat := some [CK.i, CK.i], k := TK.struct [(0, false, 1), (1, false, 1)] } .eql (Vl.agg [.int .i64 x, .int .i64 y]) (Vl.agg [.int .i64 z, .int .i64 w]) = some (.bool true) := by
  obtain ⟨rfl, rfl⟩ := h
  simp [binOpV, eqCells, eqCell]
theorem sameSpans_to {A : List (Int × Int)} (hl : A.length ≤ 1000) {o1 o2 : Option Bool} : Ans Try.prog (AA b) 26 [SL 2 (A.map encS) o1, SL 2 (A.map encS) o2] (fun v => v = .bool true) := by
  refine Ans_of Try.func26 rfl rfl ?_
  simp +contextual (maxSteps := 1000000) (disch := first | omega | (with_reducible first | refine krN ?_ | refine krS ?_ | refine krP ?_ | refine krG ?_); kernel_rfl | refine kr ?_; simp only [go_sem, reduceCtorEq, List.length_map]; done | fail) only [go_sem, ↓reduceIte, Nat.reduceEqDiff, Nat.reduceAdd, Nat.reduceMul, Nat.reduceLeDiff, Nat.reduceLT, Nat.reduceBEq, bne, reduceCtorEq, Int.reduceLE, Int.reduceToNat, Int.reduceLT, Int.reduceAdd, Int.reduceSub, Int.reduceNeg, Int.cast_ofNat_Int, List.length_map]
  refine wp_loop_to A.length (fun i st => ∃ (ex : List (Nat × Vl)), st = ({ sl := (0, SL 2 (A.map encS) o1) :: (1, SL 2 (A.map encS) o2) :: (5, .bool true) :: (6, I i) :: ex, hp := noHeap, nx := 0 } : FS)) ?_ 0 (Nat.zero_le _) ⟨_, rfl⟩
  rintro i st hi ⟨ex, rfl⟩
  by_cases hc : i < A.length
  · simp +contextual (maxSteps := 1000000) (disch := first | omega | (with_reducible first | refine krN ?_ | refine krS ?_ | refine krP ?_ | refine krG ?_); kernel_rfl | refine kr ?_; simp only [go_sem, reduceCtorEq, Int.ofNat_lt, hc, ix_map, List.length_map, encS, bin_neSq, and_self]; done | fail) only [go_sem, ↓reduceIte, Nat.reduceEqDiff, Nat.reduceAdd, Nat.reduceMul, Nat.reduceLeDiff, Nat.reduceLT, Nat.reduceBEq, bne, reduceCtorEq, Int.reduceLE, Int.reduceToNat, Int.reduceLT, Int.reduceAdd, Int.reduceSub, Int.reduceNeg, Int.cast_ofNat_Int, Int.ofNat_lt, hc, ix_map, List.length_map, encS, bin_neSq, and_self]
    exact ⟨_, rfl⟩
  · have hie : i = A.length := by omega
    subst hie
    simp +contextual (maxSteps := 1000000) (disch := first | omega | (with_reducible first | refine krN ?_ | refine krS ?_ | refine krP ?_ | refine krG ?_); kernel_rfl | refine kr ?_; simp only [go_sem, reduceCtorEq, Int.lt_irrefl, List.length_map]; done | fail) only [go_sem, ↓reduceIte, Nat.reduceEqDiff, Nat.reduceAdd, Nat.reduceMul, Nat.reduceLeDiff, Nat.reduceLT, Nat.reduceBEq, bne, reduceCtorEq, Int.reduceLE, Int.reduceToNat, Int.reduceLT, Int.reduceAdd, Int.reduceSub, Int.reduceNeg, Int.cast_ofNat_Int, Int.lt_irrefl, List.length_map]
theorem wc26 {A : List (Int × Int)} (hl : A.length ≤ 1000) {o1 o2 : Option Bool} : WC Try.prog (AA b) (.fn (.func 26) [] []) [.v (SL 2 (A.map encS) o1), .v (SL 2 (A.map encS) o2)] m K = K (.bool true) m :=
  WC_flat (by simp only [mkAnn, K26]) (rfAs (xs := [SL 2 (A.map encS) o1, SL 2 (A.map encS) o2]) (by show ((SL 2 (A.map encS) o1).closed && ((SL 2 (A.map encS) o2).closed && true)) = true; rw [closed_SL (closedL_map encS_cl A), closed_SL (closedL_map encS_cl A)]; rfl)) (sameSpans_to hl) rfl
end
end Go.Proofs
