/- What functions of the given program do in the ideal machine (G14, G15, G16), and the plain laws of what they answer; the conditions stand in each theorem. -/
import Derived.Test.YtencmmlmeifffaaGf
set_option linter.all false
set_option linter.unusedSectionVars false
set_option linter.unusedSimpArgs false
set_option linter.unusedVariables false
namespace Go.Proofs
open Go Go.Idl
set_option linter.unusedSimpArgs false
variable {b : Bool}
section
variable {s : Int × Int} {os : List Office} {ms : List Man} {cs : List Rec} {T t nx : Nat} {F : Nat → Nat → Bool} {x : Bool} {bs ds ys : List Int} {lc : List (Nat × Vl)}
theorem ixR4 {n eb : Nat} {ez : Vl} {i : Int} (hn : cs.length = n) (h0 : 0 ≤ i) (hi : i < n) : indexAddrV (.slice 7 eb ez) (.v (.own 4 n)) (.int .i64 i) { lc := lc, hp := HPr ⟨s, os, ms, cs, T, t, F, x, bs, ds, ys⟩, nx := nx } = some (.v (.ep 4 n i.toNat 0), { lc := lc, hp := HPr ⟨s, os, ms, cs, T, t, F, x, bs, ds, ys⟩, nx := nx }) :=
  indexAddr_own HPr_4 (by rw [List.length_map]; exact hn) ⟨h0, hi⟩ (by decide)
theorem rdR4 {n j off sz : Nat} {ag : Bool} (hn : cs.length = n) (hj : j < n) : Mem.read { lc := lc, hp := HPr ⟨s, os, ms, cs, T, t, F, x, bs, ds, ys⟩, nx := nx } ag sz (.v (.ep 4 n j off)) = sub ag sz off (encC cs[j]!) := by
  have hl : (cs.map encC).length = n := by rw [List.length_map]; exact hn
  simp only [Mem.read, HPr_4, hl, if_true]
  rw [List.getElem?_eq_getElem (by rw [hl]; exact hj), List.getElem_map, get!_eq (by omega)]
  rfl
theorem wrR4 {n j off : Nat} {v : Vl} (hn : cs.length = n) (hj : j < n) : Mem.write { lc := lc, hp := HPr ⟨s, os, ms, cs, T, t, F, x, bs, ds, ys⟩, nx := nx } v (.v (.ep 4 n j off)) = (put off v (encC cs[j]!)).map fun c => { lc := lc, hp := upd (HPr ⟨s, os, ms, cs, T, t, F, x, bs, ds, ys⟩) 4 (.arr 7 ((cs.map encC).set j c)), nx := nx } := by
  have hl : (cs.map encC).length = n := by rw [List.length_map]; exact hn
  simp only [Mem.write, HPr_4, hl, if_true]
  rw [List.getElem?_eq_getElem (by rw [hl]; exact hj), List.getElem_map, get!_eq (by omega)]
  rfl
theorem HPr_set4 {j : Nat} {k : Bool} {a o tw c lo hi : Int} : upd (HPr ⟨s, os, ms, cs, T, t, F, x, bs, ds, ys⟩) 4 (.arr 7 ((cs.map encC).set j (.agg [.bool k, .int .i64 a, .int .i64 o, .int .i64 tw, .int .i64 c, .int .i64 lo, .int .i64 hi]))) = HPr ⟨s, os, ms, cs.set j ⟨k, a, o, tw, c, lo, hi⟩, T, t, F, x, bs, ds, ys⟩ := by
  have e : (cs.map encC).set j (.agg [.bool k, .int .i64 a, .int .i64 o, .int .i64 tw, .int .i64 c, .int .i64 lo, .int .i64 hi]) = (cs.set j ⟨k, a, o, tw, c, lo, hi⟩).map encC := by rw [List.map_set]; rfl
  rw [e, HPr_cs]
end
theorem get!_set {α : Type} [Inhabited α] {l : List α} {i j : Nat} {a : α} (h : i < l.length) : (l.set i a)[j]! = if i = j then a else l[j]! := by
  by_cases hj : j < l.length
  · rw [get!_eq (by rw [List.length_set]; exact hj), List.getElem_set, get!_eq hj]
  · rw [getElem!_neg (l.set i a) j (by rw [List.length_set]; exact hj), getElem!_neg l j hj, if_neg (by omega)]
theorem get!_set_eq {α : Type} [Inhabited α] {l : List α} {i : Nat} {a : α} (h : i < l.length) : (l.set i a)[i]! = a := by rw [get!_set h, if_pos rfl]
section
variable {m : Mem} {K : Vl → Mem → Prop}
theorem span_to {lo hi : Int} : Ans Try.prog (AA b) 35 [I lo, I hi] (fun v => v = .agg [I lo, I hi]) := by
  refine Ans_of Try.func35 rfl rfl ?_
  simp +contextual (maxSteps := 1000000) (disch := first | omega | (with_reducible first | refine krN ?_ | refine krS ?_ | refine krP ?_ | refine krG ?_); kernel_rfl | refine kr ?_; simp only [go_sem, reduceCtorEq]; done | fail) only [go_sem, ↓reduceIte, Nat.reduceEqDiff, Nat.reduceAdd, Nat.reduceMul, Nat.reduceLeDiff, Nat.reduceLT, Nat.reduceBEq, bne, reduceCtorEq, Int.reduceLE, Int.reduceToNat, Int.reduceLT, Int.reduceAdd, Int.reduceSub, Int.reduceNeg, Int.cast_ofNat_Int]
theorem wc35 {lo hi : Int} : WC Try.prog (AA b) (.fn (.func 35) [] []) [.v (I lo), .v (I hi)] m K = K (.agg [I lo, I hi]) m := WC_flat (by simp only [mkAnn, K35]) (rfAs (xs := [I lo, I hi]) rfl) span_to rfl
end
attribute [go_sem] wc35
def Near (r : Roll) (B : Int) : Prop := (∀ m ∈ r.ms, -B ≤ m.blo ∧ m.bhi ≤ B ∧ -B ≤ m.dlo ∧ m.dhi ≤ B) ∧ ∀ c ∈ r.cs, -B ≤ c.lo ∧ c.hi ≤ B
theorem WF.recs {life plo phi : Int} {T : Nat} {F : Nat → Nat → Bool} {os : List Office} {ms : List Man} {cs cs' : List Rec} (h : WF (rollD life plo phi T F os ms cs)) (hl : cs'.length ≤ 8) (hc : ∀ c ∈ cs', RecVal (rollD life plo phi T F os ms cs) c) : WF (rollD life plo phi T F os ms cs') :=
  { os_l := h.os_l, os_ok := h.os_ok, life := h.life, par := h.par, fs_l := h.fs_l, fs_ok := h.fs_ok, ms_l := h.ms_l, ms_ok := h.ms_ok, cs_l := hl, cs_ok := hc, names := h.names, diag := h.diag, symm := h.symm }
set_option maxRecDepth 10000 in
set_option maxHeartbeats 4000000 in
theorem spoilt2_to {s : Int × Int} {recs : Int} (h3 : 0 ≤ recs) (h4 : recs ≤ 8) : HAns Try.prog (AA b) 30 [.bp 0 0, I recs] (upd noHeap 0 (urnO s)) 1 (fun v hp' nx' => ∃ s life plo phi T F os ms cs bs ds ys, WF (rollD life plo phi T F os ms cs) ∧ Near (rollD life plo phi T F os ms cs) 200 ∧ (cs.length : Int) ≤ recs ∧ 1 ≤ T ∧ (∃ t, Lived (rollD life plo phi T F os ms []) t) ∧ (life ≤ 60 ∧ phi ≤ 30) ∧
    v = .agg [.own 1 os.length, I life, I plo, I phi, .own 2 T, .own 3 ms.length, .own 4 cs.length] ∧ hp' = HPr ⟨s, os, ms, cs, T, T, F, true, bs, ds, ys⟩ ∧ nx' = 5 + T + 1 + 1 + 1) := by
  refine HAns_of Try.func30 rfl ?_
  simp +contextual (maxSteps := 1000000) (disch := first | omega | (with_reducible first | refine krN ?_ | refine krS ?_ | refine krP ?_ | refine krG ?_); kernel_rfl | refine kr ?_; simp only [go_sem, reduceCtorEq]; done | fail) only [go_sem, ↓reduceIte, Nat.reduceEqDiff, Nat.reduceAdd, Nat.reduceMul, Nat.reduceLeDiff, Nat.reduceLT, Nat.reduceBEq, bne, reduceCtorEq, Int.reduceLE, Int.reduceToNat, Int.reduceLT, Int.reduceAdd, Int.reduceSub, Int.reduceNeg, Int.cast_ofNat_Int]
  refine wc_heap (by simp only [mkAnn, K17]) rfl (rollOf_to (b := b) (s := s) (men := 4) (recs := recs) (by decide) (by decide) h3 h4) ?_
  rintro v hp' nx' ⟨s, life, plo, phi, T, F, os, ms, cs, bs, ds, ys, hR, rfl, rfl, rfl⟩
  have hw := hR.wf (by decide) h4
  have hml : ms.length ≤ 4 := by have := hR.ms_b; omega
  have hml1 : 1 ≤ ms.length := by have := hR.ms_b; omega
  have hT1 := hR.T_b
  have hnear : ∀ m ∈ ms, -200 ≤ m.blo ∧ m.bhi ≤ 200 ∧ -200 ≤ m.dlo ∧ m.dhi ≤ 200 := fun m hm => by
    obtain ⟨j, hj, rfl⟩ := List.getElem_of_mem hm
    have := hR.man j hj
    have hl := hR.life_b
    rw [get!_eq hj] at this
    unfold ManOk at this
    omega
  have hinv : ∀ j, j < cs.length → RecVal (rollD life plo phi T F os ms cs) cs[j]! ∧ -100 ≤ cs[j]!.lo ∧ cs[j]!.hi ≤ 100 := fun j hj => by
    refine ⟨hw.cs_ok _ (get!_mem hj), ?_⟩
    obtain ⟨a1, a2, a3, a4⟩ := hR.recs_ok.1 j hj
    have hbl := hR.bs_l
    have hm := hR.man cs[j]!.man.toNat (by omega)
    have hl := hR.life_b
    unfold ManOk at hm
    cases hk : cs[j]!.kin with
    | true => have := a3 hk; omega
    | false => have := a4 hk; omega
  have hlp : life ≤ 60 ∧ phi ≤ 30 := ⟨hR.life_b.2, hR.phi_b.2⟩
  have hmen : ∃ t, Lived (rollD life plo phi T F os ms []) t := by
    have hbl := hR.bs_l
    have hdl := hR.ds_l
    refine ⟨truthD ms.length 0 bs ds [], fun i hi => ?_, fun i hi => ?_, fun i hi => ?_, fun i hi => absurd hi (Nat.not_lt_zero _), fun i hi => absurd hi (Nat.not_lt_zero _), fun i hi => absurd hi (Nat.not_lt_zero _), fun i k _ hk => absurd hk (Nat.not_lt_zero _), fun i hi hu => ?_⟩
    · have hi : i < ms.length := hi
      have := hR.man i hi
      unfold ManOk at this
      rw [truthD_b hi]
      exact ⟨this.2.2.2.2.2.2.2.1, this.2.2.2.2.2.2.2.2.1⟩
    · have hi : i < ms.length := hi
      have := hR.man i hi
      unfold ManOk at this
      rw [truthD_d (by omega) hi]
      show ms[i]!.dlo ≤ _ ∧ _ ≤ ms[i]!.dhi
      omega
    · have hi : i < ms.length := hi
      have := hR.man i hi
      unfold ManOk at this
      rw [truthD_d (by omega) hi, truthD_b hi]
      show _ ∧ _ ≤ _ + life
      omega
    · have hu : ¬ (i < ms.length ∨ (6 ≤ i ∧ i < 6 + ms.length) ∨ (12 ≤ i ∧ i < 12 + 0)) := hu
      unfold truthD
      rw [if_neg (by omega), if_neg (by omega), if_neg (by omega)]
  obtain ⟨q, hq⟩ : ∃ q, q = cs.length := ⟨_, rfl⟩
  have hq8 : q ≤ 8 := by have := hw.cs_l; have e : (rollD life plo phi T F os ms cs).cs.length = cs.length := rfl; omega
  have hqr : (q : Int) ≤ recs := by have := hR.cs_b; omega
  simp +contextual (maxSteps := 1000000) (disch := first | omega | (with_reducible first | refine krN ?_ | refine krS ?_ | refine krP ?_ | refine krG ?_); kernel_rfl | refine kr ?_; simp only [go_sem, reduceCtorEq]; done | fail) only [go_sem, ↓reduceIte, Nat.reduceEqDiff, Nat.reduceAdd, Nat.reduceMul, Nat.reduceLeDiff, Nat.reduceLT, Nat.reduceBEq, bne, reduceCtorEq, Int.reduceLE, Int.reduceToNat, Int.reduceLT, Int.reduceAdd, Int.reduceSub, Int.reduceNeg, Int.cast_ofNat_Int]
  have hval : ∀ c, RecVal (rollD life plo phi T F os ms cs) c = RecVal (rollD life plo phi T F os ms []) c := fun _ => rfl
  simp only [hval] at hinv
  have hw0 := hw.recs (cs' := []) (by simp) (fun c h => by cases h)
  rw [← hq] at hinv ⊢
  refine wp_loop_to 2 (fun i st => ∃ (s : Int × Int) (cs : List Rec) (ex : List (Nat × Vl)), cs.length = q ∧ (∀ j, j < q → RecVal (rollD life plo phi T F os ms []) cs[j]! ∧ -(100 + 40 * (i : Int)) ≤ cs[j]!.lo ∧ cs[j]!.hi ≤ 100 + 40 * (i : Int)) ∧
    st = ({ sl := (0, .bp 0 0) :: (4, .loc (.agg [.nils, I 0, I 0, I 0, .nils, .nils, .nils])) :: (5, .loc (.agg [.own 1 os.length, I life, I plo, I phi, .own 2 T, .own 3 ms.length, .own 4 q])) :: (7, I i) :: ex, hp := HPr ⟨s, os, ms, cs, T, T, F, true, bs, ds, ys⟩, nx := 5 + T + 1 + 1 + 1 } : FS)) ?_ 0 (Nat.zero_le _) ⟨s, cs, _, hq.symm, by simpa using hinv, rfl⟩
  clear hinv hw hq hR s hval
  rintro i st hi ⟨s, cs, ex, hq, hinv, rfl⟩
  by_cases hc : i < 2 ∧ 0 < q
  · obtain ⟨hc2, hq0⟩ := hc
    have hi2 : (i : Int) < 2 := by omega
    have hq0' : 0 < (q : Int) := by omega
    have e1 := upR_b s (n := (q : Int)) (by omega)
    have hj : (upR s q).toNat < q := by omega
    have hjc : (upR s q).toNat < cs.length := by omega
    obtain ⟨hv, hlo, hhi⟩ := hinv _ hj
    have e2 := fromR_b (upS s q) (lo := -40) (hi := 40) (by omega) (by omega) (by omega) (by omega)
    have hset : ∀ c : Rec, RecVal (rollD life plo phi T F os ms []) c → -(100 + 40 * ((i + 1 : Nat) : Int)) ≤ c.lo → c.hi ≤ 100 + 40 * ((i + 1 : Nat) : Int) → ∀ j, j < q → RecVal (rollD life plo phi T F os ms []) (cs.set (upR s q).toNat c)[j]! ∧ -(100 + 40 * ((i + 1 : Nat) : Int)) ≤ (cs.set (upR s q).toNat c)[j]!.lo ∧ (cs.set (upR s q).toNat c)[j]!.hi ≤ 100 + 40 * ((i + 1 : Nat) : Int) := fun c h1 h2 h3 j hj => by
      rw [get!_set hjc]
      split
      · exact ⟨h1, h2, h3⟩
      · have := hinv j hj
        exact ⟨this.1, by omega, by omega⟩
    cases hk : cs[(upR s q).toNat]!.kin with
    | false =>
      obtain ⟨v1, v2, v3, v4⟩ := id hv
      obtain ⟨w1, w2, w3, w4, w5, w6⟩ := v4 hk
      obtain ⟨w7, w8, w9⟩ := id w6
      simp +contextual (maxSteps := 1000000) (disch := first | omega | (with_reducible first | refine krN ?_ | refine krS ?_ | refine krP ?_ | refine krG ?_); kernel_rfl | refine kr ?_; simp only [go_sem, reduceCtorEq, hi2, hq0', e1, ixR4, rdR4, wrR4, HPr_set4, hq, hj, encC, hk, List.length_set, get!_set_eq, hjc]; done | fail) only [go_sem, ↓reduceIte, Nat.reduceEqDiff, Nat.reduceAdd, Nat.reduceMul, Nat.reduceLeDiff, Nat.reduceLT, Nat.reduceBEq, bne, reduceCtorEq, Int.reduceLE, Int.reduceToNat, Int.reduceLT, Int.reduceAdd, Int.reduceSub, Int.reduceNeg, Int.cast_ofNat_Int, hi2, hq0', e1, ixR4, rdR4, wrR4, HPr_set4, hq, hj, encC, hk, List.length_set, get!_set_eq, hjc]
      refine WI_of (fun _ => ?_) (fun _ => ?_)
      · refine ⟨hc2, _, _, [], ?_, ?_, rfl⟩
        · rw [List.length_set]; exact hq
        · refine hset _ ⟨v1, v2, fun h => (by cases h), fun _ => ⟨w1, w2, w3, w4, w5, ?_⟩⟩ ?_ ?_
          · unfold YearsOk at w6 ⊢
            simp only
            omega
          · simp only; omega
          · simp only; omega
      · exact ⟨hc2, _, _, [], hq, fun j hj => by have := hinv j hj; exact ⟨this.1, by omega, by omega⟩, rfl⟩
    | true =>
      obtain ⟨v1, v2, v3, v4⟩ := id hv
      obtain ⟨w1, w2, w3, w4, w5, w6, w7⟩ := v3 hk
      simp +contextual (maxSteps := 1000000) (disch := first | omega | (with_reducible first | refine krN ?_ | refine krS ?_ | refine krP ?_ | refine krG ?_); kernel_rfl | refine kr ?_; simp only [go_sem, reduceCtorEq, hi2, hq0', e1, ixR4, rdR4, wrR4, HPr_set4, hq, hj, encC, hk, List.length_set, List.set_set, get!_set_eq, hjc]; done | fail) only [go_sem, ↓reduceIte, Nat.reduceEqDiff, Nat.reduceAdd, Nat.reduceMul, Nat.reduceLeDiff, Nat.reduceLT, Nat.reduceBEq, bne, reduceCtorEq, Int.reduceLE, Int.reduceToNat, Int.reduceLT, Int.reduceAdd, Int.reduceSub, Int.reduceNeg, Int.cast_ofNat_Int, hi2, hq0', e1, ixR4, rdR4, wrR4, HPr_set4, hq, hj, encC, hk, List.length_set, List.set_set, get!_set_eq, hjc]
      refine WI_of (fun _ => ?_) (fun _ => ?_)
      · refine ⟨hc2, _, _, [], ?_, ?_, rfl⟩
        · rw [List.length_set]; exact hq
        · refine hset _ ⟨w1, w2, fun _ => ⟨v1, v2, fun e => w3 e.symm, w4, w5, w6, w7⟩, fun h => (by cases h)⟩ ?_ ?_
          · show _ ≤ cs[(upR s q).toNat]!.lo
            omega
          · show cs[(upR s q).toNat]!.hi ≤ _
            omega
      · exact ⟨hc2, _, _, [], hq, fun j hj => by have := hinv j hj; exact ⟨this.1, by omega, by omega⟩, rfl⟩
  · have hend : WF (rollD life plo phi T F os ms cs) ∧ Near (rollD life plo phi T F os ms cs) 200 := by
      have hc : ∀ c ∈ cs, ∃ j, j < q ∧ c = cs[j]! := fun c h => by
        obtain ⟨j, hj, rfl⟩ := List.getElem_of_mem h
        exact ⟨j, by omega, (get!_eq hj).symm⟩
      refine ⟨hw0.recs (by omega) fun c h => ?_, hnear, fun c h => ?_⟩
      · obtain ⟨j, hj, rfl⟩ := hc c h
        exact (hinv j hj).1
      · obtain ⟨j, hj, rfl⟩ := hc c h
        have := hinv j hj
        omega
    by_cases hc2 : (i : Int) < 2
    · have hq0 : ¬ 0 < (q : Int) := by omega
      simp +contextual (maxSteps := 1000000) (disch := first | omega | (with_reducible first | refine krN ?_ | refine krS ?_ | refine krP ?_ | refine krG ?_); kernel_rfl | refine kr ?_; simp only [go_sem, reduceCtorEq, hc2, hq0]; done | fail) only [go_sem, ↓reduceIte, Nat.reduceEqDiff, Nat.reduceAdd, Nat.reduceMul, Nat.reduceLeDiff, Nat.reduceLT, Nat.reduceBEq, bne, reduceCtorEq, Int.reduceLE, Int.reduceToNat, Int.reduceLT, Int.reduceAdd, Int.reduceSub, Int.reduceNeg, Int.cast_ofNat_Int, hc2, hq0]
      exact ⟨s, life, plo, phi, T, F, os, ms, cs, bs, ds, ys, hend.1, hend.2, by omega, by omega, hmen, hlp, by rw [hq], rfl, rfl⟩
    · simp +contextual (maxSteps := 1000000) (disch := first | omega | (with_reducible first | refine krN ?_ | refine krS ?_ | refine krP ?_ | refine krG ?_); kernel_rfl | refine kr ?_; simp only [go_sem, reduceCtorEq, hc2]; done | fail) only [go_sem, ↓reduceIte, Nat.reduceEqDiff, Nat.reduceAdd, Nat.reduceMul, Nat.reduceLeDiff, Nat.reduceLT, Nat.reduceBEq, bne, reduceCtorEq, Int.reduceLE, Int.reduceToNat, Int.reduceLT, Int.reduceAdd, Int.reduceSub, Int.reduceNeg, Int.cast_ofNat_Int, hc2]
      exact ⟨s, life, plo, phi, T, F, os, ms, cs, bs, ds, ys, hend.1, hend.2, by omega, by omega, hmen, hlp, by rw [hq], rfl, rfl⟩
theorem spoilt_to {s : Int × Int} {recs : Int} (h3 : 0 ≤ recs) (h4 : recs ≤ 8) : HAns Try.prog (AA b) 30 [.bp 0 0, I recs] (upd noHeap 0 (urnO s)) 1 (fun v hp' nx' => ∃ s life plo phi T F os ms cs bs ds ys, WF (rollD life plo phi T F os ms cs) ∧ Near (rollD life plo phi T F os ms cs) 200 ∧ (cs.length : Int) ≤ recs ∧ 1 ≤ T ∧ (∃ t, Lived (rollD life plo phi T F os ms []) t) ∧
    v = .agg [.own 1 os.length, I life, I plo, I phi, .own 2 T, .own 3 ms.length, .own 4 cs.length] ∧ hp' = HPr ⟨s, os, ms, cs, T, T, F, true, bs, ds, ys⟩ ∧ nx' = 5 + T + 1 + 1 + 1) :=
  HAns.mono (spoilt2_to h3 h4) fun v hp' nx' ⟨s, life, plo, phi, T, F, os, ms, cs, bs, ds, ys, a1, a2, a3, a4, a5, _, a6⟩ => ⟨s, life, plo, phi, T, F, os, ms, cs, bs, ds, ys, a1, a2, a3, a4, a5, a6⟩
end Go.Proofs
namespace Go.Proofs
open Go Go.Idl
set_option linter.unusedSimpArgs false
variable {b : Bool}
@[reducible] def encL (p : List Nat × Option Bool) : Vl := SL 1 (p.1.map IN) p.2
theorem encL_cl (p : List Nat × Option Bool) : (encL p).closed = true := closed_SL (closedL_map (fun _ => rfl) _)
theorem listV_SL (l : List Nat) : listV l = encL (l, none) := by
  unfold listV encL SL
  cases l <;> rfl
theorem natInt_inj {a c : List Nat} : a.map IN = c.map IN ↔ a = c := by
  constructor
  · intro h
    induction a generalizing c with
    | nil => cases c <;> simp_all
    | cons x a ih => cases c with
      | nil => simp at h
      | cons y c =>
        simp only [List.map_cons, List.cons.injEq] at h
        obtain ⟨h1, h2⟩ := h
        injection h1 with _ h1
        rw [ih h2, Int.natCast_inj.1 h1]
  · rintro rfl; rfl
section
variable {m : Mem} {K : Vl → Mem → Prop}
theorem sameInts_to {a c : List Nat} {o1 o2 : Option Bool} (ha : a.length ≤ 1000) (hc : c.length ≤ 1000) : Ans Try.prog (AA b) 33 [encL (a, o1), encL (c, o2)] (fun v => v = .bool (decide (a = c))) := by
  refine Ans_of Try.func33 rfl rfl ?_
  simp +contextual (maxSteps := 1000000) (disch := first | omega | (with_reducible first | refine krN ?_ | refine krS ?_ | refine krP ?_ | refine krG ?_); kernel_rfl | refine kr ?_; simp only [go_sem, reduceCtorEq, encL, List.length_map]; done | fail) only [go_sem, ↓reduceIte, Nat.reduceEqDiff, Nat.reduceAdd, Nat.reduceMul, Nat.reduceLeDiff, Nat.reduceLT, Nat.reduceBEq, bne, reduceCtorEq, Int.reduceLE, Int.reduceToNat, Int.reduceLT, Int.reduceAdd, Int.reduceSub, Int.reduceNeg, Int.cast_ofNat_Int, encL, List.length_map]
  refine wp_loop_to a.length (fun i st => ∃ (t : Bool) (ex : List (Nat × Vl)), (t = true ↔ a.length = c.length ∧ ∀ j, j < i → a[j]! = c[j]!) ∧ st = ({ sl := (0, SL 1 (a.map IN) o1) :: (1, SL 1 (c.map IN) o2) :: (5, .bool t) :: (6, I i) :: ex, hp := noHeap, nx := 0 } : FS)) ?_ 0 (Nat.zero_le _) ⟨decide (a.length = c.length), [], by simp, by simp [Int.natCast_inj]⟩
  rintro i st hi ⟨t, ex, ht, rfl⟩
  cases t with
  | false =>
    simp +contextual (maxSteps := 1000000) (disch := first | omega | (with_reducible first | refine krN ?_ | refine krS ?_ | refine krP ?_ | refine krG ?_); kernel_rfl | refine kr ?_; simp only [go_sem, reduceCtorEq, List.length_map]; done | fail) only [go_sem, ↓reduceIte, Nat.reduceEqDiff, Nat.reduceAdd, Nat.reduceMul, Nat.reduceLeDiff, Nat.reduceLT, Nat.reduceBEq, bne, reduceCtorEq, Int.reduceLE, Int.reduceToNat, Int.reduceLT, Int.reduceAdd, Int.reduceSub, Int.reduceNeg, Int.cast_ofNat_Int, List.length_map]
    have hne : ¬ a = c := fun e => by
      subst e
      have := ht.2 ⟨rfl, fun _ _ => rfl⟩
      cases this
    rw [decide_eq_false hne]
  | true =>
    obtain ⟨hl, hp⟩ := ht.1 rfl
    by_cases hca : i < a.length
    · have hcc : i < c.length := by omega
      by_cases he : a[i]! = c[i]!
      · simp +contextual (maxSteps := 1000000) (disch := first | omega | (with_reducible first | refine krN ?_ | refine krS ?_ | refine krP ?_ | refine krG ?_); kernel_rfl | refine kr ?_; simp only [go_sem, reduceCtorEq, List.length_map, Int.ofNat_lt, hca, hcc, ix_map, he]; done | fail) only [go_sem, ↓reduceIte, Nat.reduceEqDiff, Nat.reduceAdd, Nat.reduceMul, Nat.reduceLeDiff, Nat.reduceLT, Nat.reduceBEq, bne, reduceCtorEq, Int.reduceLE, Int.reduceToNat, Int.reduceLT, Int.reduceAdd, Int.reduceSub, Int.reduceNeg, Int.cast_ofNat_Int, List.length_map, Int.ofNat_lt, hca, hcc, ix_map, he]
        refine ⟨true, _, ⟨fun _ => ⟨hl, fun j hj => ?_⟩, fun _ => rfl⟩, rfl⟩
        rcases Nat.lt_succ_iff_lt_or_eq.1 hj with hj | rfl
        · exact hp j hj
        · exact he
      · have he' : ¬ ((a[i]! : Int) = (c[i]! : Int)) := fun e => he (Int.natCast_inj.1 e)
        simp +contextual (maxSteps := 1000000) (disch := first | omega | (with_reducible first | refine krN ?_ | refine krS ?_ | refine krP ?_ | refine krG ?_); kernel_rfl | refine kr ?_; simp only [go_sem, reduceCtorEq, List.length_map, Int.ofNat_lt, hca, hcc, ix_map, he']; done | fail) only [go_sem, ↓reduceIte, Nat.reduceEqDiff, Nat.reduceAdd, Nat.reduceMul, Nat.reduceLeDiff, Nat.reduceLT, Nat.reduceBEq, bne, reduceCtorEq, Int.reduceLE, Int.reduceToNat, Int.reduceLT, Int.reduceAdd, Int.reduceSub, Int.reduceNeg, Int.cast_ofNat_Int, List.length_map, Int.ofNat_lt, hca, hcc, ix_map, he']
        exact ⟨false, _, ⟨fun h => (by cases h), fun h => absurd (h.2 i (Nat.lt_succ_self _)) he⟩, rfl⟩
    · have hie : i = a.length := by omega
      subst hie
      simp +contextual (maxSteps := 1000000) (disch := first | omega | (with_reducible first | refine krN ?_ | refine krS ?_ | refine krP ?_ | refine krG ?_); kernel_rfl | refine kr ?_; simp only [go_sem, reduceCtorEq, List.length_map, Int.lt_irrefl]; done | fail) only [go_sem, ↓reduceIte, Nat.reduceEqDiff, Nat.reduceAdd, Nat.reduceMul, Nat.reduceLeDiff, Nat.reduceLT, Nat.reduceBEq, bne, reduceCtorEq, Int.reduceLE, Int.reduceToNat, Int.reduceLT, Int.reduceAdd, Int.reduceSub, Int.reduceNeg, Int.cast_ofNat_Int, List.length_map, Int.lt_irrefl]
      have heq : a = c := by
        apply List.ext_getElem hl
        intro j h1 h2
        have := hp j h1
        rw [get!_eq h1, get!_eq h2] at this
        exact this
      rw [decide_eq_true heq]
theorem wc33 {a c : List Nat} {o1 o2 : Option Bool} (ha : a.length ≤ 1000) (hc : c.length ≤ 1000) : WC Try.prog (AA b) (.fn (.func 33) [] []) [.v (SL 1 (a.map IN) o1), .v (SL 1 (c.map IN) o2)] m K = K (.bool (decide (a = c))) m :=
  WC_flat (by simp only [mkAnn, K33]) (rfAs (xs := [encL (a, o1), encL (c, o2)]) (by show ((encL (a, o1)).closed && ((encL (c, o2)).closed && true)) = true; rw [encL_cl, encL_cl]; rfl)) (sameInts_to ha hc) rfl
set_option maxRecDepth 10000 in
set_option maxHeartbeats 4000000 in
theorem without_to {r : Roll} (hc8 : r.cs.length ≤ 1000) {l : List Nat} (hl : l.length ≤ 1000) {o1 o2 o3 o4 o : Option Bool} : Ans Try.prog (AA b) 45 [encRoll o1 o2 o3 o4 r, encL (l, o)] (fun v => v = encRoll o1 o2 o3 (some false) (dropF r l)) := by
  refine Ans_of Try.func45 rfl rfl ?_
  simp +contextual (maxSteps := 1000000) (disch := first | omega | (with_reducible first | refine krN ?_ | refine krS ?_ | refine krP ?_ | refine krG ?_); kernel_rfl | refine kr ?_; simp only [go_sem, reduceCtorEq, encL]; done | fail) only [go_sem, ↓reduceIte, Nat.reduceEqDiff, Nat.reduceAdd, Nat.reduceMul, Nat.reduceLeDiff, Nat.reduceLT, Nat.reduceBEq, bne, reduceCtorEq, Int.reduceLE, Int.reduceToNat, Int.reduceLT, Int.reduceAdd, Int.reduceSub, Int.reduceNeg, Int.cast_ofNat_Int, encL]
  obtain ⟨Z, hZ⟩ : ∃ Z, Z = Vl.agg [.nils, I 0, I 0, I 0, .nils, .nils, .nils] := ⟨_, rfl⟩
  refine wp_loop_to r.cs.length (fun i st => ∃ (ex : List (Nat × Vl)), st = ({ sl := (1, SL 1 (l.map IN) o) :: (2, .loc (encRoll o1 o2 o3 o4 r)) :: (4, .loc Z) :: (5, .loc (.agg [SL 3 (r.os.map encO) o1, I r.life, I r.plo, I r.phi, SL 1 (r.fs.map encRow) o2, SL 5 (r.ms.map encM) o3, .own 0 (keptTo r l i).length])) :: (6, I i) :: ex, hp := upd noHeap 0 (.arr 7 ((keptTo r l i).map encC)), nx := 1 } : FS)) ?_ 0 (Nat.zero_le _) ⟨_, by rw [hZ]; rfl⟩
  rintro i st hi ⟨ex, rfl⟩
  have hkl : (keptTo r l i).length ≤ i := keptTo_len
  by_cases hc : i < r.cs.length
  · have hsu := @keptTo_succ r l i
    generalize keptTo r l i = ks at hsu hkl
    simp +contextual (maxSteps := 1000000) (disch := first | omega | (with_reducible first | refine krN ?_ | refine krS ?_ | refine krP ?_ | refine krG ?_); kernel_rfl | refine kr ?_; simp only [go_sem, reduceCtorEq, Int.ofNat_lt, hc]; done | fail) only [go_sem, ↓reduceIte, Nat.reduceEqDiff, Nat.reduceAdd, Nat.reduceMul, Nat.reduceLeDiff, Nat.reduceLT, Nat.reduceBEq, bne, reduceCtorEq, Int.reduceLE, Int.reduceToNat, Int.reduceLT, Int.reduceAdd, Int.reduceSub, Int.reduceNeg, Int.cast_ofNat_Int, Int.ofNat_lt, hc]
    refine wp_loop_to l.length (fun k st => ∃ (ex : List (Nat × Vl)), st = ({ sl := (1, SL 1 (l.map IN) o) :: (2, .loc (encRoll o1 o2 o3 o4 r)) :: (4, .loc Z) :: (5, .loc (.agg [SL 3 (r.os.map encO) o1, I r.life, I r.plo, I r.phi, SL 1 (r.fs.map encRow) o2, SL 5 (r.ms.map encM) o3, .own 0 ks.length])) :: (6, I i) :: (7, .bool ((l.take k).contains i)) :: (8, I k) :: ex, hp := upd noHeap 0 (.arr 7 (ks.map encC)), nx := 1 } : FS)) ?_ 0 (Nat.zero_le _) ⟨_, rfl⟩
    rintro k st hk ⟨ex, rfl⟩
    by_cases hck : k < l.length
    · have htk : (l.take (k + 1)).contains i = ((l.take k).contains i || decide (l[k]! = i)) := by
        rw [take_snoc hck, Bool.eq_iff_iff]
        simp only [List.contains_eq_mem, List.mem_append, List.mem_singleton, Bool.or_eq_true, decide_eq_true_eq]
        exact or_congr Iff.rfl eq_comm
      cases ht : (l.take k).contains i with
      | true =>
        rw [ht] at htk
        simp +contextual (maxSteps := 1000000) (disch := first | omega | (with_reducible first | refine krN ?_ | refine krS ?_ | refine krP ?_ | refine krG ?_); kernel_rfl | refine kr ?_; simp only [go_sem, reduceCtorEq, Int.ofNat_lt, hck, List.length_map]; done | fail) only [go_sem, ↓reduceIte, Nat.reduceEqDiff, Nat.reduceAdd, Nat.reduceMul, Nat.reduceLeDiff, Nat.reduceLT, Nat.reduceBEq, bne, reduceCtorEq, Int.reduceLE, Int.reduceToNat, Int.reduceLT, Int.reduceAdd, Int.reduceSub, Int.reduceNeg, Int.cast_ofNat_Int, Int.ofNat_lt, hck, List.length_map]
        exact ⟨_, by rw [htk]; rfl⟩
      | false =>
        rw [ht] at htk
        by_cases he : l[k]! = i
        · simp +contextual (maxSteps := 1000000) (disch := first | omega | (with_reducible first | refine krN ?_ | refine krS ?_ | refine krP ?_ | refine krG ?_); kernel_rfl | refine kr ?_; simp only [go_sem, reduceCtorEq, Int.ofNat_lt, hck, List.length_map, ix_map, he]; done | fail) only [go_sem, ↓reduceIte, Nat.reduceEqDiff, Nat.reduceAdd, Nat.reduceMul, Nat.reduceLeDiff, Nat.reduceLT, Nat.reduceBEq, bne, reduceCtorEq, Int.reduceLE, Int.reduceToNat, Int.reduceLT, Int.reduceAdd, Int.reduceSub, Int.reduceNeg, Int.cast_ofNat_Int, Int.ofNat_lt, hck, List.length_map, ix_map, he]
          exact ⟨_, by rw [htk, decide_eq_true he]; rfl⟩
        · have he' : ¬ ((l[k]! : Int) = (i : Int)) := fun e => he (Int.natCast_inj.1 e)
          simp +contextual (maxSteps := 1000000) (disch := first | omega | (with_reducible first | refine krN ?_ | refine krS ?_ | refine krP ?_ | refine krG ?_); kernel_rfl | refine kr ?_; simp only [go_sem, reduceCtorEq, Int.ofNat_lt, hck, List.length_map, ix_map, he']; done | fail) only [go_sem, ↓reduceIte, Nat.reduceEqDiff, Nat.reduceAdd, Nat.reduceMul, Nat.reduceLeDiff, Nat.reduceLT, Nat.reduceBEq, bne, reduceCtorEq, Int.reduceLE, Int.reduceToNat, Int.reduceLT, Int.reduceAdd, Int.reduceSub, Int.reduceNeg, Int.cast_ofNat_Int, Int.ofNat_lt, hck, List.length_map, ix_map, he']
          exact ⟨_, by rw [htk, decide_eq_false he]; rfl⟩
    · have hke : k = l.length := by omega
      subst hke
      rw [List.take_length]
      cases ht : l.contains i with
      | true =>
        rw [ht] at hsu
        simp only [if_true, List.append_nil] at hsu
        simp +contextual (maxSteps := 1000000) (disch := first | omega | (with_reducible first | refine krN ?_ | refine krS ?_ | refine krP ?_ | refine krG ?_); kernel_rfl | refine kr ?_; simp only [go_sem, reduceCtorEq, Int.lt_irrefl, List.length_map]; done | fail) only [go_sem, ↓reduceIte, Nat.reduceEqDiff, Nat.reduceAdd, Nat.reduceMul, Nat.reduceLeDiff, Nat.reduceLT, Nat.reduceBEq, bne, reduceCtorEq, Int.reduceLE, Int.reduceToNat, Int.reduceLT, Int.reduceAdd, Int.reduceSub, Int.reduceNeg, Int.cast_ofNat_Int, Int.lt_irrefl, List.length_map]
        exact ⟨_, by rw [hsu]⟩
      | false =>
        rw [ht] at hsu
        simp only [Bool.false_eq_true, if_false] at hsu
        have hap : ∀ (x : Vl) (t : Bool), isAppend Try.prog 27 27 (.own 0 ks.length) (.lst 7 [x] t) { lc := [], hp := upd noHeap 0 (.arr 7 (ks.map encC)), nx := 1 } = some (.own 0 (ks.length + 1), { lc := [], hp := upd noHeap 0 (.arr 7 (ks.map encC ++ [x])), nx := 1 }) := fun x t => by
          have h0 : upd noHeap 0 (.arr 7 (ks.map encC)) 0 = .arr 7 (ks.map encC) := upd_same _ _ _
          refine (ap27w (m := { lc := [], hp := upd noHeap 0 (.arr 7 (ks.map encC)), nx := 1 }) h0 (by simp) (by omega)).trans ?_
          simp only [upd_upd]
        simp +contextual (maxSteps := 1000000) (disch := first | omega | (with_reducible first | refine krN ?_ | refine krS ?_ | refine krP ?_ | refine krG ?_); kernel_rfl | refine kr ?_; simp only [go_sem, reduceCtorEq, Int.lt_irrefl, List.length_map, ix_map, hc, encC, hap]; done | fail) only [go_sem, ↓reduceIte, Nat.reduceEqDiff, Nat.reduceAdd, Nat.reduceMul, Nat.reduceLeDiff, Nat.reduceLT, Nat.reduceBEq, bne, reduceCtorEq, Int.reduceLE, Int.reduceToNat, Int.reduceLT, Int.reduceAdd, Int.reduceSub, Int.reduceNeg, Int.cast_ofNat_Int, Int.lt_irrefl, List.length_map, ix_map, hc, encC, hap]
        exact ⟨_, by rw [hsu, List.length_append, List.map_append]; rfl⟩
  · have hie : i = r.cs.length := by omega
    subst hie
    simp +contextual (maxSteps := 1000000) (disch := first | omega | (with_reducible first | refine krN ?_ | refine krS ?_ | refine krP ?_ | refine krG ?_); kernel_rfl | refine kr ?_; simp only [go_sem, reduceCtorEq, Int.lt_irrefl, hZ]; done | fail) only [go_sem, ↓reduceIte, Nat.reduceEqDiff, Nat.reduceAdd, Nat.reduceMul, Nat.reduceLeDiff, Nat.reduceLT, Nat.reduceBEq, bne, reduceCtorEq, Int.reduceLE, Int.reduceToNat, Int.reduceLT, Int.reduceAdd, Int.reduceSub, Int.reduceNeg, Int.cast_ofNat_Int, Int.lt_irrefl, hZ]
    exact OB_intro (rfC (clSL 3 encO clO r.os o1)) (OB_intro (rfC (clSL 1 encRow clRw r.fs o2)) (OB_intro (rfC (clSL 5 encM clM r.ms o3)) (OB_intro (reify_flat (.inl (upd_same _ _ _)) rfl fun _ => rfl) rfl)))
theorem wc45 {r : Roll} (hc8 : r.cs.length ≤ 1000) {l : List Nat} (hl : l.length ≤ 1000) {o1 o2 o3 o4 o : Option Bool} : WC Try.prog (AA b) (.fn (.func 45) [] []) [.v (encRoll o1 o2 o3 o4 r), .v (SL 1 (l.map IN) o)] m K = K (encRoll o1 o2 o3 (some false) (dropF r l)) m :=
  WC_pure (by simp only [mkAnn, K45]) (rfAs (xs := [encRoll o1 o2 o3 o4 r, encL (l, o)]) (by show ((encRoll o1 o2 o3 o4 r).closed && ((encL (l, o)).closed && true)) = true; rw [encL_cl, clRoll]; rfl)) (by
    show (flatL _) = false
    simp only [flatL, Vl.flat, SL, Bool.and_false, Bool.false_and]) (clRoll _ _ _ _ _) (without_to hc8 hl)
theorem apSL {i : Nat} {y : List Nat} {o : Option Bool} {m : Mem} (hy : y.length ≤ 1000) : isAppend Try.prog 32 32 (.lst 1 [I i] true) (SL 1 (y.map IN) o) m = if y = [] then some (.lst 1 [I i] true, m) else some (.own m.nx (y.length + 1), { m with hp := upd m.hp m.nx (.arr 1 ((i :: y).map IN)), nx := m.nx + 1 }) := by
  split
  · rename_i h
    subst h
    unfold isAppend appendV
    rw [td32]
    cases o with
    | none => rfl
    | some x => rfl
  · rename_i h
    obtain ⟨x, hx⟩ : ∃ x, SL 1 (y.map IN) o = .lst 1 (y.map IN) x := by
      cases o with
      | none => exact ⟨false, by cases y <;> first | exact absurd rfl h | rfl⟩
      | some x => exact ⟨x, rfl⟩
    rw [hx]
    exact (ap32l (xs := [i]) h (by simp; omega) rfl).trans (by simp [Nat.add_comm])
theorem ap72w {m : Mem} {id n : Nat} {xs : List Vl} {x : Vl} {o : Bool} (ho : m.hp id = .arr 1 xs) (hn : xs.length = n) (hs : n < 100000) : isAppend Try.prog 72 72 (.own id n) (.lst 1 [x] o) m = some (.own id (n + 1), { m with hp := upd m.hp id (.arr 1 (xs ++ [x])) }) :=
  app1_own (by rw [td72]) ho hn (grow_ok rfl rfl (by decide) (by decide) (by omega))
def LH (hp : Nat → Ob) (nx : Nat) (p : List Nat × Option Bool) (v : Vl) : Prop := v = encL p ∨ ∃ id, 1 ≤ id ∧ id < nx ∧ v = .own id p.1.length ∧ hp id = .arr 1 (p.1.map IN) ∧ p.2 = some false
theorem LH.keep {hp hp' : Nat → Ob} {nx nx' : Nat} {p : List Nat × Option Bool} {v : Vl} (h : LH hp nx p v) (hn : nx ≤ nx') (he : ∀ i, 1 ≤ i → i < nx → hp' i = hp i) : LH hp' nx' p v := by
  rcases h with h | ⟨id, h1, h2, h3, h4, h5⟩
  · exact .inl h
  · exact .inr ⟨id, h1, by omega, h3, by rw [he id h1 h2]; exact h4, h5⟩
inductive LHs (hp : Nat → Ob) (nx : Nat) : List (List Nat × Option Bool) → List Vl → Prop
  | nil : LHs hp nx [] []
  | cons {p : List Nat × Option Bool} {ps : List (List Nat × Option Bool)} {v : Vl} {vs : List Vl} : LH hp nx p v → LHs hp nx ps vs → LHs hp nx (p :: ps) (v :: vs)
theorem LHs.keep {hp hp' : Nat → Ob} {nx nx' : Nat} {ps : List (List Nat × Option Bool)} {vs : List Vl} (h : LHs hp nx ps vs) (hn : nx ≤ nx') (he : ∀ i, 1 ≤ i → i < nx → hp' i = hp i) : LHs hp' nx' ps vs := by
  induction h with
  | nil => exact .nil
  | cons h _ ih => exact .cons (h.keep hn he) ih
theorem LHs.snoc {hp : Nat → Ob} {nx : Nat} {ps : List (List Nat × Option Bool)} {vs : List Vl} {p : List Nat × Option Bool} {v : Vl} (h : LHs hp nx ps vs) (k : LH hp nx p v) : LHs hp nx (ps ++ [p]) (vs ++ [v]) := by
  induction h with
  | nil => exact .cons k .nil
  | cons h _ ih => exact .cons h ih
theorem LHs.len {hp : Nat → Ob} {nx : Nat} {ps : List (List Nat × Option Bool)} {vs : List Vl} (h : LHs hp nx ps vs) : vs.length = ps.length := by
  induction h with
  | nil => rfl
  | cons _ _ ih => simp [ih]
theorem LHs.reify {hp : Nat → Ob} {nx : Nat} {ps : List (List Nat × Option Bool)} {vs : List Vl} (h : LHs hp nx ps vs) : ∃ ks, mapR (reifyF (reifyF closedV hp) hp) vs = some (ps.map encL, ks) := by
  induction h with
  | nil => exact ⟨[], rfl⟩
  | @cons p ps v vs h _ ih =>
    obtain ⟨ks, ih⟩ := ih
    rcases h with rfl | ⟨id, h1, h2, rfl, h4, h5⟩
    · refine ⟨[] ++ ks, ?_⟩
      unfold mapR
      rw [reify_closedV _ (encL_cl _)]
      simp only [Option.bind_some]
      rw [ih]; rfl
    · refine ⟨[id] ++ ks, ?_⟩
      have e : reifyF (reifyF closedV hp) hp (.own id p.1.length) = some (encL p, [id]) := by
        obtain ⟨p1, p2⟩ := p
        simp only at h4 h5
        subst h5
        simp only [reifyF, h4, List.length_map, if_true]
        rw [mapR_map (g := IN) (k := fun _ => []) fun x _ => rfl, flat_nil]
        rfl
      unfold mapR
      rw [e]
      simp only [Option.bind_some]
      rw [ih]; rfl
theorem combs_len : ∀ (l : List Nat) (k : Nat), (combs l k).length ≤ 2 ^ l.length
  | [], 0 => by simp [combs]
  | [], k + 1 => by simp [combs]
  | x :: l, 0 => by
    have := Nat.one_le_two_pow (n := (x :: l).length)
    simpa [combs] using this
  | x :: l, k + 1 => by
    have h1 := combs_len l k
    have h2 := combs_len l (k + 1)
    simp only [combs, List.length_append, List.length_map, List.length_cons, Nat.pow_succ]
    omega
theorem combs_mem {x : List Nat} : ∀ {l : List Nat} {k : Nat}, x ∈ combs l k → x.length = k
  | [], 0, h => by simp [combs] at h; rw [h]; rfl
  | [], k + 1, h => by cases h
  | y :: l, 0, h => by simp [combs] at h; rw [h]; rfl
  | y :: l, k + 1, h => by
    simp only [combs, List.mem_append, List.mem_map] at h
    rcases h with ⟨z, hz, rfl⟩ | h
    · rw [List.length_cons, combs_mem hz]
    · exact combs_mem h
set_option maxRecDepth 10000 in
set_option maxHeartbeats 4000000 in
theorem refLists_to {n : Nat} (hn : n ≤ 8) : ∀ (k a : Nat), k ≤ 8 → a ≤ n → Ans Try.prog (AA b) 44 [I a, I n, I k] (fun v => ∃ (ps : List (List Nat × Option Bool)) (o : Option Bool), ps.map Prod.fst = combs (List.range' a (n - a)) k ∧ v = SL 1 (ps.map encL) o) := by
  intro k
  induction k with
  | zero =>
    intro a _ ha
    refine Ans_of Try.func44 rfl rfl ?_
    simp +contextual (maxSteps := 1000000) (disch := first | omega | (with_reducible first | refine krN ?_ | refine krS ?_ | refine krP ?_ | refine krG ?_); kernel_rfl | refine kr ?_; simp only [go_sem, reduceCtorEq]; done | fail) only [go_sem, ↓reduceIte, Nat.reduceEqDiff, Nat.reduceAdd, Nat.reduceMul, Nat.reduceLeDiff, Nat.reduceLT, Nat.reduceBEq, bne, reduceCtorEq, Int.reduceLE, Int.reduceToNat, Int.reduceLT, Int.reduceAdd, Int.reduceSub, Int.reduceNeg, Int.cast_ofNat_Int]
    exact OB_intro rfl ⟨[([], none)], some true, by rw [combs_zero]; rfl, rfl⟩
  | succ k ih =>
    intro a hk ha
    refine Ans_of Try.func44 rfl rfl ?_
    have hk0 : ¬ (((k + 1 : Nat) : Int) = 0) := by omega
    have hwk : IntKind.wrap .i64 (((k + 1 : Nat) : Int) - 1) = (k : Int) := by rw [wrap_i64 (by omega) (by omega)]; omega
    have hfl : (combs (List.range' a (n - a)) (k + 1)).length ≤ 256 := by
      refine Nat.le_trans (combs_len _ _) ?_
      rw [List.length_range']
      exact Nat.le_trans (Nat.pow_le_pow_right (by decide) (show n - a ≤ 8 by omega)) (by decide)
    generalize hful : combs (List.range' a (n - a)) (k + 1) = full at hfl
    simp +contextual (maxSteps := 1000000) (disch := first | omega | (with_reducible first | refine krN ?_ | refine krS ?_ | refine krP ?_ | refine krG ?_); kernel_rfl | refine kr ?_; simp only [go_sem, reduceCtorEq, hk0]; done | fail) only [go_sem, ↓reduceIte, Nat.reduceEqDiff, Nat.reduceAdd, Nat.reduceMul, Nat.reduceLeDiff, Nat.reduceLT, Nat.reduceBEq, bne, reduceCtorEq, Int.reduceLE, Int.reduceToNat, Int.reduceLT, Int.reduceAdd, Int.reduceSub, Int.reduceNeg, Int.cast_ofNat_Int, hk0]
    refine wp_loop_to n (fun i st => ∃ (ps : List (List Nat × Option Bool)) (vs : List Vl) (hp : Nat → Ob) (nx : Nat) (ex : List (Nat × Vl)), 1 ≤ nx ∧ hp 0 = .arr 1 vs ∧ LHs hp nx ps vs ∧ ps.map Prod.fst ++ combs (List.range' i (n - i)) (k + 1) = full ∧
      st = ({ sl := (1, I n) :: (2, I ((k + 1 : Nat) : Int)) :: (7, .own 0 vs.length) :: (8, I i) :: ex, hp := hp, nx := nx } : FS)) ?_ a ha ⟨[], [], _, _, [], Nat.le_refl _, upd_same _ _ _, .nil, hful, rfl⟩
    clear hful
    rintro i st hi ⟨ps, vs, hp, nx, ex, hn1, h0, hls, hfu, rfl⟩
    by_cases hc : i < n
    · rw [range'_cons hc] at hfu
      simp +contextual (maxSteps := 1000000) (disch := first | omega | (with_reducible first | refine krN ?_ | refine krS ?_ | refine krP ?_ | refine krG ?_); kernel_rfl | refine kr ?_; simp only [go_sem, reduceCtorEq, Int.ofNat_lt, hc, hwk]; done | fail) only [go_sem, ↓reduceIte, Nat.reduceEqDiff, Nat.reduceAdd, Nat.reduceMul, Nat.reduceLeDiff, Nat.reduceLT, Nat.reduceBEq, bne, reduceCtorEq, Int.reduceLE, Int.reduceToNat, Int.reduceLT, Int.reduceAdd, Int.reduceSub, Int.reduceNeg, Int.cast_ofNat_Int, Int.ofNat_lt, hc, hwk]
      refine wc_ans (by simp only [mkAnn, K44]) (rfAs (xs := [I ((i + 1 : Nat) : Int), I n, I k]) rfl) (ih (i + 1) (by omega) (by omega)) ?_
      rintro v ⟨ps2, o2, h2, rfl⟩
      refine ⟨closed_SL (closedL_map encL_cl ps2), ?_⟩
      have hfu2 : ps.map Prod.fst ++ ps2.map (fun p => i :: p.1) ++ combs (List.range' (i + 1) (n - (i + 1))) (k + 1) = full := by
        rw [← hfu, combs, ← h2, List.map_map, List.append_assoc]; rfl
      have hp2l : ps2.length ≤ 256 := by
        have e3 := congrArg List.length hfu2
        simp only [List.length_map, List.length_append] at e3
        omega
      simp +contextual (maxSteps := 1000000) (disch := first | omega | (with_reducible first | refine krN ?_ | refine krS ?_ | refine krP ?_ | refine krG ?_); kernel_rfl | refine kr ?_; simp only [go_sem, reduceCtorEq]; done | fail) only [go_sem, ↓reduceIte, Nat.reduceEqDiff, Nat.reduceAdd, Nat.reduceMul, Nat.reduceLeDiff, Nat.reduceLT, Nat.reduceBEq, bne, reduceCtorEq, Int.reduceLE, Int.reduceToNat, Int.reduceLT, Int.reduceAdd, Int.reduceSub, Int.reduceNeg, Int.cast_ofNat_Int]
      refine wp_loop_to ps2.length (fun j st => ∃ (qs : List (List Nat × Option Bool)) (vs : List Vl) (hp : Nat → Ob) (nx : Nat) (ex : List (Nat × Vl)), 1 ≤ nx ∧ hp 0 = .arr 1 vs ∧ LHs hp nx qs vs ∧ qs.map Prod.fst = ps.map Prod.fst ++ (ps2.take j).map (fun p => i :: p.1) ∧
        st = ({ sl := (1, I n) :: (2, I ((k + 1 : Nat) : Int)) :: (7, .own 0 vs.length) :: (8, I i) :: (9, SL 1 (ps2.map encL) o2) :: (10, I j) :: ex, hp := hp, nx := nx } : FS)) ?_ 0 (Nat.zero_le _) ⟨ps, vs, hp, nx, _, hn1, h0, hls, by simp, rfl⟩
      clear hls h0 hn1
      rintro j st hj ⟨qs, vs, hp, nx, ex, hn1, h0, hls, hqs, rfl⟩
      by_cases hjc : j < ps2.length
      · have hql : vs.length < 1000 := by
          have e1 := hls.len
          have e2 := congrArg List.length hqs
          have e3 := congrArg List.length hfu2
          simp only [List.length_map, List.length_append, List.length_take] at e2 e3
          omega
        have hyl : (ps2[j]!).1.length ≤ 1000 := by
          have := combs_mem (h2 ▸ List.mem_map_of_mem (get!_mem hjc) : (ps2[j]!).1 ∈ combs (List.range' (i + 1) (n - (i + 1))) k)
          omega
        have htk : (ps2.take (j + 1)).map (fun p => i :: p.1) = (ps2.take j).map (fun p => i :: p.1) ++ [i :: (ps2[j]!).1] := by
          rw [take_snoc hjc, List.map_append]; rfl
        have hap := fun m : Mem => apSL (i := i) (y := (ps2[j]!).1) (o := (ps2[j]!).2) (m := m) hyl
        have hap0 : ∀ (o : Option Bool) (m : Mem), isAppend Try.prog 32 32 (.lst 1 [I i] true) (SL 1 [] o) m = some (.lst 1 [I i] true, m) := fun o m => (apSL (y := []) (by simp)).trans (if_pos rfl)
        have hap2 := fun (x : Vl) (t : Bool) => ap72w (m := ⟨[], hp, nx⟩) (x := x) (o := t) h0 rfl (by omega)
        have hap3 := fun (x : Vl) (t : Bool) (o : Ob) => ap72w (m := ⟨[], upd hp nx o, nx + 1⟩) (x := x) (o := t) ((upd_ne _ _ (by omega)).trans h0) rfl (by omega)
        by_cases hy : (ps2[j]!).1 = []
        · simp +contextual (maxSteps := 1000000) (disch := first | omega | (with_reducible first | refine krN ?_ | refine krS ?_ | refine krP ?_ | refine krG ?_); kernel_rfl | refine kr ?_; simp only [go_sem, reduceCtorEq, Int.ofNat_lt, hjc, ix_map, encL, hap0, hap2, hy]; done | fail) only [go_sem, ↓reduceIte, Nat.reduceEqDiff, Nat.reduceAdd, Nat.reduceMul, Nat.reduceLeDiff, Nat.reduceLT, Nat.reduceBEq, bne, reduceCtorEq, Int.reduceLE, Int.reduceToNat, Int.reduceLT, Int.reduceAdd, Int.reduceSub, Int.reduceNeg, Int.cast_ofNat_Int, Int.ofNat_lt, hjc, ix_map, encL, hap0, hap2, hy]
          refine ⟨qs ++ [([i], some true)], vs ++ [.lst 1 [I i] true], _, _, [], hn1, upd_same _ _ _, (hls.keep (Nat.le_refl _) fun i h1 h2 => upd_ne _ _ (by omega)).snoc (.inl rfl), ?_, ?_⟩
          · rw [List.map_append, htk, hqs, hy, List.append_assoc]; rfl
          · rw [List.length_append]; rfl
        · simp only [hy, if_false] at hap
          simp +contextual (maxSteps := 1000000) (disch := first | omega | (with_reducible first | refine krN ?_ | refine krS ?_ | refine krP ?_ | refine krG ?_); kernel_rfl | refine kr ?_; simp only [go_sem, reduceCtorEq, Int.ofNat_lt, hjc, ix_map, encL, hap, hap3]; done | fail) only [go_sem, ↓reduceIte, Nat.reduceEqDiff, Nat.reduceAdd, Nat.reduceMul, Nat.reduceLeDiff, Nat.reduceLT, Nat.reduceBEq, bne, reduceCtorEq, Int.reduceLE, Int.reduceToNat, Int.reduceLT, Int.reduceAdd, Int.reduceSub, Int.reduceNeg, Int.cast_ofNat_Int, Int.ofNat_lt, hjc, ix_map, encL, hap, hap3]
          refine ⟨qs ++ [(i :: (ps2[j]!).1, some false)], vs ++ [.own nx ((ps2[j]!).1.length + 1)], _, _, [], (by omega : 1 ≤ nx + 1), upd_same _ _ _, (hls.keep (Nat.le_succ _) fun i h1 h2 => (upd_ne _ _ (by omega)).trans (upd_ne _ _ (by omega))).snoc (.inr ⟨nx, hn1, Nat.lt_succ_self _, rfl, (upd_ne _ _ (by omega)).trans (upd_same _ _ _), rfl⟩), ?_, ?_⟩
          · rw [List.map_append, htk, hqs, List.append_assoc]; rfl
          · rw [List.length_append]; rfl
      · have hje : j = ps2.length := by omega
        subst hje
        simp +contextual (maxSteps := 1000000) (disch := first | omega | (with_reducible first | refine krN ?_ | refine krS ?_ | refine krP ?_ | refine krG ?_); kernel_rfl | refine kr ?_; simp only [go_sem, reduceCtorEq, Int.lt_irrefl]; done | fail) only [go_sem, ↓reduceIte, Nat.reduceEqDiff, Nat.reduceAdd, Nat.reduceMul, Nat.reduceLeDiff, Nat.reduceLT, Nat.reduceBEq, bne, reduceCtorEq, Int.reduceLE, Int.reduceToNat, Int.reduceLT, Int.reduceAdd, Int.reduceSub, Int.reduceNeg, Int.cast_ofNat_Int, Int.lt_irrefl]
        rw [List.take_length] at hqs
        exact ⟨qs, vs, hp, nx, [], hn1, h0, hls, by rw [hqs]; exact hfu2, rfl⟩
    · have hie : i = n := by omega
      subst hie
      simp +contextual (maxSteps := 1000000) (disch := first | omega | (with_reducible first | refine krN ?_ | refine krS ?_ | refine krP ?_ | refine krG ?_); kernel_rfl | refine kr ?_; simp only [go_sem, reduceCtorEq, Int.lt_irrefl]; done | fail) only [go_sem, ↓reduceIte, Nat.reduceEqDiff, Nat.reduceAdd, Nat.reduceMul, Nat.reduceLeDiff, Nat.reduceLT, Nat.reduceBEq, bne, reduceCtorEq, Int.reduceLE, Int.reduceToNat, Int.reduceLT, Int.reduceAdd, Int.reduceSub, Int.reduceNeg, Int.cast_ofNat_Int, Int.lt_irrefl]
      rw [Nat.sub_self] at hfu
      have hcn : combs (List.range' i 0) (k + 1) = [] := rfl
      rw [hcn, List.append_nil] at hfu
      obtain ⟨ks, hks⟩ := hls.reify
      have e : reify hp (.own 0 vs.length) = some (.lst 1 (ps.map encL) false, 0 :: ks) := by
        unfold reify
        simp only [reifyF, h0, if_true, hks, Option.map_some]
      exact OB_intro e ⟨ps, some false, hfu, rfl⟩
end
end Go.Proofs
namespace Go.Proofs
open Go Go.Idl
set_option linter.unusedSimpArgs false
variable {b : Bool}
theorem WF.drop {r : Roll} (hv : WF r) (l : List Nat) : WF (dropF r l) :=
  { hv.toVal.drop l with names := hv.names, diag := hv.diag, symm := hv.symm }
theorem mayF_iff {r : Roll} (hv : Val r) {l : List Nat} : mayF r l = true ↔ ∃ t, Lived (dropF r l) t := solve_iff' (hv.drop l)
theorem poss_may {r : Roll} (hv : Val r) {l : List Nat} : (possF (dropF r l)).2 = if mayF r l = true then 0 else 9 := by
  unfold possF
  have h : (solveF false (dropF r l)).2 = true ↔ mayF r l = true := (solve_iff' (hv.drop l)).trans (mayF_iff hv).symm
  by_cases hm : mayF r l = true
  · rw [if_pos hm, if_pos (h.2 hm)]
  · rw [if_neg hm, if_neg (fun e => hm (h.1 e))]
theorem combs_all : ∀ (l : List Nat), l ∈ combs l l.length
  | [] => by simp [combs]
  | x :: l => by
    have := combs_all l
    simp [combs, this]
theorem wrong_some {r : Roll} (h : ∃ t, Lived { r with cs := [] } t) (hv : Val r) : ∃ l, wrongF r = some l := by
  have h0 : keptTo r (List.range r.cs.length) r.cs.length = [] := by
    unfold keptTo
    rw [List.map_eq_nil_iff, List.filter_eq_nil_iff]
    intro i hi
    simp only [List.contains_eq_mem, Bool.not_eq_true, Bool.not_eq_false', decide_eq_true_eq]
    exact hi
  have hm : mayF r (List.range r.cs.length) = true := by
    rw [mayF_iff hv]
    have e : dropF r (List.range r.cs.length) = { r with cs := [] } := by unfold dropF; rw [h0]
    rw [e]; exact h
  cases hw : wrongF r with
  | some l => exact ⟨l, rfl⟩
  | none =>
    unfold wrongF at hw
    rw [List.find?_eq_none] at hw
    refine absurd hm (hw _ ?_)
    unfold allLists
    simp only [List.mem_flatten, List.mem_map, List.mem_range]
    refine ⟨_, ⟨r.cs.length, Nat.lt_succ_self _, rfl⟩, ?_⟩
    have := combs_all (List.range r.cs.length)
    rw [List.length_range] at this
    exact this
theorem wrong_len {r : Roll} {l : List Nat} (h : wrongF r = some l) : l.length ≤ r.cs.length ∧ mayF r l = true := by
  unfold wrongF at h
  have h1 := List.mem_of_find?_eq_some h
  have h2 := List.find?_some h
  refine ⟨?_, h2⟩
  unfold allLists at h1
  simp only [List.mem_flatten, List.mem_map, List.mem_range] at h1
  obtain ⟨_, ⟨k, hk, rfl⟩, h1⟩ := h1
  rw [combs_mem h1]; omega
section
variable {s : Int × Int} {life plo phi : Int} {os : List Office} {ms : List Man} {cs : List Rec} {T : Nat} {F : Nat → Nat → Bool} {x : Bool} {bs ds ys : List Int}
theorem enc_rollD : Vl.agg [.lst 3 (os.map encO) false, I life, I plo, I phi, .lst 1 ((rowsL T F).map encRow) false, .lst 5 (ms.map encM) false, .lst 7 (cs.map encC) false] = encRoll (some false) (some false) (some false) (some false) (rollD life plo phi T F os ms cs) := rfl
end
section
variable {m : Mem} {K : Vl → Mem → Prop}
theorem wc44 {n k a : Nat} (hn : n ≤ 8) (hk : k ≤ 8) (ha : a ≤ n) (h : ∀ (ps : List (List Nat × Option Bool)) (o : Option Bool), ps.map Prod.fst = combs (List.range' a (n - a)) k → K (SL 1 (ps.map encL) o) m) : WC Try.prog (AA b) (.fn (.func 44) [] []) [.v (I a), .v (I n), .v (I k)] m K := by
  refine wc_ans (by simp only [mkAnn, K44]) (rfAs (xs := [I a, I n, I k]) rfl) (refLists_to (b := b) hn k a hk ha) ?_
  rintro v ⟨ps, o, h2, rfl⟩
  exact ⟨closed_SL (closedL_map encL_cl ps), h ps o h2⟩
end
set_option maxRecDepth 10000 in
set_option maxHeartbeats 4000000 in
theorem fewest_to {ns : List Int} (hn : ns.length ≤ 9223372036854775807) {o : Option Bool} : Ans Try.prog (AA true) 10 [SL 1 (ns.map I) o] (fun v => v = .bool true) := by
  refine Ans_of Try.func10 rfl rfl ?_
  simp +contextual (maxSteps := 1000000) (disch := first | omega | (with_reducible first | refine krN ?_ | refine krS ?_ | refine krP ?_ | refine krG ?_); kernel_rfl | refine kr ?_; simp only [go_sem, reduceCtorEq]; done | fail) only [go_sem, ↓reduceIte, Nat.reduceEqDiff, Nat.reduceAdd, Nat.reduceMul, Nat.reduceLeDiff, Nat.reduceLT, Nat.reduceBEq, bne, reduceCtorEq, Int.reduceLE, Int.reduceToNat, Int.reduceLT, Int.reduceAdd, Int.reduceSub, Int.reduceNeg, Int.cast_ofNat_Int]
  refine wc_heap (by simp only [mkAnn, K18]) rfl (newUrn_to (b := true) hn) ?_
  rintro v hp' nx' ⟨rfl, rfl, x, y, rfl⟩
  simp +contextual (maxSteps := 1000000) (disch := first | omega | (with_reducible first | refine krN ?_ | refine krS ?_ | refine krP ?_ | refine krG ?_); kernel_rfl | refine kr ?_; simp only [go_sem, reduceCtorEq]; done | fail) only [go_sem, ↓reduceIte, Nat.reduceEqDiff, Nat.reduceAdd, Nat.reduceMul, Nat.reduceLeDiff, Nat.reduceLT, Nat.reduceBEq, bne, reduceCtorEq, Int.reduceLE, Int.reduceToNat, Int.reduceLT, Int.reduceAdd, Int.reduceSub, Int.reduceNeg, Int.cast_ofNat_Int]
  refine wc_heap (by simp only [mkAnn, K30]) rfl (spoilt_to (b := true) (s := (x, y)) (recs := 5) (by decide) (by decide)) ?_
  rintro v hp' nx' ⟨s, life, plo, phi, T, F, os, ms, cs, bs, ds, ys, hw, hnear, hcl, hT1, hmen, rfl, rfl, rfl⟩
  have r1 := rfR1 (s := s) (os := os) (ms := ms) (cs := cs) (T := T) (t := T) (F := F) (x := true) (bs := bs) (ds := ds) (ys := ys) rfl
  have r2 := rfR2 (s := s) (os := os) (ms := ms) (cs := cs) (T := T) (F := F) (x := true) (bs := bs) (ds := ds) (ys := ys)
  have r3 := rfR3 (s := s) (os := os) (ms := ms) (cs := cs) (T := T) (t := T) (F := F) (x := true) (bs := bs) (ds := ds) (ys := ys) rfl
  have r4 := rfR4 (s := s) (os := os) (ms := ms) (cs := cs) (T := T) (t := T) (F := F) (x := true) (bs := bs) (ds := ds) (ys := ys) rfl
  simp +contextual (maxSteps := 1000000) (disch := first | omega | (with_reducible first | refine krN ?_ | refine krS ?_ | refine krP ?_ | refine krG ?_); kernel_rfl | refine kr ?_; simp only [go_sem, reduceCtorEq, r1, r2, r3, r4]; done | fail) only [go_sem, ↓reduceIte, Nat.reduceEqDiff, Nat.reduceAdd, Nat.reduceMul, Nat.reduceLeDiff, Nat.reduceLT, Nat.reduceBEq, bne, reduceCtorEq, Int.reduceLE, Int.reduceToNat, Int.reduceLT, Int.reduceAdd, Int.reduceSub, Int.reduceNeg, Int.cast_ofNat_Int, r1, r2, r3, r4]
  clear r1 r2 r3 r4
  generalize hhk : killHp _ (HPr _) = hk
  rw [enc_rollD]
  obtain ⟨R, hRd⟩ : ∃ R, R = rollD life plo phi T F os ms cs := ⟨_, rfl⟩
  have hR5 : (R.cs.length : Int) ≤ 5 := by rw [hRd]; exact hcl
  obtain ⟨l, hl⟩ := wrong_some (r := R) (by rw [hRd]; exact hmen) (by rw [hRd]; exact hw.toVal)
  obtain ⟨hl5, hlm⟩ := wrong_len hl
  rw [← hRd] at hw ⊢
  clear hmen hnear hcl hhk hRd
  have hwv : wrongV R = .tup [SL 1 (l.map IN) none, I 0] := by unfold wrongV; rw [hl]; simp only; rw [listV_SL]
  refine busy_wc hw fun t => ?_
  cases t with
  | true => simp +contextual (maxSteps := 1000000) (disch := first | omega | (with_reducible first | refine krN ?_ | refine krS ?_ | refine krP ?_ | refine krG ?_); kernel_rfl | refine kr ?_; simp only [go_sem, reduceCtorEq, wc16]; done | fail) only [go_sem, ↓reduceIte, Nat.reduceEqDiff, Nat.reduceAdd, Nat.reduceMul, Nat.reduceLeDiff, Nat.reduceLT, Nat.reduceBEq, bne, reduceCtorEq, Int.reduceLE, Int.reduceToNat, Int.reduceLT, Int.reduceAdd, Int.reduceSub, Int.reduceNeg, Int.cast_ofNat_Int, wc16]
  | false =>
    simp +contextual (maxSteps := 1000000) (disch := first | omega | (with_reducible first | refine krN ?_ | refine krS ?_ | refine krP ?_ | refine krG ?_); kernel_rfl | refine kr ?_; simp only [go_sem, reduceCtorEq, wc16, wc31, hw, hwv]; done | fail) only [go_sem, ↓reduceIte, Nat.reduceEqDiff, Nat.reduceAdd, Nat.reduceMul, Nat.reduceLeDiff, Nat.reduceLT, Nat.reduceBEq, bne, reduceCtorEq, Int.reduceLE, Int.reduceToNat, Int.reduceLT, Int.reduceAdd, Int.reduceSub, Int.reduceNeg, Int.cast_ofNat_Int, wc16, wc31, hw, hwv]
    refine wp_loop_to (R.cs.length + 1) (fun i st => ∃ (ex : List (Nat × Vl)), (∀ k, k < i → ∀ x ∈ combs (List.range R.cs.length) k, mayF R x = false) ∧ st = ({ sl := (3, .loc (encRoll (some false) (some false) (some false) (some false) R)) :: (4, SL 1 (l.map IN) none) :: (6, I i) :: ex, hp := hk, nx := 5 + T + 1 + 1 + 1 } : FS)) ?_ 0 (Nat.zero_le _) ⟨_, fun k h => absurd h (Nat.not_lt_zero _), rfl⟩
    rintro i st hi ⟨ex, hno, rfl⟩
    by_cases hc : i < R.cs.length + 1
    · have hc' : (i : Int) ≤ (R.cs.length : Int) := by omega
      simp +contextual (maxSteps := 1000000) (disch := first | omega | (with_reducible first | refine krN ?_ | refine krS ?_ | refine krP ?_ | refine krG ?_); kernel_rfl | refine kr ?_; simp only [go_sem, reduceCtorEq, hc']; done | fail) only [go_sem, ↓reduceIte, Nat.reduceEqDiff, Nat.reduceAdd, Nat.reduceMul, Nat.reduceLeDiff, Nat.reduceLT, Nat.reduceBEq, bne, reduceCtorEq, Int.reduceLE, Int.reduceToNat, Int.reduceLT, Int.reduceAdd, Int.reduceSub, Int.reduceNeg, Int.cast_ofNat_Int, hc']
      refine wc44 (a := 0) (by omega) (by omega) (Nat.zero_le _) fun ps op hps => ?_
      have hpl : ps.length ≤ 256 := by
        have e := congrArg List.length hps
        rw [List.length_map] at e
        rw [e]
        refine Nat.le_trans (combs_len _ _) ?_
        rw [List.length_range']
        exact Nat.le_trans (Nat.pow_le_pow_right (by decide) (show R.cs.length - 0 ≤ 8 by omega)) (by decide)
      have hps : ps.map Prod.fst = combs (List.range R.cs.length) i := by rw [hps, List.range_eq_range']; rfl
      simp +contextual (maxSteps := 1000000) (disch := first | omega | (with_reducible first | refine krN ?_ | refine krS ?_ | refine krP ?_ | refine krG ?_); kernel_rfl | refine kr ?_; simp only [go_sem, reduceCtorEq]; done | fail) only [go_sem, ↓reduceIte, Nat.reduceEqDiff, Nat.reduceAdd, Nat.reduceMul, Nat.reduceLeDiff, Nat.reduceLT, Nat.reduceBEq, bne, reduceCtorEq, Int.reduceLE, Int.reduceToNat, Int.reduceLT, Int.reduceAdd, Int.reduceSub, Int.reduceNeg, Int.cast_ofNat_Int]
      refine wp_loop_to ps.length (fun j st => ∃ (ex : List (Nat × Vl)), (∀ k, k < j → mayF R (ps[k]!).1 = false) ∧ st = ({ sl := (3, .loc (encRoll (some false) (some false) (some false) (some false) R)) :: (4, SL 1 (l.map IN) none) :: (6, I i) :: (7, SL 1 (ps.map encL) op) :: (8, I j) :: ex, hp := hk, nx := 5 + T + 1 + 1 + 1 } : FS)) ?_ 0 (Nat.zero_le _) ⟨_, fun k h => absurd h (Nat.not_lt_zero _), rfl⟩
      clear ex
      rintro j st hj ⟨ex, hnj, rfl⟩
      by_cases hjc : j < ps.length
      · have hmem : (ps[j]!).1 ∈ combs (List.range R.cs.length) i := hps ▸ List.mem_map_of_mem (get!_mem hjc)
        have hpj := combs_mem hmem
        have hpj2 : (ps[j]!).1.length ≤ 1000 := by omega
        have hl2 : l.length ≤ 1000 := by omega
        have hc8 : R.cs.length ≤ 1000 := by omega
        have hwd := hw.drop (ps[j]!).1
        have hpm := poss_may hw.toVal (l := (ps[j]!).1)
        have hlv := livesV.eq_1 (dropF R (ps[j]!).1)
        cases hm : mayF R (ps[j]!).1 with
        | true =>
          rw [hm, if_pos rfl] at hpm
          rw [hpm, if_pos rfl] at hlv
          have hleq : l = (ps[j]!).1 := by
            have hpr : combs (List.range R.cs.length) i = (ps.take j).map Prod.fst ++ (ps[j]!).1 :: (ps.drop (j + 1)).map Prod.fst := by
              rw [← hps, ← List.map_cons, ← List.map_append]
              congr 1
              rw [get!_eq hjc, ← List.drop_eq_getElem_cons hjc, List.take_append_drop]
            have h2 := find_wrong hc hno hpr (fun x hx => by
              obtain ⟨p, hp, rfl⟩ := List.mem_map.1 hx
              obtain ⟨k, hk, rfl⟩ := List.getElem_of_mem hp
              rw [List.length_take] at hk
              have := hnj k (by omega)
              rw [get!_eq (by omega)] at this
              rw [List.getElem_take]; exact this) hm
            unfold wrongF at hl
            rw [h2] at hl
            exact (Option.some.inj hl).symm
          have hd : decide (l = (ps[j]!).1) = true := decide_eq_true hleq
          simp +contextual (maxSteps := 1000000) (disch := first | omega | (with_reducible first | refine krN ?_ | refine krS ?_ | refine krP ?_ | refine krG ?_); kernel_rfl | refine kr ?_; simp only [go_sem, reduceCtorEq, Int.ofNat_lt, hjc, ix_map, wc45, hc8, hpj2, wc20, hwd, hlv, wc33, hl2, hd, wc16]; done | fail) only [go_sem, ↓reduceIte, Nat.reduceEqDiff, Nat.reduceAdd, Nat.reduceMul, Nat.reduceLeDiff, Nat.reduceLT, Nat.reduceBEq, bne, reduceCtorEq, Int.reduceLE, Int.reduceToNat, Int.reduceLT, Int.reduceAdd, Int.reduceSub, Int.reduceNeg, Int.cast_ofNat_Int, Int.ofNat_lt, hjc, ix_map, wc45, hc8, hpj2, wc20, hwd, hlv, wc33, hl2, hd, wc16]
        | false =>
          rw [hm, if_neg (by decide)] at hpm
          rw [hpm, if_neg (by decide)] at hlv
          have h90 : ¬ ((9 : Int) = 0) := by decide
          simp +contextual (maxSteps := 1000000) (disch := first | omega | (with_reducible first | refine krN ?_ | refine krS ?_ | refine krP ?_ | refine krG ?_); kernel_rfl | refine kr ?_; simp only [go_sem, reduceCtorEq, Int.ofNat_lt, hjc, ix_map, wc45, hc8, hpj2, wc20, hwd, hlv, h90]; done | fail) only [go_sem, ↓reduceIte, Nat.reduceEqDiff, Nat.reduceAdd, Nat.reduceMul, Nat.reduceLeDiff, Nat.reduceLT, Nat.reduceBEq, bne, reduceCtorEq, Int.reduceLE, Int.reduceToNat, Int.reduceLT, Int.reduceAdd, Int.reduceSub, Int.reduceNeg, Int.cast_ofNat_Int, Int.ofNat_lt, hjc, ix_map, wc45, hc8, hpj2, wc20, hwd, hlv, h90]
          refine ⟨_, fun k hk => ?_, rfl⟩
          rcases Nat.lt_succ_iff_lt_or_eq.1 hk with hk | rfl
          · exact hnj k hk
          · exact hm
      · have hje : j = ps.length := by omega
        subst hje
        simp +contextual (maxSteps := 1000000) (disch := first | omega | (with_reducible first | refine krN ?_ | refine krS ?_ | refine krP ?_ | refine krG ?_); kernel_rfl | refine kr ?_; simp only [go_sem, reduceCtorEq, Int.lt_irrefl]; done | fail) only [go_sem, ↓reduceIte, Nat.reduceEqDiff, Nat.reduceAdd, Nat.reduceMul, Nat.reduceLeDiff, Nat.reduceLT, Nat.reduceBEq, bne, reduceCtorEq, Int.reduceLE, Int.reduceToNat, Int.reduceLT, Int.reduceAdd, Int.reduceSub, Int.reduceNeg, Int.cast_ofNat_Int, Int.lt_irrefl]
        refine ⟨hc, _, fun k hk x hx => ?_, rfl⟩
        rcases Nat.lt_succ_iff_lt_or_eq.1 hk with hk | rfl
        · exact hno k hk x hx
        · rw [← hps] at hx
          obtain ⟨p, hp, rfl⟩ := List.mem_map.1 hx
          obtain ⟨j, hj, rfl⟩ := List.getElem_of_mem hp
          have := hnj j hj
          rw [get!_eq hj] at this
          exact this
    · have hc' : ¬ ((i : Int) ≤ (R.cs.length : Int)) := by omega
      exfalso
      have := find_none (n := R.cs.length) (p := mayF R) fun k hk => hno k (by omega)
      unfold wrongF at hl
      rw [this] at hl
      cases hl
end Go.Proofs
