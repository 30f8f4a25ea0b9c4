/- What functions of the given program do in the ideal machine (G14, G15, G17, G18, G19c, G21a), and the plain laws of what they answer; the conditions stand in each theorem. -/
import Derived.Test.YtencmmlmeifffaaGf
set_option linter.all false
set_option linter.unusedSectionVars false
set_option linter.unusedSimpArgs false
set_option linter.unusedVariables false
namespace Go.Proofs
open Go Go.Idl
set_option linter.unusedSimpArgs false
variable {b : Bool}
section
variable {s : Int × Int} {os : List Office} {ms : List Man} {cs : List Rec} {T t nx : Nat} {F : Nat → Nat → Bool} {x : Bool} {bs ds ys : List Int} {lc : List (Nat × Vl)}
theorem ixR4 {n eb : Nat} {ez : Vl} {i : Int} (hn : cs.length = n) (h0 : 0 ≤ i) (hi : i < n) : indexAddrV (.slice 7 eb ez) (.v (.own 4 n)) (.int .i64 i) { lc := lc, hp := HPr ⟨s, os, ms, cs, T, t, F, x, bs, ds, ys⟩, nx := nx } = some (.v (.ep 4 n i.toNat 0), { lc := lc, hp := HPr ⟨s, os, ms, cs, T, t, F, x, bs, ds, ys⟩, nx := nx }) :=
  indexAddr_own HPr_4 (by rw [List.length_map]; exact hn) ⟨h0, hi⟩ (by decide)
theorem rdR4 {n j off sz : Nat} {ag : Bool} (hn : cs.length = n) (hj : j < n) : Mem.read { lc := lc, hp := HPr ⟨s, os, ms, cs, T, t, F, x, bs, ds, ys⟩, nx := nx } ag sz (.v (.ep 4 n j off)) = sub ag sz off (encC cs[j]!) := by
  have hl : (cs.map encC).length = n := by rw [List.length_map]; exact hn
  simp only [Mem.read, HPr_4, hl, if_true]
  rw [List.getElem?_eq_getElem (by rw [hl]; exact hj), List.getElem_map, get!_eq (by omega)]
  rfl
theorem wrR4 {n j off : Nat} {v : Vl} (hn : cs.length = n) (hj : j < n) : Mem.write { lc := lc, hp := HPr ⟨s, os, ms, cs, T, t, F, x, bs, ds, ys⟩, nx := nx } v (.v (.ep 4 n j off)) = (put off v (encC cs[j]!)).map fun c => { lc := lc, hp := upd (HPr ⟨s, os, ms, cs, T, t, F, x, bs, ds, ys⟩) 4 (.arr 7 ((cs.map encC).set j c)), nx := nx } := by
  have hl : (cs.map encC).length = n := by rw [List.length_map]; exact hn
  simp only [Mem.write, HPr_4, hl, if_true]
  rw [List.getElem?_eq_getElem (by rw [hl]; exact hj), List.getElem_map, get!_eq (by omega)]
  rfl
theorem HPr_set4 {j : Nat} {k : Bool} {a o tw c lo hi : Int} : upd (HPr ⟨s, os, ms, cs, T, t, F, x, bs, ds, ys⟩) 4 (.arr 7 ((cs.map encC).set j (.agg [.bool k, .int .i64 a, .int .i64 o, .int .i64 tw, .int .i64 c, .int .i64 lo, .int .i64 hi]))) = HPr ⟨s, os, ms, cs.set j ⟨k, a, o, tw, c, lo, hi⟩, T, t, F, x, bs, ds, ys⟩ := by
  have e : (cs.map encC).set j (.agg [.bool k, .int .i64 a, .int .i64 o, .int .i64 tw, .int .i64 c, .int .i64 lo, .int .i64 hi]) = (cs.set j ⟨k, a, o, tw, c, lo, hi⟩).map encC := by rw [List.map_set]; rfl
  rw [e, HPr_cs]
end
theorem get!_set {α : Type} [Inhabited α] {l : List α} {i j : Nat} {a : α} (h : i < l.length) : (l.set i a)[j]! = if i = j then a else l[j]! := by
  by_cases hj : j < l.length
  · rw [get!_eq (by rw [List.length_set]; exact hj), List.getElem_set, get!_eq hj]
  · rw [getElem!_neg (l.set i a) j (by rw [List.length_set]; exact hj), getElem!_neg l j hj, if_neg (by omega)]
theorem get!_set_eq {α : Type} [Inhabited α] {l : List α} {i : Nat} {a : α} (h : i < l.length) : (l.set i a)[i]! = a := by rw [get!_set h, if_pos rfl]
section
variable {m : Mem} {K : Vl → Mem → Prop}
theorem span_to {lo hi : Int} : Ans Try.prog (AA b) 35 [I lo, I hi] (fun v => v = .agg [I lo, I hi]) := by
  refine Ans_of Try.func35 rfl rfl ?_
  simp +contextual (maxSteps := 1000000) (disch := first | omega | (with_reducible first | refine krN ?_ | refine krS ?_ | refine krP ?_ | refine krG ?_); kernel_rfl | refine kr ?_; simp only [go_sem, reduceCtorEq]; done | fail) only [go_sem, seval, -List.reduceReplicate]
theorem wc35 {lo hi : Int} : WC Try.prog (AA b) (.fn (.func 35) [] []) [.v (I lo), .v (I hi)] m K = K (.agg [I lo, I hi]) m := WC_flat (by simp only [mkAnn, K35]) (rfAs (xs := [I lo, I hi]) rfl) span_to rfl
end
attribute [go_sem] wc35
def Near (r : Roll) (B : Int) : Prop := (∀ m ∈ r.ms, -B ≤ m.blo ∧ m.bhi ≤ B ∧ -B ≤ m.dlo ∧ m.dhi ≤ B) ∧ ∀ c ∈ r.cs, -B ≤ c.lo ∧ c.hi ≤ B
theorem WF.recs {life plo phi : Int} {T : Nat} {F : Nat → Nat → Bool} {os : List Office} {ms : List Man} {cs cs' : List Rec} (h : WF (rollD life plo phi T F os ms cs)) (hl : cs'.length ≤ 8) (hc : ∀ c ∈ cs', RecVal (rollD life plo phi T F os ms cs) c) : WF (rollD life plo phi T F os ms cs') :=
  { os_l := h.os_l, os_ok := h.os_ok, life := h.life, par := h.par, fs_l := h.fs_l, fs_ok := h.fs_ok, ms_l := h.ms_l, ms_ok := h.ms_ok, cs_l := hl, cs_ok := hc, names := h.names, diag := h.diag, symm := h.symm }
theorem killHp_low0 {s : Int × Int} {os : List Office} {ms : List Man} {cs : List Rec} {T : Nat} {F : Nat → Nat → Bool} {x : Bool} {bs ds ys : List Int} {hk : Nat → Ob} (hT : 1 ≤ T)
    (h : killHp (1 :: 2 :: (((List.range T).map fun j => [5 + j]).flatten ++ [3, 4])) (HPr ⟨s, os, ms, cs, T, T, F, x, bs, ds, ys⟩) = hk) : hk 0 = urnO s := by
  rw [← h]
  rw [killHp_ne (by
    simp only [List.mem_cons, List.mem_append, List.mem_flatten, List.mem_map, List.mem_range, List.not_mem_nil, or_false, not_or]
    refine ⟨by omega, by omega, ?_, by omega, by omega⟩
    rintro ⟨l, ⟨j, hj, rfl⟩, hm⟩
    rw [List.mem_singleton] at hm
    omega)]
  exact HPr_0
set_option maxRecDepth 10000 in
set_option maxHeartbeats 4000000 in
theorem spoilt2_to {s : Int × Int} {recs : Int} (h3 : 0 ≤ recs) (h4 : recs ≤ 8) : HAns Try.prog (AA b) 30 [.bp 0 0, I recs] (upd noHeap 0 (urnO s)) 1 (fun v hp' nx' => ∃ life plo phi T F os ms cs, WF (rollD life plo phi T F os ms cs) ∧ Near (rollD life plo phi T F os ms cs) 200 ∧ (cs.length : Int) ≤ recs ∧ 1 ≤ T ∧ (∃ t, Lived (rollD life plo phi T F os ms []) t) ∧ (life ≤ 60 ∧ phi ≤ 30) ∧
    v = encRoll (some false) (some false) (some false) (some false) (rollD life plo phi T F os ms cs) ∧ 0 < nx' ∧ ∃ s, hp' 0 = urnO s) := by
  refine HAns_of Try.func30 rfl ?_
  simp +contextual (maxSteps := 1000000) (disch := first | omega | (with_reducible first | refine krN ?_ | refine krS ?_ | refine krP ?_ | refine krG ?_); kernel_rfl | refine kr ?_; simp only [go_sem, reduceCtorEq]; done | fail) only [go_sem, seval, -List.reduceReplicate]
  refine wc_heap (by simp only [mkAnn, K17]) rfl (rollOf_to (b := b) (s := s) (men := 4) (recs := recs) (by decide) (by decide) h3 h4) ?_
  rintro v hp' nx' ⟨s, life, plo, phi, T, F, os, ms, cs, bs, ds, ys, hR, rfl, rfl, rfl⟩
  have hw := hR.wf (by decide) h4
  have hml : ms.length ≤ 4 := by have := hR.ms_b; omega
  have hml1 : 1 ≤ ms.length := by have := hR.ms_b; omega
  have hT1 := hR.T_b
  have hnear : ∀ m ∈ ms, -200 ≤ m.blo ∧ m.bhi ≤ 200 ∧ -200 ≤ m.dlo ∧ m.dhi ≤ 200 := fun m hm => by
    obtain ⟨j, hj, rfl⟩ := List.getElem_of_mem hm
    have := hR.man j hj
    have hl := hR.life_b
    rw [get!_eq hj] at this
    unfold ManOk at this
    omega
  have hinv : ∀ j, j < cs.length → RecVal (rollD life plo phi T F os ms cs) cs[j]! ∧ -100 ≤ cs[j]!.lo ∧ cs[j]!.hi ≤ 100 := fun j hj => by
    refine ⟨hw.cs_ok _ (get!_mem hj), ?_⟩
    obtain ⟨a1, a2, a3, a4⟩ := hR.recs_ok.1 j hj
    have hbl := hR.bs_l
    have hm := hR.man cs[j]!.man.toNat (by omega)
    have hl := hR.life_b
    unfold ManOk at hm
    cases hk : cs[j]!.kin with
    | true => have := a3 hk; omega
    | false => have := a4 hk; omega
  have hlp : life ≤ 60 ∧ phi ≤ 30 := ⟨hR.life_b.2, hR.phi_b.2⟩
  have hmen : ∃ t, Lived (rollD life plo phi T F os ms []) t := by
    have hbl := hR.bs_l
    have hdl := hR.ds_l
    refine ⟨truthD ms.length 0 bs ds [], fun i hi => ?_, fun i hi => ?_, fun i hi => ?_, fun i hi => absurd hi (Nat.not_lt_zero _), fun i hi => absurd hi (Nat.not_lt_zero _), fun i hi => absurd hi (Nat.not_lt_zero _), fun i k _ hk => absurd hk (Nat.not_lt_zero _), fun i hi hu => ?_⟩
    · have hi : i < ms.length := hi
      have := hR.man i hi
      unfold ManOk at this
      rw [truthD_b hi]
      exact ⟨this.2.2.2.2.2.2.2.1, this.2.2.2.2.2.2.2.2.1⟩
    · have hi : i < ms.length := hi
      have := hR.man i hi
      unfold ManOk at this
      rw [truthD_d (by omega) hi]
      show ms[i]!.dlo ≤ _ ∧ _ ≤ ms[i]!.dhi
      omega
    · have hi : i < ms.length := hi
      have := hR.man i hi
      unfold ManOk at this
      rw [truthD_d (by omega) hi, truthD_b hi]
      show _ ∧ _ ≤ _ + life
      omega
    · have hu : ¬ (i < ms.length ∨ (6 ≤ i ∧ i < 6 + ms.length) ∨ (12 ≤ i ∧ i < 12 + 0)) := hu
      unfold truthD
      rw [if_neg (by omega), if_neg (by omega), if_neg (by omega)]
  obtain ⟨q, hq⟩ : ∃ q, q = cs.length := ⟨_, rfl⟩
  have hq8 : q ≤ 8 := by have := hw.cs_l; have e : (rollD life plo phi T F os ms cs).cs.length = cs.length := rfl; omega
  have hqr : (q : Int) ≤ recs := by have := hR.cs_b; omega
  simp +contextual (maxSteps := 1000000) (disch := first | omega | (with_reducible first | refine krN ?_ | refine krS ?_ | refine krP ?_ | refine krG ?_); kernel_rfl | refine kr ?_; simp only [go_sem, reduceCtorEq]; done | fail) only [go_sem, seval, -List.reduceReplicate]
  have hval : ∀ c, RecVal (rollD life plo phi T F os ms cs) c = RecVal (rollD life plo phi T F os ms []) c := fun _ => rfl
  simp only [hval] at hinv
  have hw0 := hw.recs (cs' := []) (by simp) (fun c h => by cases h)
  rw [← hq] at hinv ⊢
  refine wp_loop_to 2 (fun i st => ∃ (s : Int × Int) (cs : List Rec) (ex : List (Nat × Vl)), cs.length = q ∧ (∀ j, j < q → RecVal (rollD life plo phi T F os ms []) cs[j]! ∧ -(100 + 40 * (i : Int)) ≤ cs[j]!.lo ∧ cs[j]!.hi ≤ 100 + 40 * (i : Int)) ∧
    st = ({ sl := (0, .bp 0 0) :: (4, .loc (.agg [.nils, I 0, I 0, I 0, .nils, .nils, .nils])) :: (5, .loc (.agg [.own 1 os.length, I life, I plo, I phi, .own 2 T, .own 3 ms.length, .own 4 q])) :: (7, I i) :: ex, hp := HPr ⟨s, os, ms, cs, T, T, F, true, bs, ds, ys⟩, nx := 5 + T + 1 + 1 + 1 } : FS)) ?_ 0 (Nat.zero_le _) ⟨s, cs, _, hq.symm, by simpa using hinv, rfl⟩
  clear hinv hw hq hR s hval
  rintro i st hi ⟨s, cs, ex, hq, hinv, rfl⟩
  by_cases hc : i < 2 ∧ 0 < q
  · obtain ⟨hc2, hq0⟩ := hc
    have hi2 : (i : Int) < 2 := by omega
    have hq0' : 0 < (q : Int) := by omega
    have e1 := upR_b s (n := (q : Int)) (by omega)
    have hj : (upR s q).toNat < q := by omega
    have hjc : (upR s q).toNat < cs.length := by omega
    obtain ⟨hv, hlo, hhi⟩ := hinv _ hj
    have e2 := fromR_b (upS s q) (lo := -40) (hi := 40) (by omega) (by omega) (by omega) (by omega)
    have hset : ∀ c : Rec, RecVal (rollD life plo phi T F os ms []) c → -(100 + 40 * ((i + 1 : Nat) : Int)) ≤ c.lo → c.hi ≤ 100 + 40 * ((i + 1 : Nat) : Int) → ∀ j, j < q → RecVal (rollD life plo phi T F os ms []) (cs.set (upR s q).toNat c)[j]! ∧ -(100 + 40 * ((i + 1 : Nat) : Int)) ≤ (cs.set (upR s q).toNat c)[j]!.lo ∧ (cs.set (upR s q).toNat c)[j]!.hi ≤ 100 + 40 * ((i + 1 : Nat) : Int) := fun c h1 h2 h3 j hj => by
      rw [get!_set hjc]
      split
      · exact ⟨h1, h2, h3⟩
      · have := hinv j hj
        exact ⟨this.1, by omega, by omega⟩
    cases hk : cs[(upR s q).toNat]!.kin with
    | false =>
      obtain ⟨v1, v2, v3, v4⟩ := id hv
      obtain ⟨w1, w2, w3, w4, w5, w6⟩ := v4 hk
      obtain ⟨w7, w8, w9⟩ := id w6
      simp +contextual (maxSteps := 1000000) (disch := first | omega | (with_reducible first | refine krN ?_ | refine krS ?_ | refine krP ?_ | refine krG ?_); kernel_rfl | refine kr ?_; simp only [go_sem, reduceCtorEq, hi2, hq0', e1, ixR4, rdR4, wrR4, HPr_set4, hq, hj, encC, hk, List.length_set, get!_set_eq, hjc]; done | fail) only [go_sem, seval, -List.reduceReplicate, hi2, hq0', e1, ixR4, rdR4, wrR4, HPr_set4, hq, hj, encC, hk, List.length_set, get!_set_eq, hjc]
      refine WI_of (fun _ => ?_) (fun _ => ?_)
      · refine ⟨hc2, _, _, [], ?_, ?_, rfl⟩
        · rw [List.length_set]; exact hq
        · refine hset _ ⟨v1, v2, fun h => (by cases h), fun _ => ⟨w1, w2, w3, w4, w5, ?_⟩⟩ ?_ ?_
          · unfold YearsOk at w6 ⊢
            simp only
            omega
          · simp only; omega
          · simp only; omega
      · exact ⟨hc2, _, _, [], hq, fun j hj => by have := hinv j hj; exact ⟨this.1, by omega, by omega⟩, rfl⟩
    | true =>
      obtain ⟨v1, v2, v3, v4⟩ := id hv
      obtain ⟨w1, w2, w3, w4, w5, w6, w7⟩ := v3 hk
      simp +contextual (maxSteps := 1000000) (disch := first | omega | (with_reducible first | refine krN ?_ | refine krS ?_ | refine krP ?_ | refine krG ?_); kernel_rfl | refine kr ?_; simp only [go_sem, reduceCtorEq, hi2, hq0', e1, ixR4, rdR4, wrR4, HPr_set4, hq, hj, encC, hk, List.length_set, List.set_set, get!_set_eq, hjc]; done | fail) only [go_sem, seval, -List.reduceReplicate, hi2, hq0', e1, ixR4, rdR4, wrR4, HPr_set4, hq, hj, encC, hk, List.length_set, List.set_set, get!_set_eq, hjc]
      refine WI_of (fun _ => ?_) (fun _ => ?_)
      · refine ⟨hc2, _, _, [], ?_, ?_, rfl⟩
        · rw [List.length_set]; exact hq
        · refine hset _ ⟨w1, w2, fun _ => ⟨v1, v2, fun e => w3 e.symm, w4, w5, w6, w7⟩, fun h => (by cases h)⟩ ?_ ?_
          · show _ ≤ cs[(upR s q).toNat]!.lo
            omega
          · show cs[(upR s q).toNat]!.hi ≤ _
            omega
      · exact ⟨hc2, _, _, [], hq, fun j hj => by have := hinv j hj; exact ⟨this.1, by omega, by omega⟩, rfl⟩
  · have hend : WF (rollD life plo phi T F os ms cs) ∧ Near (rollD life plo phi T F os ms cs) 200 := by
      have hc : ∀ c ∈ cs, ∃ j, j < q ∧ c = cs[j]! := fun c h => by
        obtain ⟨j, hj, rfl⟩ := List.getElem_of_mem h
        exact ⟨j, by omega, (get!_eq hj).symm⟩
      refine ⟨hw0.recs (by omega) fun c h => ?_, hnear, fun c h => ?_⟩
      · obtain ⟨j, hj, rfl⟩ := hc c h
        exact (hinv j hj).1
      · obtain ⟨j, hj, rfl⟩ := hc c h
        have := hinv j hj
        omega
    by_cases hc2 : (i : Int) < 2
    · have hq0 : ¬ 0 < (q : Int) := by omega
      have r1 := rfR1 (s := s) (os := os) (ms := ms) (cs := cs) (T := T) (t := T) (F := F) (x := true) (bs := bs) (ds := ds) (ys := ys) rfl
      have r2 := rfR2 (s := s) (os := os) (ms := ms) (cs := cs) (T := T) (F := F) (x := true) (bs := bs) (ds := ds) (ys := ys)
      have r3 := rfR3 (s := s) (os := os) (ms := ms) (cs := cs) (T := T) (t := T) (F := F) (x := true) (bs := bs) (ds := ds) (ys := ys) rfl
      have r4 := rfR4 (s := s) (os := os) (ms := ms) (cs := cs) (T := T) (t := T) (F := F) (x := true) (bs := bs) (ds := ds) (ys := ys) hq
      simp +contextual (maxSteps := 1000000) (disch := first | omega | (with_reducible first | refine krN ?_ | refine krS ?_ | refine krP ?_ | refine krG ?_); kernel_rfl | refine kr ?_; simp only [go_sem, reduceCtorEq, hc2, hq0, r1, r2, r3, r4]; done | fail) only [go_sem, seval, -List.reduceReplicate, hc2, hq0, r1, r2, r3, r4]
      exact ⟨life, plo, phi, T, F, os, ms, cs, hend.1, hend.2, by omega, by omega, hmen, hlp, rfl, _, killHp_low0 hT1.1 rfl⟩
    · have r1 := rfR1 (s := s) (os := os) (ms := ms) (cs := cs) (T := T) (t := T) (F := F) (x := true) (bs := bs) (ds := ds) (ys := ys) rfl
      have r2 := rfR2 (s := s) (os := os) (ms := ms) (cs := cs) (T := T) (F := F) (x := true) (bs := bs) (ds := ds) (ys := ys)
      have r3 := rfR3 (s := s) (os := os) (ms := ms) (cs := cs) (T := T) (t := T) (F := F) (x := true) (bs := bs) (ds := ds) (ys := ys) rfl
      have r4 := rfR4 (s := s) (os := os) (ms := ms) (cs := cs) (T := T) (t := T) (F := F) (x := true) (bs := bs) (ds := ds) (ys := ys) hq
      simp +contextual (maxSteps := 1000000) (disch := first | omega | (with_reducible first | refine krN ?_ | refine krS ?_ | refine krP ?_ | refine krG ?_); kernel_rfl | refine kr ?_; simp only [go_sem, reduceCtorEq, hc2, r1, r2, r3, r4]; done | fail) only [go_sem, seval, -List.reduceReplicate, hc2, r1, r2, r3, r4]
      exact ⟨life, plo, phi, T, F, os, ms, cs, hend.1, hend.2, by omega, by omega, hmen, hlp, rfl, _, killHp_low0 hT1.1 rfl⟩
theorem spoilt_to {s : Int × Int} {recs : Int} (h3 : 0 ≤ recs) (h4 : recs ≤ 8) : HAns Try.prog (AA b) 30 [.bp 0 0, I recs] (upd noHeap 0 (urnO s)) 1 (fun v hp' nx' => ∃ life plo phi T F os ms cs, WF (rollD life plo phi T F os ms cs) ∧ Near (rollD life plo phi T F os ms cs) 200 ∧ (cs.length : Int) ≤ recs ∧ 1 ≤ T ∧ (∃ t, Lived (rollD life plo phi T F os ms []) t) ∧
    v = encRoll (some false) (some false) (some false) (some false) (rollD life plo phi T F os ms cs) ∧ 0 < nx' ∧ ∃ s, hp' 0 = urnO s) :=
  HAns.mono (spoilt2_to h3 h4) fun v hp' nx' ⟨life, plo, phi, T, F, os, ms, cs, a1, a2, a3, a4, a5, _, a6⟩ => ⟨life, plo, phi, T, F, os, ms, cs, a1, a2, a3, a4, a5, a6⟩
end Go.Proofs
namespace Go.Proofs
open Go Go.Idl
set_option linter.unusedSimpArgs false
variable {b : Bool}
@[reducible] def encL (p : List Nat × Option Bool) : Vl := SL 1 (p.1.map IN) p.2
theorem encL_cl (p : List Nat × Option Bool) : (encL p).closed = true := closed_SL (closedL_map (fun _ => rfl) _)
theorem listV_SL (l : List Nat) : listV l = encL (l, none) := by
  unfold listV encL SL
  cases l <;> rfl
section
variable {m : Mem} {K : Vl → Mem → Prop}
theorem sameInts_to {a c : List Nat} {o1 o2 : Option Bool} (ha : a.length ≤ 1000) (hc : c.length ≤ 1000) : Ans Try.prog (AA b) 33 [encL (a, o1), encL (c, o2)] (fun v => v = .bool (decide (a = c))) := by
  refine Ans_of Try.func33 rfl rfl ?_
  simp +contextual (maxSteps := 1000000) (disch := first | omega | (with_reducible first | refine krN ?_ | refine krS ?_ | refine krP ?_ | refine krG ?_); kernel_rfl | refine kr ?_; simp only [go_sem, reduceCtorEq, encL, List.length_map]; done | fail) only [go_sem, seval, -List.reduceReplicate, encL, List.length_map]
  refine wp_loop_to a.length (fun i st => ∃ (t : Bool) (ex : List (Nat × Vl)), (t = true ↔ a.length = c.length ∧ ∀ j, j < i → a[j]! = c[j]!) ∧ st = ({ sl := (0, SL 1 (a.map IN) o1) :: (1, SL 1 (c.map IN) o2) :: (5, .bool t) :: (6, I i) :: ex, hp := noHeap, nx := 0 } : FS)) ?_ 0 (Nat.zero_le _) ⟨decide (a.length = c.length), [], by simp, by simp [Int.natCast_inj]⟩
  rintro i st hi ⟨t, ex, ht, rfl⟩
  cases t with
  | false =>
    simp +contextual (maxSteps := 1000000) (disch := first | omega | (with_reducible first | refine krN ?_ | refine krS ?_ | refine krP ?_ | refine krG ?_); kernel_rfl | refine kr ?_; simp only [go_sem, reduceCtorEq, List.length_map]; done | fail) only [go_sem, seval, -List.reduceReplicate, List.length_map]
    have hne : ¬ a = c := fun e => by
      subst e
      have := ht.2 ⟨rfl, fun _ _ => rfl⟩
      cases this
    rw [decide_eq_false hne]
  | true =>
    obtain ⟨hl, hp⟩ := ht.1 rfl
    by_cases hca : i < a.length
    · have hcc : i < c.length := by omega
      by_cases he : a[i]! = c[i]!
      · simp +contextual (maxSteps := 1000000) (disch := first | omega | (with_reducible first | refine krN ?_ | refine krS ?_ | refine krP ?_ | refine krG ?_); kernel_rfl | refine kr ?_; simp only [go_sem, reduceCtorEq, List.length_map, Int.ofNat_lt, hca, hcc, ix_map, he]; done | fail) only [go_sem, seval, -List.reduceReplicate, List.length_map, Int.ofNat_lt, hca, hcc, ix_map, he]
        refine ⟨true, _, ⟨fun _ => ⟨hl, fun j hj => ?_⟩, fun _ => rfl⟩, rfl⟩
        rcases Nat.lt_succ_iff_lt_or_eq.1 hj with hj | rfl
        · exact hp j hj
        · exact he
      · have he' : ¬ ((a[i]! : Int) = (c[i]! : Int)) := fun e => he (Int.natCast_inj.1 e)
        simp +contextual (maxSteps := 1000000) (disch := first | omega | (with_reducible first | refine krN ?_ | refine krS ?_ | refine krP ?_ | refine krG ?_); kernel_rfl | refine kr ?_; simp only [go_sem, reduceCtorEq, List.length_map, Int.ofNat_lt, hca, hcc, ix_map, he']; done | fail) only [go_sem, seval, -List.reduceReplicate, List.length_map, Int.ofNat_lt, hca, hcc, ix_map, he']
        exact ⟨false, _, ⟨fun h => (by cases h), fun h => absurd (h.2 i (Nat.lt_succ_self _)) he⟩, rfl⟩
    · have hie : i = a.length := by omega
      subst hie
      simp +contextual (maxSteps := 1000000) (disch := first | omega | (with_reducible first | refine krN ?_ | refine krS ?_ | refine krP ?_ | refine krG ?_); kernel_rfl | refine kr ?_; simp only [go_sem, reduceCtorEq, List.length_map, Int.lt_irrefl]; done | fail) only [go_sem, seval, -List.reduceReplicate, List.length_map, Int.lt_irrefl]
      have heq : a = c := by
        apply List.ext_getElem hl
        intro j h1 h2
        have := hp j h1
        rw [get!_eq h1, get!_eq h2] at this
        exact this
      rw [decide_eq_true heq]
theorem wc33 {a c : List Nat} {o1 o2 : Option Bool} (ha : a.length ≤ 1000) (hc : c.length ≤ 1000) : WC Try.prog (AA b) (.fn (.func 33) [] []) [.v (SL 1 (a.map IN) o1), .v (SL 1 (c.map IN) o2)] m K = K (.bool (decide (a = c))) m :=
  WC_flat (by simp only [mkAnn, K33]) (rfAs (xs := [encL (a, o1), encL (c, o2)]) (by show ((encL (a, o1)).closed && ((encL (c, o2)).closed && true)) = true; rw [encL_cl, encL_cl]; rfl)) (sameInts_to ha hc) rfl
set_option maxRecDepth 10000 in
set_option maxHeartbeats 4000000 in
theorem without_to {r : Roll} (hc8 : r.cs.length ≤ 1000) {l : List Nat} (hl : l.length ≤ 1000) {o1 o2 o3 o4 o : Option Bool} : Ans Try.prog (AA b) 45 [encRoll o1 o2 o3 o4 r, encL (l, o)] (fun v => v = encRoll o1 o2 o3 (some false) (dropF r l)) := by
  refine Ans_of Try.func45 rfl rfl ?_
  simp +contextual (maxSteps := 1000000) (disch := first | omega | (with_reducible first | refine krN ?_ | refine krS ?_ | refine krP ?_ | refine krG ?_); kernel_rfl | refine kr ?_; simp only [go_sem, reduceCtorEq, encL]; done | fail) only [go_sem, seval, -List.reduceReplicate, encL]
  obtain ⟨Z, hZ⟩ : ∃ Z, Z = Vl.agg [.nils, I 0, I 0, I 0, .nils, .nils, .nils] := ⟨_, rfl⟩
  refine wp_loop_to r.cs.length (fun i st => ∃ (ex : List (Nat × Vl)), st = ({ sl := (1, SL 1 (l.map IN) o) :: (2, .loc (encRoll o1 o2 o3 o4 r)) :: (4, .loc Z) :: (5, .loc (.agg [SL 3 (r.os.map encO) o1, I r.life, I r.plo, I r.phi, SL 1 (r.fs.map encRow) o2, SL 5 (r.ms.map encM) o3, .own 0 (keptTo r l i).length])) :: (6, I i) :: ex, hp := upd noHeap 0 (.arr 7 ((keptTo r l i).map encC)), nx := 1 } : FS)) ?_ 0 (Nat.zero_le _) ⟨_, by rw [hZ]; rfl⟩
  rintro i st hi ⟨ex, rfl⟩
  have hkl : (keptTo r l i).length ≤ i := keptTo_len
  by_cases hc : i < r.cs.length
  · have hsu := @keptTo_succ r l i
    generalize keptTo r l i = ks at hsu hkl
    simp +contextual (maxSteps := 1000000) (disch := first | omega | (with_reducible first | refine krN ?_ | refine krS ?_ | refine krP ?_ | refine krG ?_); kernel_rfl | refine kr ?_; simp only [go_sem, reduceCtorEq, Int.ofNat_lt, hc]; done | fail) only [go_sem, seval, -List.reduceReplicate, Int.ofNat_lt, hc]
    refine wp_loop_to l.length (fun k st => ∃ (ex : List (Nat × Vl)), st = ({ sl := (1, SL 1 (l.map IN) o) :: (2, .loc (encRoll o1 o2 o3 o4 r)) :: (4, .loc Z) :: (5, .loc (.agg [SL 3 (r.os.map encO) o1, I r.life, I r.plo, I r.phi, SL 1 (r.fs.map encRow) o2, SL 5 (r.ms.map encM) o3, .own 0 ks.length])) :: (6, I i) :: (7, .bool ((l.take k).contains i)) :: (8, I k) :: ex, hp := upd noHeap 0 (.arr 7 (ks.map encC)), nx := 1 } : FS)) ?_ 0 (Nat.zero_le _) ⟨_, rfl⟩
    rintro k st hk ⟨ex, rfl⟩
    by_cases hck : k < l.length
    · have htk : (l.take (k + 1)).contains i = ((l.take k).contains i || decide (l[k]! = i)) := by
        rw [take_snoc hck, Bool.eq_iff_iff]
        simp only [List.contains_eq_mem, List.mem_append, List.mem_singleton, Bool.or_eq_true, decide_eq_true_eq]
        exact or_congr Iff.rfl eq_comm
      cases ht : (l.take k).contains i with
      | true =>
        rw [ht] at htk
        simp +contextual (maxSteps := 1000000) (disch := first | omega | (with_reducible first | refine krN ?_ | refine krS ?_ | refine krP ?_ | refine krG ?_); kernel_rfl | refine kr ?_; simp only [go_sem, reduceCtorEq, Int.ofNat_lt, hck, List.length_map]; done | fail) only [go_sem, seval, -List.reduceReplicate, Int.ofNat_lt, hck, List.length_map]
        exact ⟨_, by rw [htk]; rfl⟩
      | false =>
        rw [ht] at htk
        by_cases he : l[k]! = i
        · simp +contextual (maxSteps := 1000000) (disch := first | omega | (with_reducible first | refine krN ?_ | refine krS ?_ | refine krP ?_ | refine krG ?_); kernel_rfl | refine kr ?_; simp only [go_sem, reduceCtorEq, Int.ofNat_lt, hck, List.length_map, ix_map, he]; done | fail) only [go_sem, seval, -List.reduceReplicate, Int.ofNat_lt, hck, List.length_map, ix_map, he]
          exact ⟨_, by rw [htk, decide_eq_true he]; rfl⟩
        · have he' : ¬ ((l[k]! : Int) = (i : Int)) := fun e => he (Int.natCast_inj.1 e)
          simp +contextual (maxSteps := 1000000) (disch := first | omega | (with_reducible first | refine krN ?_ | refine krS ?_ | refine krP ?_ | refine krG ?_); kernel_rfl | refine kr ?_; simp only [go_sem, reduceCtorEq, Int.ofNat_lt, hck, List.length_map, ix_map, he']; done | fail) only [go_sem, seval, -List.reduceReplicate, Int.ofNat_lt, hck, List.length_map, ix_map, he']
          exact ⟨_, by rw [htk, decide_eq_false he]; rfl⟩
    · have hke : k = l.length := by omega
      subst hke
      rw [List.take_length]
      cases ht : l.contains i with
      | true =>
        rw [ht] at hsu
        simp only [if_true, List.append_nil] at hsu
        simp +contextual (maxSteps := 1000000) (disch := first | omega | (with_reducible first | refine krN ?_ | refine krS ?_ | refine krP ?_ | refine krG ?_); kernel_rfl | refine kr ?_; simp only [go_sem, reduceCtorEq, Int.lt_irrefl, List.length_map]; done | fail) only [go_sem, seval, -List.reduceReplicate, Int.lt_irrefl, List.length_map]
        exact ⟨_, by rw [hsu]⟩
      | false =>
        rw [ht] at hsu
        simp only [Bool.false_eq_true, if_false] at hsu
        have hap : ∀ (x : Vl) (t : Bool), isAppend Try.prog 27 27 (.own 0 ks.length) (.lst 7 [x] t) { lc := [], hp := upd noHeap 0 (.arr 7 (ks.map encC)), nx := 1 } = some (.own 0 (ks.length + 1), { lc := [], hp := upd noHeap 0 (.arr 7 (ks.map encC ++ [x])), nx := 1 }) := fun x t => by
          have h0 : upd noHeap 0 (.arr 7 (ks.map encC)) 0 = .arr 7 (ks.map encC) := upd_same _ _ _
          refine (ap27w (m := { lc := [], hp := upd noHeap 0 (.arr 7 (ks.map encC)), nx := 1 }) h0 (by simp) (by omega)).trans ?_
          simp only [upd_upd]
        simp +contextual (maxSteps := 1000000) (disch := first | omega | (with_reducible first | refine krN ?_ | refine krS ?_ | refine krP ?_ | refine krG ?_); kernel_rfl | refine kr ?_; simp only [go_sem, reduceCtorEq, Int.lt_irrefl, List.length_map, ix_map, hc, encC, hap]; done | fail) only [go_sem, seval, -List.reduceReplicate, Int.lt_irrefl, List.length_map, ix_map, hc, encC, hap]
        exact ⟨_, by rw [hsu, List.length_append, List.map_append]; rfl⟩
  · have hie : i = r.cs.length := by omega
    subst hie
    simp +contextual (maxSteps := 1000000) (disch := first | omega | (with_reducible first | refine krN ?_ | refine krS ?_ | refine krP ?_ | refine krG ?_); kernel_rfl | refine kr ?_; simp only [go_sem, reduceCtorEq, Int.lt_irrefl, hZ]; done | fail) only [go_sem, seval, -List.reduceReplicate, Int.lt_irrefl, hZ]
    exact OB_intro (rfC (clSL 3 encO clO r.os o1)) (OB_intro (rfC (clSL 1 encRow clRw r.fs o2)) (OB_intro (rfC (clSL 5 encM clM r.ms o3)) (OB_intro (reify_flat (.inl (upd_same _ _ _)) rfl fun _ => rfl) rfl)))
theorem wc45 {r : Roll} (hc8 : r.cs.length ≤ 1000) {l : List Nat} (hl : l.length ≤ 1000) {o1 o2 o3 o4 o : Option Bool} : WC Try.prog (AA b) (.fn (.func 45) [] []) [.v (encRoll o1 o2 o3 o4 r), .v (SL 1 (l.map IN) o)] m K = K (encRoll o1 o2 o3 (some false) (dropF r l)) m :=
  WC_pure (by simp only [mkAnn, K45]) (rfAs (xs := [encRoll o1 o2 o3 o4 r, encL (l, o)]) (by show ((encRoll o1 o2 o3 o4 r).closed && ((encL (l, o)).closed && true)) = true; rw [encL_cl, clRoll]; rfl)) (by
    show (flatL _) = false
    simp only [flatL, Vl.flat, SL, Bool.and_false, Bool.false_and]) (clRoll _ _ _ _ _) (without_to hc8 hl)
theorem apSL {i : Nat} {y : List Nat} {o : Option Bool} {m : Mem} (hy : y.length ≤ 1000) : isAppend Try.prog 32 32 (.lst 1 [I i] true) (SL 1 (y.map IN) o) m = if y = [] then some (.lst 1 [I i] true, m) else some (.own m.nx (y.length + 1), { m with hp := upd m.hp m.nx (.arr 1 ((i :: y).map IN)), nx := m.nx + 1 }) := by
  split
  · rename_i h
    subst h
    unfold isAppend appendV
    rw [td32]
    cases o with
    | none => rfl
    | some x => rfl
  · rename_i h
    obtain ⟨x, hx⟩ : ∃ x, SL 1 (y.map IN) o = .lst 1 (y.map IN) x := by
      cases o with
      | none => exact ⟨false, by cases y <;> first | exact absurd rfl h | rfl⟩
      | some x => exact ⟨x, rfl⟩
    rw [hx]
    exact (ap32l (xs := [i]) h (by simp; omega) rfl).trans (by simp [Nat.add_comm])
theorem ap72w {m : Mem} {id n : Nat} {xs : List Vl} {x : Vl} {o : Bool} (ho : m.hp id = .arr 1 xs) (hn : xs.length = n) (hs : n < 100000) : isAppend Try.prog 72 72 (.own id n) (.lst 1 [x] o) m = some (.own id (n + 1), { m with hp := upd m.hp id (.arr 1 (xs ++ [x])) }) :=
  app1_own (by rw [td72]) ho hn (grow_ok rfl rfl (by decide) (by decide) (by omega))
def LH (hp : Nat → Ob) (nx : Nat) (p : List Nat × Option Bool) (v : Vl) : Prop := v = encL p ∨ ∃ id, 1 ≤ id ∧ id < nx ∧ v = .own id p.1.length ∧ hp id = .arr 1 (p.1.map IN) ∧ p.2 = some false
theorem LH.keep {hp hp' : Nat → Ob} {nx nx' : Nat} {p : List Nat × Option Bool} {v : Vl} (h : LH hp nx p v) (hn : nx ≤ nx') (he : ∀ i, 1 ≤ i → i < nx → hp' i = hp i) : LH hp' nx' p v := by
  rcases h with h | ⟨id, h1, h2, h3, h4, h5⟩
  · exact .inl h
  · exact .inr ⟨id, h1, by omega, h3, by rw [he id h1 h2]; exact h4, h5⟩
inductive LHs (hp : Nat → Ob) (nx : Nat) : List (List Nat × Option Bool) → List Vl → Prop
  | nil : LHs hp nx [] []
  | cons {p : List Nat × Option Bool} {ps : List (List Nat × Option Bool)} {v : Vl} {vs : List Vl} : LH hp nx p v → LHs hp nx ps vs → LHs hp nx (p :: ps) (v :: vs)
theorem LHs.keep {hp hp' : Nat → Ob} {nx nx' : Nat} {ps : List (List Nat × Option Bool)} {vs : List Vl} (h : LHs hp nx ps vs) (hn : nx ≤ nx') (he : ∀ i, 1 ≤ i → i < nx → hp' i = hp i) : LHs hp' nx' ps vs := by
  induction h with
  | nil => exact .nil
  | cons h _ ih => exact .cons (h.keep hn he) ih
theorem LHs.snoc {hp : Nat → Ob} {nx : Nat} {ps : List (List Nat × Option Bool)} {vs : List Vl} {p : List Nat × Option Bool} {v : Vl} (h : LHs hp nx ps vs) (k : LH hp nx p v) : LHs hp nx (ps ++ [p]) (vs ++ [v]) := by
  induction h with
  | nil => exact .cons k .nil
  | cons h _ ih => exact .cons h ih
theorem LHs.len {hp : Nat → Ob} {nx : Nat} {ps : List (List Nat × Option Bool)} {vs : List Vl} (h : LHs hp nx ps vs) : vs.length = ps.length := by
  induction h with
  | nil => rfl
  | cons _ _ ih => simp [ih]
theorem LHs.reify {hp : Nat → Ob} {nx : Nat} {ps : List (List Nat × Option Bool)} {vs : List Vl} (h : LHs hp nx ps vs) : ∃ ks, mapR (reifyF (reifyF closedV hp) hp) vs = some (ps.map encL, ks) := by
  induction h with
  | nil => exact ⟨[], rfl⟩
  | @cons p ps v vs h _ ih =>
    obtain ⟨ks, ih⟩ := ih
    rcases h with rfl | ⟨id, h1, h2, rfl, h4, h5⟩
    · refine ⟨[] ++ ks, ?_⟩
      unfold mapR
      rw [reify_closedV _ (encL_cl _)]
      simp only [Option.bind_some]
      rw [ih]; rfl
    · refine ⟨[id] ++ ks, ?_⟩
      have e : reifyF (reifyF closedV hp) hp (.own id p.1.length) = some (encL p, [id]) := by
        obtain ⟨p1, p2⟩ := p
        simp only at h4 h5
        subst h5
        simp only [reifyF, h4, List.length_map, if_true]
        rw [mapR_map (g := IN) (k := fun _ => []) fun x _ => rfl, flat_nil]
        rfl
      unfold mapR
      rw [e]
      simp only [Option.bind_some]
      rw [ih]; rfl
theorem combs_len : ∀ (l : List Nat) (k : Nat), (combs l k).length ≤ 2 ^ l.length
  | [], 0 => by simp [combs]
  | [], k + 1 => by simp [combs]
  | x :: l, 0 => by
    have := Nat.one_le_two_pow (n := (x :: l).length)
    simpa [combs] using this
  | x :: l, k + 1 => by
    have h1 := combs_len l k
    have h2 := combs_len l (k + 1)
    simp only [combs, List.length_append, List.length_map, List.length_cons, Nat.pow_succ]
    omega
theorem combs_mem {x : List Nat} : ∀ {l : List Nat} {k : Nat}, x ∈ combs l k → x.length = k
  | [], 0, h => by simp [combs] at h; rw [h]; rfl
  | [], k + 1, h => by cases h
  | y :: l, 0, h => by simp [combs] at h; rw [h]; rfl
  | y :: l, k + 1, h => by
    simp only [combs, List.mem_append, List.mem_map] at h
    rcases h with ⟨z, hz, rfl⟩ | h
    · rw [List.length_cons, combs_mem hz]
    · exact combs_mem h
set_option maxRecDepth 10000 in
set_option maxHeartbeats 4000000 in
theorem refLists_to {n : Nat} (hn : n ≤ 8) : ∀ (k a : Nat), k ≤ 8 → a ≤ n → Ans Try.prog (AA b) 44 [I a, I n, I k] (fun v => ∃ (ps : List (List Nat × Option Bool)) (o : Option Bool), ps.map Prod.fst = combs (List.range' a (n - a)) k ∧ v = SL 1 (ps.map encL) o) := by
  intro k
  induction k with
  | zero =>
    intro a _ ha
    refine Ans_of Try.func44 rfl rfl ?_
    simp +contextual (maxSteps := 1000000) (disch := first | omega | (with_reducible first | refine krN ?_ | refine krS ?_ | refine krP ?_ | refine krG ?_); kernel_rfl | refine kr ?_; simp only [go_sem, reduceCtorEq]; done | fail) only [go_sem, seval, -List.reduceReplicate]
    exact OB_intro rfl ⟨[([], none)], some true, by rw [combs_zero]; rfl, rfl⟩
  | succ k ih =>
    intro a hk ha
    refine Ans_of Try.func44 rfl rfl ?_
    have hk0 : ¬ (((k + 1 : Nat) : Int) = 0) := by omega
    have hwk : IntKind.wrap .i64 (((k + 1 : Nat) : Int) - 1) = (k : Int) := by rw [wrap_i64 (by omega) (by omega)]; omega
    have hfl : (combs (List.range' a (n - a)) (k + 1)).length ≤ 256 := by
      refine Nat.le_trans (combs_len _ _) ?_
      rw [List.length_range']
      exact Nat.le_trans (Nat.pow_le_pow_right (by decide) (show n - a ≤ 8 by omega)) (by decide)
    generalize hful : combs (List.range' a (n - a)) (k + 1) = full at hfl
    simp +contextual (maxSteps := 1000000) (disch := first | omega | (with_reducible first | refine krN ?_ | refine krS ?_ | refine krP ?_ | refine krG ?_); kernel_rfl | refine kr ?_; simp only [go_sem, reduceCtorEq, hk0]; done | fail) only [go_sem, seval, -List.reduceReplicate, hk0]
    refine wp_loop_to n (fun i st => ∃ (ps : List (List Nat × Option Bool)) (vs : List Vl) (hp : Nat → Ob) (nx : Nat) (ex : List (Nat × Vl)), 1 ≤ nx ∧ hp 0 = .arr 1 vs ∧ LHs hp nx ps vs ∧ ps.map Prod.fst ++ combs (List.range' i (n - i)) (k + 1) = full ∧
      st = ({ sl := (1, I n) :: (2, I ((k + 1 : Nat) : Int)) :: (7, .own 0 vs.length) :: (8, I i) :: ex, hp := hp, nx := nx } : FS)) ?_ a ha ⟨[], [], _, _, [], Nat.le_refl _, upd_same _ _ _, .nil, hful, rfl⟩
    clear hful
    rintro i st hi ⟨ps, vs, hp, nx, ex, hn1, h0, hls, hfu, rfl⟩
    by_cases hc : i < n
    · rw [range'_cons hc] at hfu
      simp +contextual (maxSteps := 1000000) (disch := first | omega | (with_reducible first | refine krN ?_ | refine krS ?_ | refine krP ?_ | refine krG ?_); kernel_rfl | refine kr ?_; simp only [go_sem, reduceCtorEq, Int.ofNat_lt, hc, hwk]; done | fail) only [go_sem, seval, -List.reduceReplicate, Int.ofNat_lt, hc, hwk]
      refine wc_ans (by simp only [mkAnn, K44]) (rfAs (xs := [I ((i + 1 : Nat) : Int), I n, I k]) rfl) (ih (i + 1) (by omega) (by omega)) ?_
      rintro v ⟨ps2, o2, h2, rfl⟩
      refine ⟨closed_SL (closedL_map encL_cl ps2), ?_⟩
      have hfu2 : ps.map Prod.fst ++ ps2.map (fun p => i :: p.1) ++ combs (List.range' (i + 1) (n - (i + 1))) (k + 1) = full := by
        rw [← hfu, combs, ← h2, List.map_map, List.append_assoc]; rfl
      have hp2l : ps2.length ≤ 256 := by
        have e3 := congrArg List.length hfu2
        simp only [List.length_map, List.length_append] at e3
        omega
      simp +contextual (maxSteps := 1000000) (disch := first | omega | (with_reducible first | refine krN ?_ | refine krS ?_ | refine krP ?_ | refine krG ?_); kernel_rfl | refine kr ?_; simp only [go_sem, reduceCtorEq]; done | fail) only [go_sem, seval, -List.reduceReplicate]
      refine wp_loop_to ps2.length (fun j st => ∃ (qs : List (List Nat × Option Bool)) (vs : List Vl) (hp : Nat → Ob) (nx : Nat) (ex : List (Nat × Vl)), 1 ≤ nx ∧ hp 0 = .arr 1 vs ∧ LHs hp nx qs vs ∧ qs.map Prod.fst = ps.map Prod.fst ++ (ps2.take j).map (fun p => i :: p.1) ∧
        st = ({ sl := (1, I n) :: (2, I ((k + 1 : Nat) : Int)) :: (7, .own 0 vs.length) :: (8, I i) :: (9, SL 1 (ps2.map encL) o2) :: (10, I j) :: ex, hp := hp, nx := nx } : FS)) ?_ 0 (Nat.zero_le _) ⟨ps, vs, hp, nx, _, hn1, h0, hls, by simp, rfl⟩
      clear hls h0 hn1
      rintro j st hj ⟨qs, vs, hp, nx, ex, hn1, h0, hls, hqs, rfl⟩
      by_cases hjc : j < ps2.length
      · have hql : vs.length < 1000 := by
          have e1 := hls.len
          have e2 := congrArg List.length hqs
          have e3 := congrArg List.length hfu2
          simp only [List.length_map, List.length_append, List.length_take] at e2 e3
          omega
        have hyl : (ps2[j]!).1.length ≤ 1000 := by
          have := combs_mem (h2 ▸ List.mem_map_of_mem (get!_mem hjc) : (ps2[j]!).1 ∈ combs (List.range' (i + 1) (n - (i + 1))) k)
          omega
        have htk : (ps2.take (j + 1)).map (fun p => i :: p.1) = (ps2.take j).map (fun p => i :: p.1) ++ [i :: (ps2[j]!).1] := by
          rw [take_snoc hjc, List.map_append]; rfl
        have hap := fun m : Mem => apSL (i := i) (y := (ps2[j]!).1) (o := (ps2[j]!).2) (m := m) hyl
        have hap0 : ∀ (o : Option Bool) (m : Mem), isAppend Try.prog 32 32 (.lst 1 [I i] true) (SL 1 [] o) m = some (.lst 1 [I i] true, m) := fun o m => (apSL (y := []) (by simp)).trans (if_pos rfl)
        have hap2 := fun (x : Vl) (t : Bool) => ap72w (m := ⟨[], hp, nx⟩) (x := x) (o := t) h0 rfl (by omega)
        have hap3 := fun (x : Vl) (t : Bool) (o : Ob) => ap72w (m := ⟨[], upd hp nx o, nx + 1⟩) (x := x) (o := t) ((upd_ne _ _ (by omega)).trans h0) rfl (by omega)
        by_cases hy : (ps2[j]!).1 = []
        · simp +contextual (maxSteps := 1000000) (disch := first | omega | (with_reducible first | refine krN ?_ | refine krS ?_ | refine krP ?_ | refine krG ?_); kernel_rfl | refine kr ?_; simp only [go_sem, reduceCtorEq, Int.ofNat_lt, hjc, ix_map, encL, hap0, hap2, hy]; done | fail) only [go_sem, seval, -List.reduceReplicate, Int.ofNat_lt, hjc, ix_map, encL, hap0, hap2, hy]
          refine ⟨qs ++ [([i], some true)], vs ++ [.lst 1 [I i] true], _, _, [], hn1, upd_same _ _ _, (hls.keep (Nat.le_refl _) fun i h1 h2 => upd_ne _ _ (by omega)).snoc (.inl rfl), ?_, ?_⟩
          · rw [List.map_append, htk, hqs, hy, List.append_assoc]; rfl
          · rw [List.length_append]; rfl
        · simp only [hy, if_false] at hap
          simp +contextual (maxSteps := 1000000) (disch := first | omega | (with_reducible first | refine krN ?_ | refine krS ?_ | refine krP ?_ | refine krG ?_); kernel_rfl | refine kr ?_; simp only [go_sem, reduceCtorEq, Int.ofNat_lt, hjc, ix_map, encL, hap, hap3]; done | fail) only [go_sem, seval, -List.reduceReplicate, Int.ofNat_lt, hjc, ix_map, encL, hap, hap3]
          refine ⟨qs ++ [(i :: (ps2[j]!).1, some false)], vs ++ [.own nx ((ps2[j]!).1.length + 1)], _, _, [], (by omega : 1 ≤ nx + 1), upd_same _ _ _, (hls.keep (Nat.le_succ _) fun i h1 h2 => (upd_ne _ _ (by omega)).trans (upd_ne _ _ (by omega))).snoc (.inr ⟨nx, hn1, Nat.lt_succ_self _, rfl, (upd_ne _ _ (by omega)).trans (upd_same _ _ _), rfl⟩), ?_, ?_⟩
          · rw [List.map_append, htk, hqs, List.append_assoc]; rfl
          · rw [List.length_append]; rfl
      · have hje : j = ps2.length := by omega
        subst hje
        simp +contextual (maxSteps := 1000000) (disch := first | omega | (with_reducible first | refine krN ?_ | refine krS ?_ | refine krP ?_ | refine krG ?_); kernel_rfl | refine kr ?_; simp only [go_sem, reduceCtorEq, Int.lt_irrefl]; done | fail) only [go_sem, seval, -List.reduceReplicate, Int.lt_irrefl]
        rw [List.take_length] at hqs
        exact ⟨qs, vs, hp, nx, [], hn1, h0, hls, by rw [hqs]; exact hfu2, rfl⟩
    · have hie : i = n := by omega
      subst hie
      simp +contextual (maxSteps := 1000000) (disch := first | omega | (with_reducible first | refine krN ?_ | refine krS ?_ | refine krP ?_ | refine krG ?_); kernel_rfl | refine kr ?_; simp only [go_sem, reduceCtorEq, Int.lt_irrefl]; done | fail) only [go_sem, seval, -List.reduceReplicate, Int.lt_irrefl]
      rw [Nat.sub_self] at hfu
      have hcn : combs (List.range' i 0) (k + 1) = [] := rfl
      rw [hcn, List.append_nil] at hfu
      obtain ⟨ks, hks⟩ := hls.reify
      have e : reify hp (.own 0 vs.length) = some (.lst 1 (ps.map encL) false, 0 :: ks) := by
        unfold reify
        simp only [reifyF, h0, if_true, hks, Option.map_some]
      exact OB_intro e ⟨ps, some false, hfu, rfl⟩
end
end Go.Proofs
namespace Go.Proofs
open Go Go.Idl
set_option linter.unusedSimpArgs false
variable {b : Bool}
structure CR where
  s : Int × Int
  os : List Office
  ms : List Man
  cs : List Rec
  fs : List (List Bool)
def farL (n : Nat) (fs : List (List Bool)) : List Vl := (List.range fs.length).map fun j => .own (n + 4 + j) (fs[j]!).length
def CPr (h : Nat → Ob) (n : Nat) (c : CR) : Nat → Ob := fun i =>
  if i = 0 then urnO c.s else if i = n then .arr 3 (c.os.map encO) else if i = n + 1 then .arr 5 (c.ms.map encM) else if i = n + 2 then .arr 7 (c.cs.map encC) else if i = n + 3 then .arr 1 (farL n c.fs)
  else if n + 4 ≤ i ∧ i < n + 4 + c.fs.length then .arr 1 ((c.fs[i - (n + 4)]!).map .bool) else h i
section
variable {h : Nat → Ob} {n : Nat} {s : Int × Int} {os : List Office} {ms : List Man} {cs : List Rec} {fs : List (List Bool)}
theorem CPr_1 (hn : 0 < n) : CPr h n ⟨s, os, ms, cs, fs⟩ n = .arr 3 (os.map encO) := by unfold CPr; rw [if_neg (by omega), if_pos rfl]
theorem CPr_3 : CPr h n ⟨s, os, ms, cs, fs⟩ (n + 1) = .arr 5 (ms.map encM) := by unfold CPr; rw [if_neg (by omega), if_neg (by omega), if_pos rfl]
theorem CPr_4 : CPr h n ⟨s, os, ms, cs, fs⟩ (n + 2) = .arr 7 (cs.map encC) := by unfold CPr; rw [if_neg (by omega), if_neg (by omega), if_neg (by omega), if_pos rfl]
theorem CPr_2 : CPr h n ⟨s, os, ms, cs, fs⟩ (n + 3) = .arr 1 (farL n fs) := by unfold CPr; rw [if_neg (by omega), if_neg (by omega), if_neg (by omega), if_neg (by omega), if_pos rfl]
theorem CPr_row {j : Nat} (hj : j < fs.length) : CPr h n ⟨s, os, ms, cs, fs⟩ (n + 4 + j) = .arr 1 ((fs[j]!).map .bool) := by
  unfold CPr
  rw [if_neg (by omega), if_neg (by omega), if_neg (by omega), if_neg (by omega), if_neg (by omega), if_pos (by simp only; omega), show n + 4 + j - (n + 4) = j by omega]
theorem UrnOk_CPr : UrnOk 0 (CPr h n ⟨s, os, ms, cs, fs⟩) := rfl
theorem urnAt_CPr : urnAt 0 (CPr h n ⟨s, os, ms, cs, fs⟩) = s := rfl
theorem CPr_s {x y : Int} : upd (CPr h n ⟨s, os, ms, cs, fs⟩) 0 (.box (.agg [.int .u64 x, .int .u64 y])) = CPr h n ⟨(x, y), os, ms, cs, fs⟩ := by
  funext i; by_cases e : i = 0
  · subst e; rfl
  · rw [upd_ne _ _ e]; unfold CPr; rw [if_neg e, if_neg e]
theorem farL_snoc {w : List Bool} : farL n (fs ++ [w]) = farL n fs ++ [.own (n + 4 + fs.length) w.length] := by
  unfold farL
  rw [List.length_append, List.length_singleton, List.range_succ, List.map_append]
  congr 1
  · refine List.map_congr_left fun j hj => ?_
    rw [get!_snoc_lt (List.mem_range.1 hj)]
  · simp only [List.map_cons, List.map_nil]; rw [get!_snoc_eq rfl]
theorem CPr_fs {w : List Bool} : upd (upd (CPr h n ⟨s, os, ms, cs, fs⟩) (n + 4 + fs.length) (.arr 1 (w.map .bool))) (n + 3) (.arr 1 (farL n fs ++ [.own (n + 4 + fs.length) w.length])) = CPr h n ⟨s, os, ms, cs, fs ++ [w]⟩ := by
  funext i; by_cases e : i = n + 3
  · subst e; rw [upd_same, CPr_2, farL_snoc]
  · rw [upd_ne _ _ e]
    by_cases e2 : i = n + 4 + fs.length
    · subst e2; rw [upd_same, CPr_row (by simp), get!_snoc_eq rfl]
    · rw [upd_ne _ _ e2]
      unfold CPr
      simp only [e, if_false, List.length_append, List.length_singleton]
      by_cases e3 : n + 4 ≤ i ∧ i < n + 4 + fs.length
      · rw [if_pos e3, if_pos (show n + 4 ≤ i ∧ i < n + 4 + (fs.length + 1) by omega), get!_snoc_lt (by omega)]
      · rw [if_neg e3, if_neg (show ¬ (n + 4 ≤ i ∧ i < n + 4 + (fs.length + 1)) by omega)]
theorem CPr_new (hn : 0 < n) (h0 : h 0 = urnO s) : upd (upd (upd (upd h n (.arr 3 (os.map encO))) (n + 1) (.arr 5 (ms.map encM))) (n + 1 + 1) (.arr 7 (cs.map encC))) (n + 1 + 1 + 1) (.arr 1 []) = CPr h n ⟨s, os, ms, cs, []⟩ := by
  funext i
  by_cases e3 : i = n + 3
  · subst e3; rw [upd_same, CPr_2]; rfl
  rw [upd_ne _ _ e3]
  by_cases e2 : i = n + 2
  · subst e2; rw [upd_same, CPr_4]
  rw [upd_ne _ _ e2]
  by_cases e1 : i = n + 1
  · subst e1; rw [upd_same, CPr_3]
  rw [upd_ne _ _ e1]
  by_cases e0 : i = n
  · subst e0; rw [upd_same, CPr_1 hn]
  rw [upd_ne _ _ e0]
  unfold CPr
  by_cases e : i = 0
  · subst e; rw [if_pos rfl, h0]
  · rw [if_neg e, if_neg e0, if_neg e1, if_neg e2, if_neg e3, if_neg (by simp only [List.length_nil]; omega)]
end
theorem app_copy {P : Program} {t e eb : Nat} {ez : Vl} {xs : List Vl} {o : Option Bool} {m : Mem} (hk : (tdOf P t).k = .slice e eb ez) (hg : okGrow eb e ez xs.length = true) : isAppend P t t (.lst e [] true) (SL e xs o) m = some (.own m.nx xs.length, { m with hp := upd m.hp m.nx (.arr e xs), nx := m.nx + 1 }) := by
  have hel : m.elems e (SL e xs o) = some xs := by
    unfold SL
    cases o with
    | none => cases xs <;> simp [Mem.elems]
    | some x => simp [Mem.elems]
  unfold isAppend appendV
  rw [hk]
  simp only
  rw [hel]
  simp only [Option.bind_some, List.length_nil, Nat.zero_add, hg, List.isEmpty_nil, Bool.true_or, Bool.and_self, beq_self_eq_true, if_true, List.nil_append]
set_option maxRecDepth 10000 in
set_option maxHeartbeats 4000000 in
theorem copy_to {r : Roll} (h1 : r.os.length ≤ 1000) (h2 : r.ms.length ≤ 1000) (h3 : r.cs.length ≤ 1000) (h4 : r.fs.length ≤ 1000) (h5 : ∀ w ∈ r.fs, w.length ≤ 1000) {o1 o2 o3 o4 : Option Bool} {hp : Nat → Ob} {nx : Nat} {s : Int × Int} (hnx : 0 < nx) (h0 : hp 0 = urnO s) :
    HAns Try.prog (AA b) 19 [encRoll o1 o2 o3 o4 r] hp nx (fun v hp' nx' => v = .agg [.own nx r.os.length, I r.life, I r.plo, I r.phi, .own (nx + 3) r.fs.length, .own (nx + 1) r.ms.length, .own (nx + 2) r.cs.length] ∧ hp' = CPr hp nx ⟨s, r.os, r.ms, r.cs, r.fs⟩ ∧ nx' = nx + 4 + r.fs.length) := by
  refine HAns_of Try.func19 rfl ?_
  have a22 := fun m : Mem => app_copy (P := Try.prog) (t := 22) (e := 3) (eb := 24) (ez := .agg [I 0, I 0, I 0]) (xs := r.os.map encO) (o := o1) (m := m) (by rw [td22]) (grow_ok rfl rfl (by decide) (by decide) (by rw [List.length_map]; omega))
  have a26 := fun m : Mem => app_copy (P := Try.prog) (t := 26) (e := 5) (eb := 40) (ez := .agg [I 0, I 0, I 0, I 0, I 0]) (xs := r.ms.map encM) (o := o3) (m := m) (by rw [td26]) (grow_ok rfl rfl (by decide) (by decide) (by rw [List.length_map]; omega))
  have a27 := fun m : Mem => app_copy (P := Try.prog) (t := 27) (e := 7) (eb := 56) (ez := .agg [.bool false, I 0, I 0, I 0, I 0, I 0, I 0]) (xs := r.cs.map encC) (o := o4) (m := m) (by rw [td27]) (grow_ok rfl rfl (by decide) (by decide) (by rw [List.length_map]; omega))
  simp +contextual (maxSteps := 1000000) (disch := first | omega | (with_reducible first | refine krN ?_ | refine krS ?_ | refine krP ?_ | refine krG ?_); kernel_rfl | refine kr ?_; simp only [go_sem, reduceCtorEq, a22, a26, a27, CPr_new, h0, hnx, List.length_map]; done | fail) only [go_sem, seval, -List.reduceReplicate, a22, a26, a27, CPr_new, h0, hnx, List.length_map]
  obtain ⟨Z, hZ⟩ : ∃ Z, Z = Vl.agg [.nils, I 0, I 0, I 0, .nils, .nils, .nils] := ⟨_, rfl⟩
  refine wp_loop_to r.fs.length (fun i st => ∃ (ex : List (Nat × Vl)), st = ({ sl := (1, .loc (.agg [.own nx r.os.length, I r.life, I r.plo, I r.phi, .own (nx + 3) i, .own (nx + 1) r.ms.length, .own (nx + 2) r.cs.length])) :: (2, .loc Z) :: (3, SL 1 (r.fs.map encRow) o2) :: (4, I i) :: ex, hp := CPr hp nx ⟨s, r.os, r.ms, r.cs, r.fs.take i⟩, nx := nx + 4 + i } : FS)) ?_ 0 (Nat.zero_le _) ⟨_, by rw [hZ]; rfl⟩
  rintro i st hi ⟨ex, rfl⟩
  by_cases hc : i < r.fs.length
  · have hti : (r.fs.take i).length = i := by rw [List.length_take]; omega
    have hwl := h5 _ (get!_mem hc)
    have a80 := fun m : Mem => app_copy (P := Try.prog) (t := 80) (e := 1) (eb := 1) (ez := .bool false) (xs := (r.fs[i]!).map .bool) (o := some false) (m := m) (by rw [td80]) (grow_ok rfl rfl (by decide) (by decide) (by rw [List.length_map]; omega))
    have hcf := CPr_fs (h := hp) (n := nx) (s := s) (os := r.os) (ms := r.ms) (cs := r.cs) (fs := r.fs.take i) (w := r.fs[i]!)
    have htk : r.fs.take (i + 1) = r.fs.take i ++ [r.fs[i]!] := take_snoc hc
    have hfl : (farL nx (r.fs.take i)).length = i := by unfold farL; rw [List.length_map, List.length_range, hti]
    rw [hti] at hcf
    have a25 := fun (x : Vl) (t : Bool) (o : Ob) (n' : Nat) => app1_own (P := Try.prog) (t := 25) (e := 1) (eb := 24) (ez := .nils) (x := x) (b := t) (id := nx + 3) (n := i) (xs := farL nx (r.fs.take i)) (m := ⟨[], upd (CPr hp nx ⟨s, r.os, r.ms, r.cs, r.fs.take i⟩) (nx + 4 + i) o, n'⟩) (by rw [td25]) ((upd_ne _ _ (by omega)).trans CPr_2) hfl (grow_ok rfl rfl (by decide) (by decide) (by omega))
    simp +contextual (maxSteps := 1000000) (disch := first | omega | (with_reducible first | refine krN ?_ | refine krS ?_ | refine krP ?_ | refine krG ?_); kernel_rfl | refine kr ?_; simp only [go_sem, reduceCtorEq, Int.ofNat_lt, hc, ix_map, encRow, a80, a25, hcf, List.length_map]; done | fail) only [go_sem, seval, -List.reduceReplicate, Int.ofNat_lt, hc, ix_map, encRow, a80, a25, hcf, List.length_map]
    exact ⟨_, by rw [htk]; rfl⟩
  · have hie : i = r.fs.length := by omega
    subst hie
    simp +contextual (maxSteps := 1000000) (disch := first | omega | (with_reducible first | refine krN ?_ | refine krS ?_ | refine krP ?_ | refine krG ?_); kernel_rfl | refine kr ?_; simp only [go_sem, reduceCtorEq, Int.lt_irrefl, hZ]; done | fail) only [go_sem, seval, -List.reduceReplicate, Int.lt_irrefl, hZ]
    rw [List.take_length]
end Go.Proofs
namespace Go.Proofs
open Go Go.Idl
set_option linter.unusedSimpArgs false
variable {b : Bool}
section
variable {h : Nat → Ob} {n : Nat} {s : Int × Int} {os : List Office} {ms : List Man} {cs : List Rec} {fs : List (List Bool)} {lc : List (Nat × Vl)} {nx : Nat}
theorem rfC1 {k : Nat} (hn0 : 0 < n) (hn : os.length = k) : reify (CPr h n ⟨s, os, ms, cs, fs⟩) (.own (n) k) = some (.lst 3 (os.map encO) false, [n]) := reify_flat (.inl (CPr_1 hn0)) hn fun _ => rfl
theorem rfC3 {k : Nat} (hn : ms.length = k) : reify (CPr h n ⟨s, os, ms, cs, fs⟩) (.own ((n + 1)) k) = some (.lst 5 (ms.map encM) false, [(n + 1)]) := reify_flat (.inl CPr_3) hn fun _ => rfl
theorem rfC4 {k : Nat} (hn : cs.length = k) : reify (CPr h n ⟨s, os, ms, cs, fs⟩) (.own ((n + 2)) k) = some (.lst 7 (cs.map encC) false, [(n + 2)]) := reify_flat (.inl CPr_4) hn fun _ => rfl
theorem rfC2 {k : Nat} (hn : fs.length = k) : reify (CPr h n ⟨s, os, ms, cs, fs⟩) (.own (n + 3) k) = some (.lst 1 (fs.map encRow) false, (n + 3) :: ((List.range fs.length).map fun j => [n + 4 + j]).flatten) := by
  have hl : (farL n fs).length = k := by unfold farL; rw [List.length_map, List.length_range]; exact hn
  unfold reify
  simp only [reifyF, CPr_2, hl, if_true]
  have e : fs.map encRow = (List.range fs.length).map fun j => Vl.lst 1 ((fs[j]!).map .bool) false := by
    apply List.ext_getElem (by simp)
    intro i h1 h2
    rw [List.getElem_map, List.getElem_map, List.getElem_range, get!_eq]
    rfl
  rw [e]
  unfold farL
  rw [mapR_map (g := fun j => Vl.lst 1 ((fs[j]!).map .bool) false) (k := fun j => [n + 4 + j]) fun j hj => ?_]
  · rfl
  · have hr := CPr_row (h := h) (n := n) (s := s) (os := os) (ms := ms) (cs := cs) (fs := fs) (List.mem_range.1 hj)
    simp only [reifyF, hr, List.length_map, if_true]
    rw [mapR_map (g := fun x => Vl.bool x) (k := fun _ => []) fun x _ => rfl, flat_nil]
    rfl
end
attribute [go_sem] UrnOk_CPr urnAt_CPr CPr_s
section
variable {α : Type} [Inhabited α] {f : α → α} {l : List α} {i : Nat}
end
end Go.Proofs
namespace Go.Proofs
open Go Go.Idl
set_option linter.unusedSimpArgs false
variable {b : Bool}
end Go.Proofs
namespace Go.Proofs
open Go Go.Idl
set_option linter.unusedSimpArgs false
variable {b : Bool}
def encS (p : Int × Int) : Vl := Sp p.1 p.2
section
variable {m : Mem} {K : Vl → Mem → Prop}
end
end Go.Proofs
