/- What functions of the given program do in the ideal machine (J8, J9), and the plain laws of what they answer; the conditions stand in each theorem. -/
import Derived.Test.YtoamjmokonnglaaDoorJb
set_option linter.all false
set_option linter.unusedSectionVars false
set_option linter.unusedSimpArgs false
set_option linter.unusedVariables false
namespace Go.Proofs
open Go Go.Idl Go.Dt
set_option linter.unusedSimpArgs false
variable {b : Nat}
theorem erasL_app : ∀ (l : List (Int × Int)) (i : Nat) (s : Int × Int) (T : List Int), erasL i (l ++ [s]) T = withinL (erasL i l T) 0 (7 + (i + l.length)) s.1 s.2
  | [], i, s, T => rfl
  | a :: l, i, s, T => by
    show erasL (i + 1) (l ++ [s]) (withinL T 0 (7 + i) a.1 a.2) = _
    rw [erasL_app l (i + 1) s, List.length_cons, show i + 1 + l.length = i + (l.length + 1) by omega]; rfl
set_option maxRecDepth 10000 in
set_option maxHeartbeats 4000000 in
theorem tables1_to {d : Dt} (hd : DtOk d) {o1 o2 : Option Bool} {kk nx : Nat} {hp : Nat → Ob} {J : List (List Int) → (Nat → Ob) → Nat → Prop} {Z : (Nat → Ob) → Nat → Prop}
    (hJ : ∀ done x (m : Mem), (∃ rest, tabsL d = done ++ x :: rest) → GT x → Bnd 1073741824 x → nx + 3 ≤ m.nx → J done m.hp m.nx → WC Tryd.prog (AA b) (.yld kk) [.v (tV x)] m fun w m' => m'.lc = m.lc ∧ m.nx ≤ m'.nx ∧ (∀ i, nx ≤ i → i < nx + 3 → m'.hp i = m.hp i) ∧ ((w = .bool true ∧ J (done ++ [x]) m'.hp m'.nx) ∨ (w = .bool false ∧ Z m'.hp m'.nx)))
    (hF : ∀ done hp n o, nx ≤ n → J done hp n → J done (upd hp n o) (n + 1)) (h0 : J [] hp nx) :
    HAns Tryd.prog (AA b) 45 [.yld kk, .fp (encD o1 o2 d) 0] hp nx fun w hp' nx' => nx ≤ nx' ∧ (J (tabsL d) hp' nx' ∨ Z hp' nx') := by
  refine HAns_of Tryd.func45 rfl ?_
  have hbl := blank_len
  simp +contextual (maxSteps := 1000000) (disch := first | omega | (with_reducible first | refine krN ?_ | refine krS ?_ | refine krP ?_ | refine krG ?_); kernel_rfl | refine kr ?_; simp only [go_sem, reduceCtorEq, newBox, wc46, hbl]; done | fail) only [go_sem, seval, -List.reduceReplicate, newBox, wc46, hbl]
  have he3 := hd.eras_l
  refine wp_loop_to d.eras.length (fun i st => ∃ ex, st = ({ sl := (1, .fp (encD o1 o2 d) 0) :: (2, .bp nx 0) :: (3, .bp (nx + 1) 0) :: (11, SL 2 (d.eras.map encS) o1) :: (12, I d.eras.length) :: (13, I i) :: ex, hp := upd (upd hp nx (.box (.yld kk))) (nx + 1) (.box (tV (erasL 0 (d.eras.take i) blankL))), nx := nx + 1 + 1 } : FS)) ?_ 0 (Nat.zero_le _) ⟨_, rfl⟩
  rintro i st hi ⟨ex, rfl⟩
  have hL := eras_len (d.eras.take i) 0 blankL blank_len
  by_cases hc : i < d.eras.length
  · have hs := hd.eras _ (get!_mem hc)
    unfold SpanOk at hs
    have htk := take_snoc hc
    have hlt : (d.eras.take i).length = i := by rw [List.length_take]; omega
    have hap := erasL_app (d.eras.take i) 0 d.eras[i]! blankL
    rw [← htk, hlt, Nat.zero_add] at hap
    have hw : IntKind.wrap .i64 (7 + (i : Int)) = ((7 + i : Nat) : Int) := by rw [wrap_i64 (by omega) (by omega)]; omega
    generalize erasL 0 (d.eras.take i) blankL = T at hL hap
    have hw96 := fun K => wc47 (b := b) (m := { lc := [], hp := upd (upd hp nx (.box (.yld kk))) (nx + 1) (.box (.agg (T.map I))), nx := nx + 1 + 1 }) (K := K) hL (a := 0) (c := 7 + i) (by omega) (by omega) (lo := d.eras[i]!.1) (hi := d.eras[i]!.2) (by omega) (upd_same _ _ _)
    simp only [Int.cast_ofNat_Int] at hw96
    simp +contextual (maxSteps := 1000000) (disch := first | omega | (with_reducible first | refine krN ?_ | refine krS ?_ | refine krP ?_ | refine krG ?_); kernel_rfl | refine kr ?_; simp only [go_sem, reduceCtorEq, Int.ofNat_lt, hc, ix_map, hw, hw96, upd_upd, ← hap]; done | fail) only [go_sem, seval, -List.reduceReplicate, Int.ofNat_lt, hc, ix_map, hw, hw96, upd_upd, ← hap]
    exact ⟨_, rfl⟩
  · have hie : i = d.eras.length := by omega
    subst hie
    rw [List.take_length] at hL ⊢
    have hB := eras_bnd d.eras 0 blankL blank_len (by omega) hd.eras blank_bnd
    have hbase := base_GT hd
    have htab : tabsL d = if (clsL (erasL 0 d.eras blankL)).2 then waysL (d.notes.map Nt.wk) (clsL (erasL 0 d.eras blankL)).1 else [] := rfl
    have hcl := clsL_len hL
    have j3 := hF [] _ _ (.box (.fn (.func 48) [] (capD d o1 o2 nx (nx + 2)))) (by omega) (hF [] _ _ (.box (tV (erasL 0 d.eras blankL))) (by omega) (hF [] _ _ (.box (.yld kk)) (Nat.le_refl nx) h0))
    generalize erasL 0 d.eras blankL = T at hL hB hbase htab hcl j3
    cases h2 : (clsL T).2 with
    | false =>
      simp +contextual (maxSteps := 1000000) (disch := first | omega | (with_reducible first | refine krN ?_ | refine krS ?_ | refine krP ?_ | refine krG ?_); kernel_rfl | refine kr ?_; simp only [go_sem, reduceCtorEq, Int.lt_irrefl, newBox, wc51, hL, hB, hcl, h2, upd_upd]; done | fail) only [go_sem, seval, -List.reduceReplicate, Int.lt_irrefl, newBox, wc51, hL, hB, hcl, h2, upd_upd]
      rw [h2, if_neg (by simp)] at htab
      rw [htab]
      exact ⟨by omega, .inl j3⟩
    | true =>
      obtain ⟨g1, g2⟩ := hbase h2
      simp +contextual (maxSteps := 1000000) (disch := first | omega | (with_reducible first | refine krN ?_ | refine krS ?_ | refine krP ?_ | refine krG ?_); kernel_rfl | refine kr ?_; simp only [go_sem, reduceCtorEq, Int.lt_irrefl, newBox, wc51, hL, hB, hcl, h2, upd_upd]; done | fail) only [go_sem, seval, -List.reduceReplicate, Int.lt_irrefl, newBox, wc51, hL, hB, hcl, h2, upd_upd]
      rw [h2, if_pos rfl] at htab
      have hnx := next_to (b := b) hd (o1 := o1) (o2 := o2) (lo := nx) (i2 := nx) (i6 := nx + 2) (kk := kk) (FU := tabsL d) ⟨by omega, by omega⟩ ⟨by omega, by omega⟩ hJ (fun done hp n o h => hF done hp n o (by omega)) d.notes.length 0 (by omega) (clsL T).1
        (upd (upd (upd hp nx (.box (.yld kk))) (nx + 1) (.box (tV T))) (nx + 1 + 1) (.box (.fn (.func 48) [] (capD d o1 o2 nx (nx + 2))))) (nx + 1 + 1 + 1) [] [] (by rw [List.drop_zero, htab]; simp) g1 g2 (by omega) j3
        (by rw [upd_ne _ _ (by omega), upd_ne _ _ (by omega), upd_same]) (upd_same _ _ _)
      rw [List.drop_zero, ← htab, List.nil_append] at hnx
      refine wc_heap (by simp only [mkAnn, K48]) rfl hnx ?_
      rintro w hp4 nx4 ⟨hn4, hk4, hw⟩
      rcases hw with ⟨rfl, hw⟩ | ⟨rfl, hw⟩
      · simp +contextual (maxSteps := 1000000) (disch := first | omega | (with_reducible first | refine krN ?_ | refine krS ?_ | refine krP ?_ | refine krG ?_); kernel_rfl | refine kr ?_; simp only [go_sem, reduceCtorEq]; done | fail) only [go_sem, seval, -List.reduceReplicate]
        exact ⟨by omega, .inl hw⟩
      · simp +contextual (maxSteps := 1000000) (disch := first | omega | (with_reducible first | refine krN ?_ | refine krS ?_ | refine krP ?_ | refine krG ?_); kernel_rfl | refine kr ?_; simp only [go_sem, reduceCtorEq]; done | fail) only [go_sem, seval, -List.reduceReplicate]
        exact ⟨by omega, .inr hw⟩
theorem app100_nils {m : Mem} {x : Vl} {o : Bool} : isAppend Tryd.prog 50 50 .nils (.lst 100 [x] o) m = some (.own m.nx 1, { m with hp := upd m.hp m.nx (.arr 100 [x]), nx := m.nx + 1 }) := app1_nils (by rw [td50]) rfl
theorem app100_own {m : Mem} {id n : Nat} {xs : List Vl} {x : Vl} {o : Bool} (ho : m.hp id = .arr 100 xs) (hn : xs.length = n) (hs : n < 100000) : isAppend Tryd.prog 50 50 (.own id n) (.lst 100 [x] o) m = some (.own id (n + 1), { m with hp := upd m.hp id (.arr 100 (xs ++ [x])) }) :=
  app1_own (by rw [td50]) ho hn (grow_ok rfl rfl (by decide) (by decide) (by omega))
theorem waysL_len : ∀ (ns : List Wk), (∀ n ∈ ns, n.ways.length ≤ 3) → ∀ T : List Int, (waysL ns T).length ≤ 3 ^ ns.length
  | [], _, T => by simp [waysL]
  | n :: ns, h, T => by
    have ih := waysL_len ns (fun q hq => h q (List.mem_cons_of_mem _ hq))
    have hn := h n (List.mem_cons_self ..)
    have key : ∀ l : List (Int × Int), (l.flatMap fun s => if (clsL (withinL T n.a n.b s.1 s.2)).2 then waysL ns (clsL (withinL T n.a n.b s.1 s.2)).1 else []).length ≤ l.length * 3 ^ ns.length := by
      intro l
      induction l with
      | nil => simp
      | cons s l ihl =>
        rw [List.flatMap_cons, List.length_append, List.length_cons, Nat.succ_mul]
        have : (if (clsL (withinL T n.a n.b s.1 s.2)).2 then waysL ns (clsL (withinL T n.a n.b s.1 s.2)).1 else []).length ≤ 3 ^ ns.length := by
          split
          · exact ih _
          · simp
        omega
    refine Nat.le_trans (key n.ways) ?_
    rw [List.length_cons, Nat.pow_succ, Nat.mul_comm]
    exact Nat.mul_le_mul_left _ hn
theorem tabs_len {d : Dt} (hd : DtOk d) : (tabsL d).length ≤ 6561 := by
  unfold tabsL
  split
  · refine Nat.le_trans (waysL_len _ (fun n hn => ?_) _) ?_
    · obtain ⟨m, hm, rfl⟩ := List.mem_map.1 hn
      exact (wk_ways hd hm).1
    · rw [List.length_map]
      have := hd.notes_l
      exact Nat.pow_le_pow_right (n := 3) (by decide) this
  · simp
def tabsV (d : Dt) : Vl := SL 100 ((tabsL d).map tV) none
def Gath (lp : Ob) (done : List (List Int)) (hp : Nat → Ob) (nx : Nat) : Prop := 2 ≤ nx ∧ hp 1 = lp ∧ ((done = [] ∧ hp 0 = .box .nils) ∨ (done ≠ [] ∧ ∃ a, 5 ≤ a ∧ a < nx ∧ hp 0 = .box (.own a done.length) ∧ hp a = .arr 100 (done.map tV)))
theorem Gath.mk1 {lp : Ob} {done : List (List Int)} {hp : Nat → Ob} {nx a : Nat} (h1 : 2 ≤ nx) (h2 : hp 1 = lp) (h3 : done ≠ []) (h4 : 5 ≤ a) (h5 : a < nx) (h6 : hp 0 = .box (.own a done.length)) (h7 : hp a = .arr 100 (done.map tV)) : Gath lp done hp nx := ⟨h1, h2, .inr ⟨h3, a, h4, h5, h6, h7⟩⟩
theorem Gath.mk0 {lp : Ob} {hp : Nat → Ob} {nx : Nat} (h1 : 2 ≤ nx) (h2 : hp 1 = lp) (h6 : hp 0 = .box .nils) : Gath lp [] hp nx := ⟨h1, h2, .inl ⟨rfl, h6⟩⟩
set_option maxRecDepth 10000 in
set_option maxHeartbeats 4000000 in
theorem appendSeq_to {d : Dt} (hd : DtOk d) {o1 o2 : Option Bool} :
    HAns Tryd.prog (AA b) 54 [.nils, .fn (.func 45) [] [.fp (encD o1 o2 d) 0]] noHeap 0 fun v hp' nx' => (tabsL d = [] ∧ v = .nils) ∨ (tabsL d ≠ [] ∧ ∃ a, v = .own a (tabsL d).length ∧ hp' a = .arr 100 ((tabsL d).map tV)) := by
  refine HAns_of Tryd.func54 rfl ?_
  simp +contextual (maxSteps := 1000000) (disch := first | omega | (with_reducible first | refine krN ?_ | refine krS ?_ | refine krP ?_ | refine krG ?_); kernel_rfl | refine kr ?_; simp only [go_sem, reduceCtorEq, newBox]; done | fail) only [go_sem, seval, -List.reduceReplicate, newBox]
  refine wp_rangeFunc (.inl rfl) rfl ?_
  simp only [List.nil_append, List.append_nil, List.cons_append, noLoc, noLocV, Array.toList, List.singleton_append]
  generalize hlp : Ob.loop 54 _ _ _ _ _ = lp
  refine HAns.mono (tables1_to (b := b) (o1 := o1) (o2 := o2) (J := Gath lp) (Z := fun _ _ => False) hd ?_ ?_ ?_) ?_
  · rintro done x ⟨lc, hp, nx⟩ hpre hxg hxb hnx ⟨j1, j2, j3⟩
    simp only at hnx j1 j2 j3 ⊢
    subst hlp
    have hdl : done.length < 100000 := by
      obtain ⟨rest, e⟩ := hpre
      have := tabs_len hd
      rw [e] at this
      simp at this; omega
    have hxl := hxg.good.len
    refine wc_yld (vs := [tV x]) rfl rfl j2 ?_
    have u1 : ∀ o, upd hp nx o 1 = hp 1 := fun o => upd_ne _ _ (by omega)
    have u0 : ∀ o, upd hp nx o 0 = hp 0 := fun o => upd_ne _ _ (by omega)
    have v1 : ∀ (h : Nat → Ob) o, upd h 1 o 0 = h 0 := fun h o => upd_ne _ _ (by decide)
    have v2 : ∀ (h : Nat → Ob) o, upd h 1 o nx = h nx := fun h o => upd_ne _ _ (by omega)
    simp +contextual (maxSteps := 1000000) (disch := first | omega | (with_reducible first | refine krN ?_ | refine krS ?_ | refine krP ?_ | refine krG ?_); kernel_rfl | refine kr ?_; simp only [go_sem, reduceCtorEq, newBox, setPs, u1, u0, j2, v1, v2, hxl]; done | fail) only [go_sem, seval, -List.reduceReplicate, newBox, setPs, u1, u0, j2, v1, v2, hxl]
    have k3 : ∀ o o' i, 1 + 1 ≤ i → i < 1 + 1 + 3 → upd (upd hp nx o) 1 o' i = hp i := fun o o' i h1 h2 => by rw [upd_ne _ _ (by omega), upd_ne _ _ (by omega)]
    rcases j3 with ⟨rfl, j3⟩ | ⟨hdn, a, k1, k2, k4, k5⟩
    · simp +contextual (maxSteps := 1000000) (disch := first | omega | (with_reducible first | refine krN ?_ | refine krS ?_ | refine krP ?_ | refine krG ?_); kernel_rfl | refine kr ?_; simp only [go_sem, reduceCtorEq, newBox, j2, j3, app100_nils]; done | fail) only [go_sem, seval, -List.reduceReplicate, newBox, j2, j3, app100_nils]
      refine ⟨by omega, .inl (Gath.mk1 (a := nx + 1) ?_ (upd_same _ _ _) ?_ ?_ ?_ ?_ ?_)⟩
      · omega
      · simp
      · omega
      · omega
      · rw [upd_ne _ _ (by decide), upd_same]; rfl
      · rw [upd_ne _ _ (by omega), upd_ne _ _ (by omega), upd_same]; rfl
    · have hap : ∀ (t : Bool) (o : Ob) (n' : Nat) (o1 : Ob), isAppend Tryd.prog 50 50 (.own a done.length) (.lst 100 [.agg (x.map I)] t) { lc := [], hp := upd (upd hp nx o1) 1 o, nx := n' } = some (.own a (done.length + 1), { lc := [], hp := upd (upd (upd hp nx o1) 1 o) a (.arr 100 (done.map tV ++ [.agg (x.map I)])), nx := n' }) := fun t o n' o1 =>
        app100_own (by show upd (upd hp nx o1) 1 o a = _; rw [upd_ne _ _ (by omega), upd_ne _ _ (by omega)]; exact k5) (by simp) hdl
      simp +contextual (maxSteps := 1000000) (disch := first | omega | (with_reducible first | refine krN ?_ | refine krS ?_ | refine krP ?_ | refine krG ?_); kernel_rfl | refine kr ?_; simp only [go_sem, reduceCtorEq, newBox, j2, k4, hap]; done | fail) only [go_sem, seval, -List.reduceReplicate, newBox, j2, k4, hap]
      refine ⟨by omega, .inl (Gath.mk1 (a := a) ?_ (upd_same _ _ _) ?_ k1 ?_ ?_ ?_)⟩
      · omega
      · simp
      · omega
      · rw [upd_ne _ _ (by decide), upd_same, List.length_append]; rfl
      · rw [upd_ne _ _ (by omega), upd_ne _ _ (by omega), upd_same, List.map_append]; rfl
  · rintro done hp n o hn ⟨j1, j2, j3⟩
    rcases j3 with ⟨rfl, j3⟩ | ⟨hdn, a, k1, k2, k3, k4⟩
    · exact Gath.mk0 (by omega) (by rw [upd_ne _ _ (by omega)]; exact j2) (by rw [upd_ne _ _ (by omega)]; exact j3)
    · exact Gath.mk1 (by omega) (by rw [upd_ne _ _ (by omega)]; exact j2) hdn k1 (by omega) (by rw [upd_ne _ _ (by omega)]; exact k3) (by rw [upd_ne _ _ (by omega)]; exact k4)
  · exact Gath.mk0 (by omega) (upd_same _ _ _) (by rw [upd_ne _ _ (by decide), upd_same])
  · rintro v hp' nx' ⟨hn, j⟩
    rcases j with ⟨j1, j2, j3⟩ | j
    · subst hlp
      refine .inl ⟨_, _, _, _, _, j2, ?_⟩
      rcases j3 with ⟨e, j3⟩ | ⟨hdn, a, k1, k2, k3, k4⟩
      · have v1 : ∀ o, upd hp' 1 o 0 = hp' 0 := fun o => upd_ne _ _ (by decide)
        simp +contextual (maxSteps := 1000000) (disch := first | omega | (with_reducible first | refine krN ?_ | refine krS ?_ | refine krP ?_ | refine krG ?_); kernel_rfl | refine kr ?_; simp only [go_sem, reduceCtorEq, v1, j3]; done | fail) only [go_sem, seval, -List.reduceReplicate, v1, j3]
        exact .inl e
      · have v1 : ∀ o, upd hp' 1 o 0 = hp' 0 := fun o => upd_ne _ _ (by decide)
        have v2 : ∀ o, upd hp' 1 o a = hp' a := fun o => upd_ne _ _ (by omega)
        simp +contextual (maxSteps := 1000000) (disch := first | omega | (with_reducible first | refine krN ?_ | refine krS ?_ | refine krP ?_ | refine krG ?_); kernel_rfl | refine kr ?_; simp only [go_sem, reduceCtorEq, v1, v2, k3, k4]; done | fail) only [go_sem, seval, -List.reduceReplicate, v1, v2, k3, k4]
        exact .inr ⟨hdn, a, rfl, by rw [v2]; exact k4⟩
    · exact j.elim
theorem tables_to {d : Dt} {o1 o2 : Option Bool} : Ans Tryd.prog (AA b) 32 [encD o1 o2 d] (fun v => v = .fn (.func 45) [] [.fp (encD o1 o2 d) 0]) := by
  refine Ans_of Tryd.func32 rfl rfl ?_
  simp +contextual (maxSteps := 1000000) (disch := first | omega | (with_reducible first | refine krN ?_ | refine krS ?_ | refine krP ?_ | refine krG ?_); kernel_rfl | refine kr ?_; simp only [go_sem, reduceCtorEq, newBox]; done | fail) only [go_sem, seval, -List.reduceReplicate, newBox]
  refine OB_intro (reify_fnbp (upd_same _ _ _) (clD o1 o2 d)) rfl
theorem cltV (T : List Int) : (tV T).closed = true := closedL_T T
theorem clTabs (d : Dt) : (tabsV d).closed = true := closed_SL (closedL_map cltV _)
theorem collect_to {d : Dt} (hd : DtOk d) {o1 o2 : Option Bool} : Ans Tryd.prog (AA b) 38 [.fn (.func 45) [] [.fp (encD o1 o2 d) 0]] (fun v => v = tabsV d) := by
  refine Ans_of Tryd.func38 rfl rfl ?_
  simp +contextual (maxSteps := 1000000) (disch := first | omega | (with_reducible first | refine krN ?_ | refine krS ?_ | refine krP ?_ | refine krG ?_); kernel_rfl | refine kr ?_; simp only [go_sem, reduceCtorEq]; done | fail) only [go_sem, seval, -List.reduceReplicate]
  refine wc_heap (by simp only [mkAnn, K54]) rfl (appendSeq_to (b := b) (o1 := o1) (o2 := o2) hd) ?_
  rintro v hp' nx' hv
  rcases hv with ⟨e, rfl⟩ | ⟨hne, a, rfl, ha⟩
  · simp +contextual (maxSteps := 1000000) (disch := first | omega | (with_reducible first | refine krN ?_ | refine krS ?_ | refine krP ?_ | refine krG ?_); kernel_rfl | refine kr ?_; simp only [go_sem, reduceCtorEq]; done | fail) only [go_sem, seval, -List.reduceReplicate]
    rw [tabsV, e]; rfl
  · simp +contextual (maxSteps := 1000000) (disch := first | omega | (with_reducible first | refine krN ?_ | refine krS ?_ | refine krP ?_ | refine krG ?_); kernel_rfl | refine kr ?_; simp only [go_sem, reduceCtorEq]; done | fail) only [go_sem, seval, -List.reduceReplicate]
    refine OB_intro (reify_flat (.inl ha) rfl fun T => ?_) ?_
    · exact reify_closedV _ (cltV T)
    · have : (tabsL d).map tV ≠ [] := by simpa using hne
      rw [tabsV, SL]
      cases h : (tabsL d).map tV with
      | nil => exact absurd h this
      | cons x l => rfl
section
variable {m : Mem} {K : Vl → Mem → Prop}
theorem wc32 {d : Dt} {o1 o2 : Option Bool} : WC Tryd.prog (AA b) (.fn (.func 32) [] []) [.v (encD o1 o2 d)] m K = K (.fn (.func 45) [] [.fp (encD o1 o2 d) 0]) m :=
  WC_closed (by simp only [mkAnn, K32]) (rfAs (xs := [encD o1 o2 d]) (by simp only [closedL, clD, Bool.and_self])) (reify_fp0 (f := .func 45) (clD o1 o2 d)) tables_to
theorem wc38 {d : Dt} (hd : DtOk d) {o1 o2 : Option Bool} : WC Tryd.prog (AA b) (.fn (.func 38) [] []) [.v (.fn (.func 45) [] [.fp (encD o1 o2 d) 0])] m K = K (tabsV d) m :=
  WC_closed (by simp only [mkAnn, K38]) (rfAs (xs := [.fn (.func 45) [] [.fp (encD o1 o2 d) 0]]) (by simp only [closedL, reify_fp0 (f := .func 45) (clD o1 o2 d), Bool.and_self])) (clTabs d) (collect_to hd)
end
end Go.Proofs
namespace Go.Proofs
open Go Go.Idl Go.Dt
set_option linter.unusedSimpArgs false
variable {b : Nat}
def ysE : Int → List Int → Int
  | _, [] => 0
  | p, y :: l => if ¬ (-3000 ≤ y ∧ y ≤ 3000) then 1 else if y ≤ p then 5 else ysE y l
def yearsE (n : Nt) : Int := if n.other ≠ 0 ∨ ¬ (n.lo = 0 ∧ n.hi = 0) then 2 else if n.ys.length = 0 then 7 else if 3 < n.ys.length then 6 else ysE (-4000) n.ys
def noteE (d : Dt) (n : Nt) : Int :=
  if ¬ (1 ≤ n.kind ∧ n.kind ≤ 4) then 8
  else if ¬ (0 ≤ n.stone ∧ n.stone ≤ d.stones - 1) then 3
  else if n.kind = 1 then yearsE n
  else if n.kind = 2 then (if n.other ≠ 0 ∨ 0 < n.ys.length then 2 else spanE n.lo n.hi)
  else if n.kind = 3 then (if ¬ (0 ≤ n.other ∧ n.other ≤ (d.eras.length : Int) - 1) then 3 else if 0 < n.ys.length then 2 else if spanE n.lo n.hi ≠ 0 then spanE n.lo n.hi else if n.lo < 1 then 1 else 0)
  else (if ¬ (0 ≤ n.other ∧ n.other ≤ d.stones - 1) then 3 else if n.other = n.stone ∨ 0 < n.ys.length then 2 else spanE n.lo n.hi)
def firstE : List Int → Int
  | [] => 0
  | e :: l => if e ≠ 0 then e else firstE l
def checkE (d : Dt) : Int :=
  if d.stones < 1 then 7 else if 6 < d.stones ∨ 3 < d.eras.length then 6
  else if firstE (d.eras.map fun s => spanE s.1 s.2) ≠ 0 then firstE (d.eras.map fun s => spanE s.1 s.2)
  else if 8 < d.notes.length then 6 else firstE (d.notes.map (noteE d))
theorem spanE_ok {lo hi : Int} : spanE lo hi = 0 ↔ SpanOk lo hi := by
  unfold spanE SpanOk
  split
  · omega
  · split <;> omega
theorem firstE_ok : ∀ {l : List Int}, firstE l = 0 ↔ ∀ e ∈ l, e = 0
  | [] => by simp [firstE]
  | e :: l => by
    unfold firstE
    by_cases h : e = 0
    · simp [h, firstE_ok (l := l)]
    · simp [h]
theorem ysE_ok : ∀ {l : List Int} {p : Int}, ysE p l = 0 ↔ (∀ y ∈ l, -3000 ≤ y ∧ y ≤ 3000) ∧ ∀ i, i < l.length → (if i = 0 then p else l[i - 1]!) < l[i]!
  | [], p => by simp [ysE]
  | y :: l, p => by
    unfold ysE
    by_cases h1 : -3000 ≤ y ∧ y ≤ 3000
    · rw [if_neg (by simp [h1])]
      by_cases h2 : y ≤ p
      · rw [if_pos h2]
        refine ⟨fun h => (by cases h), fun h => ?_⟩
        have := h.2 0 (by simp)
        simp at this; omega
      · rw [if_neg h2, ysE_ok (l := l) (p := y)]
        constructor
        · rintro ⟨a, c⟩
          refine ⟨fun z hz => ?_, fun i hi => ?_⟩
          · rcases List.mem_cons.1 hz with rfl | hz
            · exact h1
            · exact a z hz
          · cases i with
            | zero => simp; omega
            | succ i =>
              have := c i (by simpa using hi)
              cases i with
              | zero => simpa using this
              | succ i => simpa using this
        · rintro ⟨a, c⟩
          refine ⟨fun z hz => a z (List.mem_cons_of_mem _ hz), fun i hi => ?_⟩
          have := c (i + 1) (by simpa using hi)
          cases i with
          | zero => simpa using this
          | succ i => simpa using this
    · rw [if_pos h1]
      refine ⟨fun h => (by cases h), fun h => absurd (h.1 y (List.mem_cons_self ..)) h1⟩
theorem yearsE_ok {n : Nt} : yearsE n = 0 ↔ n.other = 0 ∧ n.lo = 0 ∧ n.hi = 0 ∧ 1 ≤ n.ys.length ∧ n.ys.length ≤ 3 ∧ (∀ y ∈ n.ys, -3000 ≤ y ∧ y ≤ 3000) ∧ ∀ i, 0 < i → i < n.ys.length → n.ys[i - 1]! < n.ys[i]! := by
  unfold yearsE
  by_cases h1 : n.other ≠ 0 ∨ ¬ (n.lo = 0 ∧ n.hi = 0)
  · rw [if_pos h1]
    refine ⟨fun h => (by cases h), fun h => ?_⟩
    omega
  · rw [if_neg h1]
    by_cases h2 : n.ys.length = 0
    · rw [if_pos h2]
      refine ⟨fun h => (by cases h), fun h => ?_⟩
      omega
    · rw [if_neg h2]
      by_cases h3 : 3 < n.ys.length
      · rw [if_pos h3]
        refine ⟨fun h => (by cases h), fun h => ?_⟩
        omega
      · rw [if_neg h3, ysE_ok]
        constructor
        · rintro ⟨a, c⟩
          refine ⟨by omega, by omega, by omega, by omega, by omega, a, fun i h1 h2 => ?_⟩
          have := c i h2
          rw [if_neg (by omega)] at this
          exact this
        · rintro ⟨_, _, _, _, _, a, c⟩
          refine ⟨a, fun i hi => ?_⟩
          by_cases e : i = 0
          · subst e
            rw [if_pos rfl]
            have := a _ (get!_mem hi)
            omega
          · rw [if_neg e]
            exact c i (by omega) hi
theorem noteE_ok {d : Dt} {n : Nt} : noteE d n = 0 ↔ NtOk d n := by
  unfold noteE
  constructor
  · intro h
    split at h
    · cases h
    · rename_i h1
      split at h
      · cases h
      · rename_i h2
        have h1 : 1 ≤ n.kind ∧ n.kind ≤ 4 := by omega
        have h2 : 0 ≤ n.stone ∧ n.stone < d.stones := by omega
        split at h
        · rename_i k
          exact ⟨h1, h2, fun _ => yearsE_ok.1 h, fun h => absurd k h, fun h => by omega, fun h => by omega, fun h => by omega⟩
        · rename_i k1
          split at h
          · rename_i k2
            split at h
            · cases h
            · rename_i h3
              refine ⟨h1, h2, fun h => absurd h k1, fun _ => ⟨List.length_eq_zero_iff.1 (by omega), spanE_ok.1 h⟩, fun _ => by omega, fun h => by omega, fun h => by omega⟩
          · rename_i k2
            split at h
            · rename_i k3
              split at h
              · cases h
              · rename_i h3
                split at h
                · cases h
                · rename_i h4
                  split at h
                  · rename_i h5; exact absurd h h5
                  · rename_i h5
                    split at h
                    · cases h
                    · rename_i h6
                      refine ⟨h1, h2, fun h => absurd h k1, fun _ => ⟨List.length_eq_zero_iff.1 (by omega), spanE_ok.1 (by simpa using h5)⟩, fun h => by omega, fun _ => by omega, fun h => by omega⟩
            · rename_i k3
              split at h
              · cases h
              · rename_i h3
                split at h
                · cases h
                · rename_i h4
                  refine ⟨h1, h2, fun h => absurd h k1, fun _ => ⟨List.length_eq_zero_iff.1 (by omega), spanE_ok.1 h⟩, fun h => by omega, fun h => by omega, fun _ => by omega⟩
  · intro h
    have h1 := h.kind
    have h2 := h.stone
    rw [if_neg (by simp [h1]), if_neg (by omega)]
    by_cases k1 : n.kind = 1
    · rw [if_pos k1]; exact yearsE_ok.2 (h.years k1)
    · obtain ⟨s1, s2⟩ := h.span k1
      have s3 := spanE_ok.2 s2
      rw [if_neg k1, s1, s3]
      by_cases k2 : n.kind = 2
      · rw [if_pos k2, if_neg (by have := h.plain k2; simp [this])]
      · rw [if_neg k2]
        by_cases k3 : n.kind = 3
        · have := h.era k3
          rw [if_pos k3, if_neg (by omega), if_neg (by simp), if_neg (by simp), if_neg (by omega)]
        · have := h.after (by omega)
          rw [if_neg k3, if_neg (by omega), if_neg (by simp; omega)]
theorem checkE_ok {d : Dt} : checkE d = 0 ↔ DtOk d := by
  unfold checkE
  constructor
  · intro h
    split at h
    · cases h
    · rename_i h1
      split at h
      · cases h
      · rename_i h2
        split at h
        · rename_i h3; exact absurd h h3
        · rename_i h3
          split at h
          · cases h
          · rename_i h4
            have h3 := firstE_ok.1 (by simpa using h3)
            have h := firstE_ok.1 h
            refine ⟨by omega, by omega, fun s hs => spanE_ok.1 (h3 _ (List.mem_map_of_mem hs)), by omega, fun n hn => noteE_ok.1 (h _ (List.mem_map_of_mem hn))⟩
  · intro h
    have h1 := h.stones
    have h2 := h.eras_l
    have h3 := h.notes_l
    have h4 : firstE (d.eras.map fun s => spanE s.1 s.2) = 0 := firstE_ok.2 fun e he => by
      obtain ⟨s, hs, rfl⟩ := List.mem_map.1 he
      exact spanE_ok.2 (h.eras s hs)
    have h5 : firstE (d.notes.map (noteE d)) = 0 := firstE_ok.2 fun e he => by
      obtain ⟨s, hs, rfl⟩ := List.mem_map.1 he
      exact noteE_ok.2 (h.notes s hs)
    rw [if_neg (by omega), if_neg (by omega), if_neg (by simp [h4]), if_neg (by omega)]
    exact h5
end Go.Proofs
