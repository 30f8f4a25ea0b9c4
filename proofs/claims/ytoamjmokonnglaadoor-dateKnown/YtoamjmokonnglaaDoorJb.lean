/- What functions of the given program do in the ideal machine (J5, J6, J7), and the plain laws of what they answer; the conditions stand in each theorem. -/
import Derived.Test.YtoamjmokonnglaaDoorJa
set_option linter.all false
set_option linter.unusedSectionVars false
set_option linter.unusedSimpArgs false
set_option linter.unusedVariables false
namespace Go.Proofs
open Go Go.Idl Go.Dt
set_option linter.unusedSimpArgs false
variable {b : Nat}
@[reducible] def encS (s : Int × Int) : Vl := .agg [I s.1, I s.2]
@[reducible] def encN (n : Nt) : Vl := .agg [I n.kind, I n.stone, I n.other, SL 1 (n.ys.map I) n.fl, I n.lo, I n.hi]
@[reducible] def encD (o1 o2 : Option Bool) (d : Dt) : Vl := .agg [I d.stones, SL 2 (d.eras.map encS) o1, SL 6 (d.notes.map encN) o2]
theorem clS (s : Int × Int) : (encS s).closed = true := rfl
theorem clI (s : Int) : (I s).closed = true := rfl
theorem clIs (l : List Int) (o : Option Bool) : (SL 1 (l.map I) o).closed = true := closed_SL (closedL_map clI l)
theorem clN (n : Nt) : (encN n).closed = true := by simp only [encN, Vl.closed, closedL, clIs, Bool.and_self]
theorem clD (o1 o2 : Option Bool) (d : Dt) : (encD o1 o2 d).closed = true := by
  simp only [encD, Vl.closed, closedL, closed_SL (closedL_map clS d.eras), closed_SL (closedL_map clN d.notes), Bool.and_self]
def noteV (n : Nt) : Vl :=
  if n.kind = 1 then .ifc 119 (.agg [SL 1 (n.ys.map I) n.fl])
  else if n.kind = 3 then .ifc 121 (.agg [I (7 + n.other), I (n.lo - 1), I (n.hi - 1)])
  else if n.kind = 4 then .ifc 121 (.agg [I (1 + n.other), I n.lo, I n.hi])
  else .ifc 121 (.agg [I 0, I n.lo, I n.hi])
theorem clNote (n : Nt) : (noteV n).closed = true := by
  unfold noteV
  split
  · simp only [Vl.closed, closedL, clIs, Bool.and_self]
  · split
    · rfl
    · split <;> rfl
theorem noteOf_to {d : Dt} {n : Nt} (hn : NtOk d n) (hd : DtOk d) : Ans Tryd.prog (AA b) 49 [encN n] (fun v => v = noteV n) := by
  refine Ans_of Tryd.func49 rfl rfl ?_
  have h1 := hd.stones
  have h2 := hd.eras_l
  have hrf : ∀ hp, reify hp (noteV n) = some (noteV n, []) := fun hp => rfC (clNote n)
  by_cases e1 : n.kind = 1
  · rw [noteV, if_pos e1] at hrf ⊢
    rw [encN]
    rcases SL_cases 1 (n.ys.map I) n.fl with ⟨_, e⟩ | ⟨x, e⟩
    · rw [e] at hrf ⊢
      simp +contextual (maxSteps := 1000000) (disch := first | omega | (with_reducible first | refine krN ?_ | refine krS ?_ | refine krP ?_ | refine krG ?_); kernel_rfl | refine kr ?_; simp only [go_sem, reduceCtorEq, e1, hrf]; done | fail) only [go_sem, seval, -List.reduceReplicate, e1, hrf]
    · rw [e] at hrf ⊢
      simp +contextual (maxSteps := 1000000) (disch := first | omega | (with_reducible first | refine krN ?_ | refine krS ?_ | refine krP ?_ | refine krG ?_); kernel_rfl | refine kr ?_; simp only [go_sem, reduceCtorEq, e1, hrf]; done | fail) only [go_sem, seval, -List.reduceReplicate, e1, hrf]
  · have hs := (hn.span e1).2
    unfold SpanOk at hs
    by_cases e3 : n.kind = 3
    · have := hn.era e3
      rw [noteV, if_neg e1, if_pos e3] at hrf
      simp +contextual (maxSteps := 1000000) (disch := first | omega | (with_reducible first | refine krN ?_ | refine krS ?_ | refine krP ?_ | refine krG ?_); kernel_rfl | refine kr ?_; simp only [go_sem, reduceCtorEq, e1, e3, hrf]; done | fail) only [go_sem, seval, -List.reduceReplicate, e1, e3, hrf]
      rw [noteV, if_neg e1, if_pos e3]
    · by_cases e4 : n.kind = 4
      · have := hn.after e4
        rw [noteV, if_neg e1, if_neg e3, if_pos e4] at hrf
        simp +contextual (maxSteps := 1000000) (disch := first | omega | (with_reducible first | refine krN ?_ | refine krS ?_ | refine krP ?_ | refine krG ?_); kernel_rfl | refine kr ?_; simp only [go_sem, reduceCtorEq, e1, e3, e4, hrf]; done | fail) only [go_sem, seval, -List.reduceReplicate, e1, e3, e4, hrf]
        rw [noteV, if_neg e1, if_neg e3, if_pos e4]
      · rw [noteV, if_neg e1, if_neg e3, if_neg e4] at hrf
        simp +contextual (maxSteps := 1000000) (disch := first | omega | (with_reducible first | refine krN ?_ | refine krS ?_ | refine krP ?_ | refine krG ?_); kernel_rfl | refine kr ?_; simp only [go_sem, reduceCtorEq, e1, e3, e4, hrf]; done | fail) only [go_sem, seval, -List.reduceReplicate, e1, e3, e4, hrf]
        rw [noteV, if_neg e1, if_neg e3, if_neg e4]
theorem origin_to {d : Dt} {n : Nt} (hn : NtOk d n) (hd : DtOk d) : Ans Tryd.prog (AA b) 50 [noteV n] (fun v => v = I n.wk.a) := by
  refine Ans_of Tryd.func50 rfl rfl ?_
  have h1 := hd.stones
  have h2 := hd.eras_l
  by_cases e1 : n.kind = 1
  · rw [noteV, if_pos e1]
    simp +contextual (maxSteps := 1000000) (disch := first | omega | (with_reducible first | refine krN ?_ | refine krS ?_ | refine krP ?_ | refine krG ?_); kernel_rfl | refine kr ?_; simp only [go_sem, reduceCtorEq]; done | fail) only [go_sem, seval, -List.reduceReplicate]
    simp only [Nt.wk, if_pos e1]; rfl
  · by_cases e3 : n.kind = 3
    · have := hn.era e3
      rw [noteV, if_neg e1, if_pos e3]
      simp +contextual (maxSteps := 1000000) (disch := first | omega | (with_reducible first | refine krN ?_ | refine krS ?_ | refine krP ?_ | refine krG ?_); kernel_rfl | refine kr ?_; simp only [go_sem, reduceCtorEq]; done | fail) only [go_sem, seval, -List.reduceReplicate]
      simp only [Nt.wk, if_neg e1, if_pos e3]
      congr 1; omega
    · by_cases e4 : n.kind = 4
      · have := hn.after e4
        rw [noteV, if_neg e1, if_neg e3, if_pos e4]
        simp +contextual (maxSteps := 1000000) (disch := first | omega | (with_reducible first | refine krN ?_ | refine krS ?_ | refine krP ?_ | refine krG ?_); kernel_rfl | refine kr ?_; simp only [go_sem, reduceCtorEq]; done | fail) only [go_sem, seval, -List.reduceReplicate]
        simp only [Nt.wk, if_neg e1, if_neg e3, if_pos e4]
        congr 1; omega
      · rw [noteV, if_neg e1, if_neg e3, if_neg e4]
        simp +contextual (maxSteps := 1000000) (disch := first | omega | (with_reducible first | refine krN ?_ | refine krS ?_ | refine krP ?_ | refine krG ?_); kernel_rfl | refine kr ?_; simp only [go_sem, reduceCtorEq]; done | fail) only [go_sem, seval, -List.reduceReplicate]
        simp only [Nt.wk, if_neg e1, if_neg e3, if_neg e4]; rfl
end Go.Proofs
namespace Go.Proofs
open Go Go.Idl Go.Dt
set_option linter.unusedSimpArgs false
variable {b : Nat}
theorem ap22_nils {m : Mem} {x : Vl} {o : Bool} : isAppend Tryd.prog 22 22 .nils (.lst 2 [x] o) m = some (.own m.nx 1, { m with hp := upd m.hp m.nx (.arr 2 [x]), nx := m.nx + 1 }) := app1_nils (by rw [td22]) rfl
theorem ap22_own {m : Mem} {id n : Nat} {xs : List Vl} {x : Vl} {o : Bool} (ho : m.hp id = .arr 2 xs) (hn : xs.length = n) (hs : n < 100000) : isAppend Tryd.prog 22 22 (.own id n) (.lst 2 [x] o) m = some (.own id (n + 1), { m with hp := upd m.hp id (.arr 2 (xs ++ [x])) }) :=
  app1_own (by rw [td22]) ho hn (grow_ok rfl rfl (by decide) (by decide) (by omega))
theorem noteV_1 {n : Nt} (e : n.kind = 1) : noteV n = .ifc 119 (.agg [SL 1 (n.ys.map I) n.fl]) := by rw [noteV, if_pos e]
theorem noteV_2 {n : Nt} (e : n.kind ≠ 1) : ∃ a, noteV n = .ifc 121 (.agg [I a, I ((n.wk.ways.getD 0 (0, 0)).1), I ((n.wk.ways.getD 0 (0, 0)).2)]) ∧ n.wk.ways.length = 1 := by
  unfold noteV Nt.wk
  rw [if_neg e, if_neg e]
  split
  · exact ⟨_, rfl, rfl⟩
  · split
    · exact ⟨_, rfl, rfl⟩
    · exact ⟨_, rfl, rfl⟩
theorem measured_to {a lo hi : Int} : Ans Tryd.prog (AA b) 107 [.agg [I a, I lo, I hi]] (fun v => v = .lst 2 [encS (lo, hi)] true) := by
  refine Ans_of Tryd.func107 rfl rfl ?_
  have hrf : ∀ hp, reify hp (.lst 2 [.agg [I lo, I hi]] true) = some (.lst 2 [.agg [I lo, I hi]] true, []) := fun hp => rfC rfl
  simp +contextual (maxSteps := 1000000) (disch := first | omega | (with_reducible first | refine krN ?_ | refine krS ?_ | refine krP ?_ | refine krG ?_); kernel_rfl | refine kr ?_; simp only [go_sem, reduceCtorEq, hrf]; done | fail) only [go_sem, seval, -List.reduceReplicate, hrf]
def WS (ys : List Int) (i : Nat) (hp : Nat → Ob) (v : Vl) (nx : Nat) : Prop := (i = 0 ∧ v = .nils ∧ nx = 0) ∨ (0 < i ∧ v = .own 0 i ∧ nx = 1 ∧ hp 0 = .arr 2 ((ys.take i).map fun y => encS (y, y)))
theorem returned_to {ys : List Int} {o : Option Bool} (h0 : ys ≠ []) (hl : ys.length ≤ 3) : Ans Tryd.prog (AA b) 106 [.agg [SL 1 (ys.map I) o]] (fun v => v = .lst 2 (ys.map fun y => encS (y, y)) false) := by
  refine Ans_of Tryd.func106 rfl rfl ?_
  simp +contextual (maxSteps := 1000000) (disch := first | omega | (with_reducible first | refine krN ?_ | refine krS ?_ | refine krP ?_ | refine krG ?_); kernel_rfl | refine kr ?_; simp only [go_sem, reduceCtorEq]; done | fail) only [go_sem, seval, -List.reduceReplicate]
  refine wp_loop_to ys.length (fun i st => ∃ (hp : Nat → Ob) (v : Vl) (nx : Nat) (ex : List (Nat × Vl)), WS ys i hp v nx ∧ st = ({ sl := (3, v) :: (7, SL 1 (ys.map I) o) :: (8, I ys.length) :: (9, I i) :: ex, hp := hp, nx := nx } : FS)) ?_ 0 (Nat.zero_le _) ⟨noHeap, _, _, _, .inl ⟨rfl, rfl, rfl⟩, rfl⟩
  rintro i st hi ⟨hp, v, nx, ex, hv, rfl⟩
  by_cases hc : i < ys.length
  · have htk := take_snoc hc
    rcases hv with ⟨rfl, rfl, rfl⟩ | ⟨h1, rfl, rfl, h2⟩
    · have hc' : (0 : Int) < ys.length := by omega
      simp +contextual (maxSteps := 1000000) (disch := first | omega | (with_reducible first | refine krN ?_ | refine krS ?_ | refine krP ?_ | refine krG ?_); kernel_rfl | refine kr ?_; simp only [go_sem, reduceCtorEq, hc', hc, ix_map, ap22_nils]; done | fail) only [go_sem, seval, -List.reduceReplicate, hc', hc, ix_map, ap22_nils]
      exact ⟨_, _, _, _, .inr ⟨by omega, rfl, rfl, by rw [upd_same, htk]; rfl⟩, rfl⟩
    · have hlt : (ys.take i).length = i := by rw [List.length_take]; omega
      have hap : ∀ (x : Vl) (t : Bool), isAppend Tryd.prog 22 22 (.own 0 i) (.lst 2 [x] t) { lc := [], hp := hp, nx := 1 } = some (.own 0 (i + 1), { lc := [], hp := upd hp 0 (.arr 2 (((ys.take i).map fun y => encS (y, y)) ++ [x])), nx := 1 }) := fun x t => ap22_own h2 (by rw [List.length_map]; exact hlt) (by omega)
      simp +contextual (maxSteps := 1000000) (disch := first | omega | (with_reducible first | refine krN ?_ | refine krS ?_ | refine krP ?_ | refine krG ?_); kernel_rfl | refine kr ?_; simp only [go_sem, reduceCtorEq, Int.ofNat_lt, hc, ix_map, hap]; done | fail) only [go_sem, seval, -List.reduceReplicate, Int.ofNat_lt, hc, ix_map, hap]
      exact ⟨_, _, _, _, .inr ⟨by omega, rfl, rfl, by rw [upd_same, htk, List.map_append]; rfl⟩, rfl⟩
  · have hie : i = ys.length := by omega
    subst hie
    have h3 := List.length_pos_iff.2 h0
    rcases hv with ⟨h1, rfl, rfl⟩ | ⟨h1, rfl, rfl, h2⟩
    · omega
    · rw [List.take_length] at h2
      have hrf : reify hp (.own 0 ys.length) = some (.lst 2 (ys.map fun y => encS (y, y)) false, [0]) := reify_flat (.inl h2) rfl fun _ => rfl
      simp +contextual (maxSteps := 1000000) (disch := first | omega | (with_reducible first | refine krN ?_ | refine krS ?_ | refine krP ?_ | refine krG ?_); kernel_rfl | refine kr ?_; simp only [go_sem, reduceCtorEq, Int.lt_irrefl, hrf]; done | fail) only [go_sem, seval, -List.reduceReplicate, Int.lt_irrefl, hrf]
def waysV (n : Nt) : Vl := .lst 2 (n.wk.ways.map encS) (decide (n.kind ≠ 1))
theorem WC_closed {A : Ann} {P : Program} {g : FuncId} {args : List Arg} {vs : List Vl} {m : Mem} {r : Vl} {K : Vl → Mem → Prop} (hh : A.heap g = false) (ha : reifyAs m args = some (vs, [], false)) (hc : r.closed = true) (h : Ans P A g vs fun v => v = r) :
    WC P A (.fn (.func g) [] []) args m K = K r m := by
  cases hf : r.flat with
  | true => exact WC_flat hh ha h hf
  | false => exact WC_pure hh ha hf hc h
theorem WC_first {A : Ann} {P : Program} {g : FuncId} {x : Vl} {m : Mem} {r : Vl} {K : Vl → Mem → Prop} (hh : A.heap g = false) (ha : reifyAs m [.v x] = some ([x], [], false)) (hc : r.closed = true) (h : Ans P A g [x] fun v => v = r) :
    WC P A (.fn (.func g) [x] []) [] m K = K r m := WC_closed (args := [.v x]) hh ha hc h
section
variable {m : Mem} {K : Vl → Mem → Prop}
theorem wv_ways {d : Dt} {n : Nt} (hn : NtOk d n) : WV Tryd.prog (AA b) (noteV n) "cippus/date.ways" [] m K = K (waysV n) m := by
  by_cases e : n.kind = 1
  · rw [noteV_1 e, WV_ifc (g := 106) (by kernel_rfl)]
    have hy := hn.years e
    have hw : n.wk.ways = n.ys.map fun y => (y, y) := by unfold Nt.wk; rw [if_pos e]
    have hr : waysV n = .lst 2 (n.ys.map fun y => encS (y, y)) false := by unfold waysV; rw [hw, List.map_map, e]; rfl
    rw [hr]
    exact WC_first (g := 106) (by simp only [mkAnn, K106]) (rfAs (xs := [.agg [SL 1 (n.ys.map I) n.fl]]) (by simp only [closedL, Vl.closed, clIs, Bool.and_self])) (closedL_map (fun _ => rfl) _) (returned_to (by intro h; rw [h] at hy; simp at hy) hy.2.2.2.2.1)
  · obtain ⟨a, h1, h2⟩ := noteV_2 e
    rw [h1, WV_ifc (g := 107) (by kernel_rfl)]
    obtain ⟨p, hp⟩ := List.length_eq_one_iff.1 h2
    have hr : waysV n = .lst 2 [encS ((n.wk.ways.getD 0 (0, 0)).1, (n.wk.ways.getD 0 (0, 0)).2)] true := by unfold waysV; rw [hp, decide_eq_true e]; rfl
    rw [hr]
    exact WC_first (g := 107) (by simp only [mkAnn, K107]) (rfAs (xs := [.agg [I a, I ((n.wk.ways.getD 0 (0, 0)).1), I ((n.wk.ways.getD 0 (0, 0)).2)]]) rfl) rfl measured_to
theorem wc49 {d : Dt} {n : Nt} (hn : NtOk d n) (hd : DtOk d) : WC Tryd.prog (AA b) (.fn (.func 49) [] []) [.v (encN n)] m K = K (noteV n) m :=
  WC_closed (by simp only [mkAnn, K49]) (rfAs (xs := [encN n]) (by simp only [closedL, clN, Bool.and_self])) (clNote n) (noteOf_to hn hd)
theorem wc50 {d : Dt} {n : Nt} (hn : NtOk d n) (hd : DtOk d) : WC Tryd.prog (AA b) (.fn (.func 50) [] []) [.v (noteV n)] m K = K (I n.wk.a) m :=
  WC_closed (by simp only [mkAnn, K50]) (rfAs (xs := [noteV n]) (by simp only [closedL, clNote, Bool.and_self])) rfl (origin_to hn hd)
end
end Go.Proofs
namespace Go.Proofs
open Go Go.Idl Go.Dt
set_option linter.unusedSimpArgs false
variable {b : Nat}
@[reducible] def capD (d : Dt) (o1 o2 : Option Bool) (i2 i6 : Nat) : List Vl := [.fp (encD o1 o2 d) 0, .bp i2 0, .bp i6 0]
theorem slot_note {n : Nt} {t : Nat} : slotV t (noteV n) = .v (noteV n) := by
  unfold noteV
  split
  · rfl
  · split
    · rfl
    · split <;> rfl
theorem wk_b {d : Dt} (hd : DtOk d) {n : Nt} (hn : NtOk d n) : n.wk.b < 10 ∧ (n.wk.b : Int) = 1 + n.stone := by
  have h1 := hd.stones
  have h2 := hn.stone
  unfold Nt.wk
  split
  · simp only; omega
  · split
    · simp only; omega
    · split <;> (simp only; omega)
theorem clsL_len {T : List Int} (h : T.length = 100) : (clsL T).1.length = 100 := by
  have := (passL_facts h (psL_eq T)).1
  rw [clsL_eq (psL_eq T)]
  split
  · exact h
  · split
    · exact h
    · split <;> exact this
theorem step_GT {T : List Int} (g : GT T) (hB : Bnd 1073741824 T) {a c : Nat} (ha : a < 10) (hc : c < 10) (hac : a ≠ c) {lo hi : Int} (h1 : -100000 ≤ lo ∧ lo ≤ 100000) (h2 : -100000 ≤ hi ∧ hi ≤ 100000) (h : (clsL (withinL T a c lo hi)).2 = true) : GT (clsL (withinL T a c lo hi)).1 ∧ Bnd 1073741824 (clsL (withinL T a c lo hi)).1 := by
  obtain ⟨q1, q2⟩ := closed_bnd (within_len g.good.len) (within_bnd g.good.len hB ha hc (by omega) (by omega) (by omega) (by omega)) h
  obtain ⟨_, _, _, _, f5⟩ := clsL_true (within_len g.good.len) h
  refine ⟨⟨q1, good_diag q1 fun x hx => Int.le_trans (f5 x x hx hx) ?_⟩, q2⟩
  rw [tb_within g.good.len ha hc hx hx, if_neg (fun e => hac (by omega)), if_neg (fun e => hac (by omega)), g.zero x hx]
  exact Int.le_refl 0
theorem sub_yld {k : Nat} : sub false 1 0 (.yld k) = some (.yld k) := rfl
set_option maxRecDepth 10000 in
set_option maxHeartbeats 4000000 in
theorem next_to {d : Dt} (hd : DtOk d) {o1 o2 : Option Bool} {lo i2 i6 kk : Nat} {FU : List (List Int)} (h2' : lo ≤ i2 ∧ i2 < lo + 3) (h6 : lo ≤ i6 ∧ i6 < lo + 3) {J : List (List Int) → (Nat → Ob) → Nat → Prop} {Z : (Nat → Ob) → Nat → Prop}
    (hJ : ∀ done x (m : Mem), (∃ rest, FU = done ++ x :: rest) → GT x → Bnd 1073741824 x → lo + 3 ≤ m.nx → J done m.hp m.nx → WC Tryd.prog (AA b) (.yld kk) [.v (tV x)] m fun w m' => m'.lc = m.lc ∧ m.nx ≤ m'.nx ∧ (∀ i, lo ≤ i → i < lo + 3 → m'.hp i = m.hp i) ∧ ((w = .bool true ∧ J (done ++ [x]) m'.hp m'.nx) ∨ (w = .bool false ∧ Z m'.hp m'.nx)))
    (hF : ∀ done hp nx o, lo + 3 ≤ nx → J done hp nx → J done (upd hp nx o) (nx + 1)) :
    ∀ (n i : Nat), i + n = d.notes.length → ∀ (T : List Int) (hp : Nat → Ob) (nx : Nat) (done rest : List (List Int)), done ++ waysL ((d.notes.drop i).map Nt.wk) T ++ rest = FU → GT T → Bnd 1073741824 T → lo + 3 ≤ nx → J done hp nx →
      hp i2 = .box (.yld kk) → hp i6 = .box (.fn (.func 48) [] (capD d o1 o2 i2 i6)) →
      HAns Tryd.prog (AA b) 48 ([I i, tV T] ++ capD d o1 o2 i2 i6) hp nx fun w hp' nx' => nx ≤ nx' ∧ (∀ i, lo ≤ i → i < lo + 3 → hp' i = hp i) ∧
        ((w = .bool true ∧ J (done ++ waysL ((d.notes.drop i).map Nt.wk) T) hp' nx') ∨ (w = .bool false ∧ Z hp' nx')) := by
  intro n
  induction n with
  | zero =>
    intro i hin T hp nx done rest hFU hT hB hlo hj b2 b6
    refine HAns_of Tryd.func48 rfl ?_
    have hi : i = d.notes.length := by omega
    subst hi
    rw [List.drop_length] at hFU ⊢
    have hTl := hT.good.len
    simp +contextual (maxSteps := 1000000) (disch := first | omega | (with_reducible first | refine krN ?_ | refine krS ?_ | refine krP ?_ | refine krG ?_); kernel_rfl | refine kr ?_; simp only [go_sem, reduceCtorEq, hTl, b2, sub_yld]; done | fail) only [go_sem, seval, -List.reduceReplicate, hTl, b2, sub_yld]
    refine (hJ done T { lc := [], hp := hp, nx := nx } ⟨rest, by rw [← hFU]; simp [waysL]⟩ hT hB hlo hj).mono ?_
    rintro w ⟨lc', hp', nx'⟩ ⟨hlc, hnx, hk, hw⟩
    simp only at hlc hnx hk hw
    subst hlc
    rcases hw with ⟨rfl, hw⟩ | ⟨rfl, hw⟩
    · simp +contextual (maxSteps := 1000000) (disch := first | omega | (with_reducible first | refine krN ?_ | refine krS ?_ | refine krP ?_ | refine krG ?_); kernel_rfl | refine kr ?_; simp only [go_sem, reduceCtorEq]; done | fail) only [go_sem, seval, -List.reduceReplicate]
      exact ⟨hnx, hk, .inl hw⟩
    · simp +contextual (maxSteps := 1000000) (disch := first | omega | (with_reducible first | refine krN ?_ | refine krS ?_ | refine krP ?_ | refine krG ?_); kernel_rfl | refine kr ?_; simp only [go_sem, reduceCtorEq]; done | fail) only [go_sem, seval, -List.reduceReplicate]
      exact ⟨hnx, hk, .inr hw⟩
  | succ n ih =>
    intro i hin T hp nx done rest hFU hT hB hlo hj b2 b6
    refine HAns_of Tryd.func48 rfl ?_
    have hTl := hT.good.len
    have hin' : i < d.notes.length := by omega
    have hne : ¬ ((i : Int) = d.notes.length) := by omega
    have hnt := hd.notes _ (get!_mem hin')
    simp +contextual (maxSteps := 1000000) (disch := first | omega | (with_reducible first | refine krN ?_ | refine krS ?_ | refine krP ?_ | refine krG ?_); kernel_rfl | refine kr ?_; simp only [go_sem, reduceCtorEq, hTl, b2, hne, Int.ofNat_lt, hin', ix_map, wc49, hnt, hd, wv_ways, waysV, slot_note]; done | fail) only [go_sem, seval, -List.reduceReplicate, hTl, b2, hne, Int.ofNat_lt, hin', ix_map, wc49, hnt, hd, wv_ways, waysV, slot_note]
    have hdrop : d.notes.drop i = d.notes[i]! :: d.notes.drop (i + 1) := by rw [get!_eq hin']; exact (List.getElem_cons_drop hin').symm
    have hok := wk_ok hd (get!_mem hin')
    have hb := wk_b hd hnt
    have hl8 := hd.notes_l
    have hwy := wk_ways hd (get!_mem hin')
    have hst := hnt.stone
    have hs6 := hd.stones
    have hwb : IntKind.wrap .i64 (1 + d.notes[i]!.stone) = (d.notes[i]!.wk.b : Int) := by rw [hb.2]; exact wrap_i64 (by omega) (by omega)
    rw [hdrop, List.map_cons] at hFU ⊢
    generalize hns : (d.notes.drop (i + 1)).map Nt.wk = ns at hFU ih ⊢
    have hwl : waysL (d.notes[i]!.wk :: ns) T = d.notes[i]!.wk.ways.flatMap fun s => if (clsL (withinL T d.notes[i]!.wk.a d.notes[i]!.wk.b s.1 s.2)).2 then waysL ns (clsL (withinL T d.notes[i]!.wk.a d.notes[i]!.wk.b s.1 s.2)).1 else [] := rfl
    generalize hful : done ++ waysL (d.notes[i]!.wk :: ns) T = full at hFU ⊢
    rw [hwl] at hful
    obtain ⟨ha10, hb10, hab⟩ := hok
    refine wp_loop_to d.notes[i]!.wk.ways.length (fun j st => ∃ (hp2 : Nat → Ob) (nx2 : Nat) (d2 : List (List Int)) (ex : List (Nat × Vl)), nx ≤ nx2 ∧ (∀ i, lo ≤ i → i < lo + 3 → hp2 i = hp i) ∧ J d2 hp2 nx2 ∧ d2 ++ (d.notes[i]!.wk.ways.drop j).flatMap (fun s => if (clsL (withinL T d.notes[i]!.wk.a d.notes[i]!.wk.b s.1 s.2)).2 then waysL ns (clsL (withinL T d.notes[i]!.wk.a d.notes[i]!.wk.b s.1 s.2)).1 else []) = full ∧
      st = ({ sl := (0, I i) :: (2, .fp (encD o1 o2 d) 0) :: (4, .bp i6 0) :: (6, .loc (tV T)) :: (8, noteV d.notes[i]!) :: (28, .lst 2 (d.notes[i]!.wk.ways.map encS) (decide (d.notes[i]!.kind ≠ 1))) :: (29, I d.notes[i]!.wk.ways.length) :: (30, I j) :: ex, hp := hp2, nx := nx2 } : FS)) ?_ 0 (Nat.zero_le _) ⟨hp, nx, done, _, Nat.le_refl _, fun _ _ _ => rfl, hj, hful, rfl⟩
    clear hj hful
    rintro j st hjl ⟨hp2, nx2, d2, ex, hn2, hk2, hj, hful, rfl⟩
    have c6 := (hk2 i6 h6.1 h6.2).trans b6
    by_cases hc : j < d.notes[i]!.wk.ways.length
    · have hdj : d.notes[i]!.wk.ways.drop j = d.notes[i]!.wk.ways[j]! :: d.notes[i]!.wk.ways.drop (j + 1) := by rw [get!_eq hc]; exact (List.getElem_cons_drop hc).symm
      rw [hdj, List.flatMap_cons] at hful
      have hsb := hwy.2 _ (get!_mem hc)
      obtain ⟨s, hs⟩ : ∃ s, d.notes[i]!.wk.ways[j]! = s := ⟨_, rfl⟩
      rw [hs] at hful hsb
      obtain ⟨Uu, hUu⟩ : ∃ U, U = withinL T d.notes[i]!.wk.a d.notes[i]!.wk.b s.1 s.2 := ⟨_, rfl⟩
      have hUl : Uu.length = 100 := by rw [hUu]; exact within_len hTl
      have hUb : Bnd 1073741824 Uu := by rw [hUu]; exact within_bnd hTl hB ha10 hb10 (by omega) (by omega) (by omega) (by omega)
      have hcl := clsL_len hUl
      rw [← hUu] at hful
      have hlo' : -100000 ≤ s.1 ∧ s.1 ≤ 100000 := by omega
      have hw96 := fun K => wc47 (b := b) (m := { lc := [], hp := upd hp2 nx2 (.box (.agg (T.map I))), nx := nx2 + 1 }) (K := K) hTl ha10 hb10 hlo' (hi := s.2) (upd_same _ _ _)
      have hn23 : lo + 3 ≤ nx2 := by omega
      have hkp : ∀ o i, lo ≤ i → i < lo + 3 → upd hp2 nx2 o i = hp i := fun o i h1 h2 => by rw [upd_ne _ _ (by omega)]; exact hk2 i h1 h2
      cases h2 : (clsL Uu).2 with
      | false =>
        simp +contextual (maxSteps := 1000000) (disch := first | omega | (with_reducible first | refine krN ?_ | refine krS ?_ | refine krP ?_ | refine krG ?_); kernel_rfl | refine kr ?_; simp only [go_sem, reduceCtorEq, hc, Int.ofNat_lt, ix_lst, hs, ix_map, hin', slot_note, wc50, hnt, hd, hwb, hw96, hTl, newBox, upd_upd, wc51, ← hUu, hUl, hUb, hcl, h2]; done | fail) only [go_sem, seval, -List.reduceReplicate, hc, Int.ofNat_lt, ix_lst, hs, ix_map, hin', slot_note, wc50, hnt, hd, hwb, hw96, hTl, newBox, upd_upd, wc51, ← hUu, hUl, hUb, hcl, h2]
        rw [h2] at hful
        exact ⟨_, _, d2, _, by omega, hkp _, hF _ _ _ _ hn23 hj, by simpa using hful, rfl⟩
      | true =>
        simp +contextual (maxSteps := 1000000) (disch := first | omega | (with_reducible first | refine krN ?_ | refine krS ?_ | refine krP ?_ | refine krG ?_); kernel_rfl | refine kr ?_; simp only [go_sem, reduceCtorEq, hc, Int.ofNat_lt, ix_lst, hs, ix_map, hin', slot_note, wc50, hnt, hd, hwb, hw96, hTl, newBox, upd_upd, wc51, ← hUu, hUl, hUb, hcl, h2, c6]; done | fail) only [go_sem, seval, -List.reduceReplicate, hc, Int.ofNat_lt, ix_lst, hs, ix_map, hin', slot_note, wc50, hnt, hd, hwb, hw96, hTl, newBox, upd_upd, wc51, ← hUu, hUl, hUb, hcl, h2, c6]
        obtain ⟨g1, g2⟩ := step_GT hT hB ha10 hb10 hab hlo' (by omega) (hUu ▸ h2)
        rw [← hUu] at g1 g2
        rw [h2, if_pos rfl] at hful
        have hih := ih (i + 1) (by omega) (clsL Uu).1 (upd hp2 nx2 (.box (tV (clsL Uu).1))) (nx2 + 1) d2 ((d.notes[i]!.wk.ways.drop (j + 1)).flatMap (fun s => if (clsL (withinL T d.notes[i]!.wk.a d.notes[i]!.wk.b s.1 s.2)).2 then waysL ns (clsL (withinL T d.notes[i]!.wk.a d.notes[i]!.wk.b s.1 s.2)).1 else []) ++ rest) (by rw [hns, ← hFU, ← hful]; simp only [List.append_assoc]) g1 g2 (by omega) (hF _ _ _ _ hn23 hj) ((hkp _ i2 h2'.1 h2'.2).trans b2) ((hkp _ i6 h6.1 h6.2).trans b6)
        rw [hns] at hih
        refine wc_heap (by simp only [mkAnn, K48]) rfl hih ?_
        rintro w hp4 nx4 ⟨hn4, hk4, hw⟩
        rcases hw with ⟨rfl, hw⟩ | ⟨rfl, hw⟩
        · simp +contextual (maxSteps := 1000000) (disch := first | omega | (with_reducible first | refine krN ?_ | refine krS ?_ | refine krP ?_ | refine krG ?_); kernel_rfl | refine kr ?_; simp only [go_sem, reduceCtorEq, slot_note]; done | fail) only [go_sem, seval, -List.reduceReplicate, slot_note]
          exact ⟨hp4, nx4, _, _, by omega, fun i h1 h2 => (hk4 i h1 h2).trans (hkp _ i h1 h2), hw, by rw [List.append_assoc]; exact hful, rfl⟩
        · simp +contextual (maxSteps := 1000000) (disch := first | omega | (with_reducible first | refine krN ?_ | refine krS ?_ | refine krP ?_ | refine krG ?_); kernel_rfl | refine kr ?_; simp only [go_sem, reduceCtorEq, slot_note]; done | fail) only [go_sem, seval, -List.reduceReplicate, slot_note]
          exact ⟨by omega, fun i h1 h2 => (hk4 i h1 h2).trans (hkp _ i h1 h2), .inr hw⟩
    · have hje : j = d.notes[i]!.wk.ways.length := by omega
      subst hje
      rw [List.drop_length] at hful
      simp only [List.flatMap_nil, List.append_nil] at hful
      subst hful
      simp +contextual (maxSteps := 1000000) (disch := first | omega | (with_reducible first | refine krN ?_ | refine krS ?_ | refine krP ?_ | refine krG ?_); kernel_rfl | refine kr ?_; simp only [go_sem, reduceCtorEq, Int.lt_irrefl, slot_note]; done | fail) only [go_sem, seval, -List.reduceReplicate, Int.lt_irrefl, slot_note]
      exact ⟨hn2, hk2, .inl hj⟩
end Go.Proofs
