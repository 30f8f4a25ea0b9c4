/- What functions of the given program do in the ideal machine (G8, G9, G10), and the plain laws of what they answer; the conditions stand in each theorem. -/
import Derived.Test.YtencmmlmeifffaaGb
set_option linter.all false
set_option linter.unusedSectionVars false
set_option linter.unusedSimpArgs false
set_option linter.unusedVariables false
namespace Go.Proofs
open Go Go.Idl
set_option linter.unusedSimpArgs false
variable {b : Bool}
def combs : List Nat → Nat → List (List Nat)
  | _, 0 => [[]]
  | [], _ + 1 => []
  | x :: xs, k + 1 => (combs xs k).map (x :: ·) ++ combs xs (k + 1)
def LV (hp : Nat → Ob) (lo nx : Nat) (l : List Nat) (v : Vl) : Prop := (l = [] ∧ v = .nils) ∨ ∃ id, l ≠ [] ∧ lo ≤ id ∧ id < nx ∧ v = .own id l.length ∧ (hp id = .arr 1 (l.map IN) ∨ hp id = .fro 1 (l.map IN))
def FrzR (kk nx : Nat) (hp hp' : Nat → Ob) : Prop := ∀ i, i < nx → i ≠ kk → hp' i = hp i ∨ ∃ e xs, hp i = .arr e xs ∧ hp' i = .fro e xs
theorem FrzR.refl {kk nx : Nat} {hp : Nat → Ob} : FrzR kk nx hp hp := fun _ _ _ => .inl rfl
theorem FrzR.trans {kk nx nx' : Nat} {hp hp' hp'' : Nat → Ob} (h : FrzR kk nx hp hp') (h' : FrzR kk nx' hp' hp'') (hn : nx ≤ nx') : FrzR kk nx hp hp'' := by
  intro i hi hk
  rcases h i hi hk with e | ⟨a, xs, e1, e2⟩
  · rcases h' i (by omega) hk with e' | ⟨a, xs, e1, e2⟩
    · exact .inl (by rw [e', e])
    · exact .inr ⟨a, xs, by rw [← e, e1], e2⟩
  · rcases h' i (by omega) hk with e' | ⟨a', xs', e1', e2'⟩
    · exact .inr ⟨a, xs, e1, by rw [e', e2]⟩
    · rw [e2] at e1'; cases e1'
theorem FrzR.box {kk nx : Nat} {hp hp' : Nat → Ob} (h : FrzR kk nx hp hp') {i : Nat} (hi : i < nx) (hk : i ≠ kk) {v : Vl} (hb : hp i = .box v) : hp' i = .box v := by
  rcases h i hi hk with e | ⟨a, xs, e1, e2⟩
  · rw [e, hb]
  · rw [hb] at e1; cases e1
theorem LV.frz {kk lo nx nx' : Nat} {hp hp' : Nat → Ob} {l : List Nat} {v : Vl} (h : LV hp lo nx l v) (hf : FrzR kk nx hp hp') (hk : kk < lo) (hn : nx ≤ nx') : LV hp' lo nx' l v := by
  rcases h with h | ⟨id, h0, h1, h2, h3, h4⟩
  · exact .inl h
  · refine .inr ⟨id, h0, h1, by omega, h3, ?_⟩
    rcases hf id h2 (by omega) with e | ⟨a, xs, e1, e2⟩
    · rw [e]; exact h4
    · rcases h4 with h4 | h4
      · rw [h4] at e1; cases e1; exact .inr e2
      · rw [h4] at e1; cases e1
theorem ap32l {m : Mem} {xs ys : List Nat} {o t : Bool} (hy : ys ≠ []) (hl : xs.length + ys.length ≤ 1000000) (ht : t = true) : isAppend Try.prog 32 32 (.lst 1 (xs.map IN) t) (.lst 1 (ys.map IN) o) m = some (.own m.nx (xs ++ ys).length, { m with hp := upd m.hp m.nx (.arr 1 ((xs ++ ys).map IN)), nx := m.nx + 1 }) := by
  subst ht
  unfold isAppend appendV
  rw [td32]
  simp only [Mem.elems, if_true, Option.bind_some, List.length_map]
  have hg : okGrow 8 1 (.int .i64 0) (xs.length + ys.length) = true := grow_ok rfl rfl (by decide) (by decide) (by omega)
  rw [hg]
  have he : ((ys.map IN).isEmpty) = false := by cases ys <;> simp_all
  simp [he]
theorem clone_to {l : List Nat} (hne : l ≠ []) (hl : l.length ≤ 1000) {hp : Nat → Ob} {nx id : Nat} (ho : hp id = .arr 1 (l.map IN) ∨ hp id = .fro 1 (l.map IN)) :
    HAns Try.prog (AA b) 90 [.own id l.length] hp nx (fun v hp' nx' => v = .own nx l.length ∧ hp' = upd (upd hp id (.fro 1 (l.map IN))) nx (.arr 1 (l.map IN)) ∧ nx' = nx + 1) := by
  refine HAns_of Try.func90 rfl ?_
  have hrf : reify hp (.own id l.length) = some (.lst 1 (l.map IN) false, [id]) := reify_flat ho rfl fun _ => rfl
  have hap := fun m : Mem => ap32l (m := m) (xs := []) (o := false) hne (by simp; omega) rfl
  have hnm : l.map IN ≠ [] := by simpa using hne
  simp only [List.map_nil, List.nil_append] at hap
  rcases ho with ho | ho
  · simp +contextual (maxSteps := 1000000) (disch := first | omega | (with_reducible first | refine krN ?_ | refine krS ?_ | refine krP ?_ | refine krG ?_); kernel_rfl | refine kr ?_; simp only [go_sem, seval, -List.reduceReplicate, hrf, killHp_one, ho, nilV_lst, hnm, hap]; done | fail) only [go_sem, seval, -List.reduceReplicate, hrf, killHp_one, ho, nilV_lst, hnm, hap]
  · simp +contextual (maxSteps := 1000000) (disch := first | omega | (with_reducible first | refine krN ?_ | refine krS ?_ | refine krP ?_ | refine krG ?_); kernel_rfl | refine kr ?_; simp only [go_sem, seval, -List.reduceReplicate, hrf, killHp_one, ho, nilV_lst, hnm, hap]; done | fail) only [go_sem, seval, -List.reduceReplicate, hrf, killHp_one, ho, nilV_lst, hnm, hap]
    rfl
theorem sub_yld {k : Nat} : sub false 1 0 (.yld k) = some (.yld k) := rfl
theorem clone_nil {hp : Nat → Ob} {nx : Nat} : HAns Try.prog (AA b) 90 [.nils] hp nx (fun v hp' nx' => v = .nils ∧ hp' = hp ∧ nx' = nx) := by
  refine HAns_of Try.func90 rfl ?_
  simp +contextual (maxSteps := 1000000) (disch := first | omega | (with_reducible first | refine krN ?_ | refine krS ?_ | refine krP ?_ | refine krG ?_); kernel_rfl | refine kr ?_; simp only [go_sem, seval, -List.reduceReplicate]; done | fail) only [go_sem, seval, -List.reduceReplicate]
theorem range'_cons {i n : Nat} (h : i < n) : List.range' i (n - i) = i :: List.range' (i + 1) (n - (i + 1)) := by
  rw [show n - i = (n - (i + 1)) + 1 by omega, List.range'_succ]
set_option maxRecDepth 10000 in
set_option maxHeartbeats 4000000 in
theorem comb_to {n k kk lo i2 i4 : Nat} {FU : List (List Nat)} (hn : n ≤ 1000) (hk : k ≤ 1000) {J : List (List Nat) → (Nat → Ob) → Nat → Prop} {Z : (Nat → Ob) → Nat → Prop}
    (hkk : kk < lo ∧ i2 ≠ kk ∧ i4 ≠ kk) (h12 : i2 < lo ∧ i4 < lo)
    (hJ : ∀ done x v (m : Mem), x.length = k → (∃ rest, FU = done ++ x :: rest) → LV m.hp lo m.nx x v → lo ≤ m.nx → J done m.hp m.nx → WC Try.prog (AA b) (.yld kk) [.v v] m fun w m' => m'.lc = m.lc ∧ m.nx ≤ m'.nx ∧ ((w = .bool true ∧ FrzR kk m.nx m.hp m'.hp ∧ J (done ++ [x]) m'.hp m'.nx) ∨ (w = .bool false ∧ Z m'.hp m'.nx)))
    (hF : ∀ done hp hp' nx nx', nx ≤ nx' → (∀ i, i < lo → hp' i = hp i) → J done hp nx → J done hp' nx') :
    ∀ (need : Nat) (l : List Nat) (from_ : Nat) (v : Vl) (hp : Nat → Ob) (nx : Nat) (done rest : List (List Nat)), done ++ (combs (List.range' from_ (n - from_)) need).map (l ++ ·) ++ rest = FU → l.length + need = k → from_ ≤ n → lo ≤ nx → LV hp lo nx l v → J done hp nx →
      hp i2 = .box (.yld kk) → hp i4 = .box (.fn (.func 89) [] [.fp (I k) 0, .bp i2 0, .fp (I n) 0, .bp i4 0]) →
      HAns Try.prog (AA b) 89 [v, I from_, .fp (I k) 0, .bp i2 0, .fp (I n) 0, .bp i4 0] hp nx fun w hp' nx' => nx ≤ nx' ∧
        ((w = .bool true ∧ FrzR kk nx hp hp' ∧ J (done ++ (combs (List.range' from_ (n - from_)) need).map (l ++ ·)) hp' nx') ∨ (w = .bool false ∧ Z hp' nx')) := by
  intro need
  induction need with
  | zero =>
    intro l from_ v hp nx done rest hFU hlk hfn hlo hv hj b2 b4
    refine HAns_of Try.func89 rfl ?_
    have hlk' : (I l.length : Vl) = I k := by rw [show l.length = k by omega]
    have hcm : (combs (List.range' from_ (n - from_)) 0).map (l ++ ·) = [l] := by cases List.range' from_ (n - from_) <;> simp [combs]
    rw [hcm] at hFU ⊢
    have hpre : ∃ rest, FU = done ++ l :: rest := ⟨rest, by rw [← hFU]; simp⟩
    have hv' := hv
    rcases hv with ⟨rfl, rfl⟩ | ⟨id, h0, h1, h2, rfl, h4⟩
    · have hk0 : k = 0 := by simpa using hlk.symm
      subst hk0
      simp +contextual (maxSteps := 1000000) (disch := first | omega | (with_reducible first | refine krN ?_ | refine krS ?_ | refine krP ?_ | refine krG ?_); kernel_rfl | refine kr ?_; simp only [go_sem, seval, -List.reduceReplicate, b2, b4, sub_yld]; done | fail) only [go_sem, seval, -List.reduceReplicate, b2, b4, sub_yld]
      refine (hJ done [] _ _ rfl hpre hv' hlo hj).mono ?_
      rintro w ⟨lc', hp', nx'⟩ ⟨hlc, hnx, hw⟩
      simp only at hlc hnx hw
      subst hlc
      rcases hw with ⟨rfl, hfr, hw⟩ | ⟨rfl, hw⟩
      · simp +contextual (maxSteps := 1000000) (disch := first | omega | (with_reducible first | refine krN ?_ | refine krS ?_ | refine krP ?_ | refine krG ?_); kernel_rfl | refine kr ?_; simp only [go_sem, seval, -List.reduceReplicate]; done | fail) only [go_sem, seval, -List.reduceReplicate]
        exact ⟨hnx, .inl ⟨hfr, hw⟩⟩
      · simp +contextual (maxSteps := 1000000) (disch := first | omega | (with_reducible first | refine krN ?_ | refine krS ?_ | refine krP ?_ | refine krG ?_); kernel_rfl | refine kr ?_; simp only [go_sem, seval, -List.reduceReplicate]; done | fail) only [go_sem, seval, -List.reduceReplicate]
        exact ⟨hnx, .inr hw⟩
    · have hkk0 : (l.length : Int) = k := by omega
      simp +contextual (maxSteps := 1000000) (disch := first | omega | (with_reducible first | refine krN ?_ | refine krS ?_ | refine krP ?_ | refine krG ?_); kernel_rfl | refine kr ?_; simp only [go_sem, seval, -List.reduceReplicate, b2, b4, hkk0, sub_yld]; done | fail) only [go_sem, seval, -List.reduceReplicate, b2, b4, hkk0, sub_yld]
      refine (hJ done l _ _ (by omega) hpre hv' hlo hj).mono ?_
      rintro w ⟨lc', hp', nx'⟩ ⟨hlc, hnx, hw⟩
      simp only at hlc hnx hw
      subst hlc
      rcases hw with ⟨rfl, hfr, hw⟩ | ⟨rfl, hw⟩
      · simp +contextual (maxSteps := 1000000) (disch := first | omega | (with_reducible first | refine krN ?_ | refine krS ?_ | refine krP ?_ | refine krG ?_); kernel_rfl | refine kr ?_; simp only [go_sem, seval, -List.reduceReplicate]; done | fail) only [go_sem, seval, -List.reduceReplicate]
        exact ⟨hnx, .inl ⟨hfr, hw⟩⟩
      · simp +contextual (maxSteps := 1000000) (disch := first | omega | (with_reducible first | refine krN ?_ | refine krS ?_ | refine krP ?_ | refine krG ?_); kernel_rfl | refine kr ?_; simp only [go_sem, seval, -List.reduceReplicate]; done | fail) only [go_sem, seval, -List.reduceReplicate]
        exact ⟨hnx, .inr hw⟩
  | succ need ih =>
    intro l from_ v hp nx done rest hFU hlk hfn hlo hv hj b2 b4
    refine HAns_of Try.func89 rfl ?_
    have hlk1 : ¬ ((l.length : Int) = k) := by omega
    have hsl : ∀ d, slotV d v = .v v := by rcases hv with ⟨rfl, rfl⟩ | ⟨id, h0, h1, h2, rfl, h4⟩ <;> (intro d; rfl)
    have hln : ∀ m, builtinV Try.prog .len [32] [v] m = some (I l.length, m) := by rcases hv with ⟨rfl, rfl⟩ | ⟨id, h0, h1, h2, rfl, h4⟩ <;> (intro m; rfl)
    simp +contextual (maxSteps := 1000000) (disch := first | omega | (with_reducible first | refine krN ?_ | refine krS ?_ | refine krP ?_ | refine krG ?_); kernel_rfl | refine kr ?_; simp only [go_sem, seval, -List.reduceReplicate, b2, b4, hlk1, hsl, hln]; done | fail) only [go_sem, seval, -List.reduceReplicate, b2, b4, hlk1, hsl, hln]
    generalize hful : done ++ (combs (List.range' from_ (n - from_)) (need + 1)).map (l ++ ·) = full at hFU ⊢
    refine wp_loop_to n (fun i st => ∃ (hp2 : Nat → Ob) (nx2 : Nat) (d2 : List (List Nat)) (ex : List (Nat × Vl)), nx ≤ nx2 ∧ FrzR kk nx hp hp2 ∧ J d2 hp2 nx2 ∧ d2 ++ (combs (List.range' i (n - i)) (need + 1)).map (l ++ ·) = full ∧ st = ({ sl := (0, v) :: (4, .fp (I n) 0) :: (5, .bp i4 0) :: (9, I i) :: ex, hp := hp2, nx := nx2 } : FS)) ?_ from_ hfn ⟨hp, nx, done, _, Nat.le_refl _, FrzR.refl, hj, hful, rfl⟩
    clear hful hj
    rintro i st hi ⟨hp2, nx2, d2, ex, hn2, hfr, hj, hful, rfl⟩
    have c2 := hfr.box (by omega) (by omega) b2
    have c4 := hfr.box (by omega) (by omega) b4
    have hv2 := hv.frz hfr (by omega) hn2
    by_cases hc : i < n
    · rw [range'_cons hc] at hful
      have hlo2 : lo ≤ nx2 := by omega
      have hih : ∀ (hq hp3 : Nat → Ob) (len : Nat), (∀ j, j < nx2 → hq j = hp2 j ∨ (lo ≤ j ∧ ∃ e xs, hp2 j = .arr e xs ∧ hq j = .fro e xs)) → len = (l ++ [i]).length → hp3 = upd hq nx2 (.arr 1 ((l ++ [i]).map IN)) → HAns Try.prog (AA b) 89 [.own nx2 len, I ((i + 1 : Nat) : Int), .fp (I k) 0, .bp i2 0, .fp (I n) 0, .bp i4 0] hp3 (nx2 + 1) fun w hp' nx' => nx2 + 1 ≤ nx' ∧
          ((w = .bool true ∧ FrzR kk nx hp hp' ∧ ∃ d3, d3 ++ (combs (List.range' (i + 1) (n - (i + 1))) (need + 1)).map (l ++ ·) = full ∧ J d3 hp' nx') ∨ (w = .bool false ∧ Z hp' nx')) := by
        intro hq hp3 len hfq hlen h3
        have hu' : ∀ j, j < nx2 → hp3 j = hp2 j ∨ (lo ≤ j ∧ ∃ e xs, hp2 j = .arr e xs ∧ hp3 j = .fro e xs) := fun j h => by rw [h3, upd_ne _ _ (by omega)]; exact hfq j h
        have hu : ∀ j, j < lo → hp3 j = hp2 j := fun j h => by
          rcases hu' j (by omega) with e | ⟨e, _⟩
          · exact e
          · omega
        subst hlen
        refine HAns.mono (ih (l ++ [i]) (i + 1) _ hp3 (nx2 + 1) d2 ((combs (List.range' (i + 1) (n - (i + 1))) (need + 1)).map (l ++ ·) ++ rest) (by rw [← hFU, ← hful]; simp [combs, List.append_assoc, Function.comp_def]) (by rw [List.length_append]; simp only [List.length_cons, List.length_nil]; omega) (by omega) (by omega) (.inr ⟨nx2, by simp, hlo2, Nat.lt_succ_self _, rfl, .inl (by rw [h3, upd_same])⟩) (hF d2 hp2 hp3 nx2 (nx2 + 1) (Nat.le_succ _) (fun j h => hu j h) hj) (by rw [hu _ (by omega)]; exact c2) (by rw [hu _ (by omega)]; exact c4)) ?_
        rintro w hp4 nx4 ⟨hn4, hw⟩
        have hf23 : FrzR kk nx2 hp2 hp3 := fun j h1 h2 => (hu' j h1).imp id And.right
        refine ⟨hn4, ?_⟩
        rcases hw with ⟨rfl, hfr4, hw⟩ | ⟨rfl, hw⟩
        · refine .inl ⟨rfl, (hfr.trans hf23 hn2).trans hfr4 (by omega), _, ?_, hw⟩
          rw [← hful]
          simp [combs, List.append_assoc, Function.comp_def]
        · exact .inr ⟨rfl, hw⟩
      rcases hv2 with ⟨rfl, rfl⟩ | ⟨id, h0, h1, h2, rfl, h4⟩
      · simp +contextual (maxSteps := 1000000) (disch := first | omega | (with_reducible first | refine krN ?_ | refine krS ?_ | refine krP ?_ | refine krG ?_); kernel_rfl | refine kr ?_; simp only [go_sem, seval, -List.reduceReplicate, Int.ofNat_lt, hc, c4]; done | fail) only [go_sem, seval, -List.reduceReplicate, Int.ofNat_lt, hc, c4]
        refine wc_heap (by simp only [mkAnn, K90]) rfl clone_nil ?_
        rintro v hp' nx' ⟨rfl, rfl, rfl⟩
        simp +contextual (maxSteps := 1000000) (disch := first | omega | (with_reducible first | refine krN ?_ | refine krS ?_ | refine krP ?_ | refine krG ?_); kernel_rfl | refine kr ?_; simp only [go_sem, seval, -List.reduceReplicate, Int.ofNat_lt, hc, c4, ap32m]; done | fail) only [go_sem, seval, -List.reduceReplicate, Int.ofNat_lt, hc, c4, ap32m]
        refine wc_heap (by simp only [mkAnn, K89]) rfl (hih _ _ _ (fun j h => .inl rfl) (by simp) (by simp))  ?_
        rintro w hp4 nx4 ⟨hn4, hw⟩
        rcases hw with ⟨rfl, hfr4, hw⟩ | ⟨rfl, hw⟩
        · obtain ⟨d3, e3, hj3⟩ := hw
          simp +contextual (maxSteps := 1000000) (disch := first | omega | (with_reducible first | refine krN ?_ | refine krS ?_ | refine krP ?_ | refine krG ?_); kernel_rfl | refine kr ?_; simp only [go_sem, seval, -List.reduceReplicate]; done | fail) only [go_sem, seval, -List.reduceReplicate]
          exact ⟨hp4, nx4, d3, _, by omega, hfr4, hj3, e3, rfl⟩
        · simp +contextual (maxSteps := 1000000) (disch := first | omega | (with_reducible first | refine krN ?_ | refine krS ?_ | refine krP ?_ | refine krG ?_); kernel_rfl | refine kr ?_; simp only [go_sem, seval, -List.reduceReplicate]; done | fail) only [go_sem, seval, -List.reduceReplicate]
          exact ⟨by omega, .inr hw⟩
      · simp +contextual (maxSteps := 1000000) (disch := first | omega | (with_reducible first | refine krN ?_ | refine krS ?_ | refine krP ?_ | refine krG ?_); kernel_rfl | refine kr ?_; simp only [go_sem, seval, -List.reduceReplicate, Int.ofNat_lt, hc, c4]; done | fail) only [go_sem, seval, -List.reduceReplicate, Int.ofNat_lt, hc, c4]
        refine wc_heap (by simp only [mkAnn, K90]) rfl (clone_to h0 (by omega) h4) ?_
        rintro v hp' nx' ⟨rfl, rfl, rfl⟩
        have ap32x : ∀ t, isAppend Try.prog 32 32 (.own nx2 l.length) (.lst 1 [I i] t) { lc := [], hp := upd (upd hp2 id (.fro 1 (l.map IN))) nx2 (.arr 1 (l.map IN)), nx := nx2 + 1 } = some (.own nx2 (l.length + 1), { lc := [], hp := upd (upd hp2 id (.fro 1 (l.map IN))) nx2 (.arr 1 (l.map IN ++ [I i])), nx := nx2 + 1 }) := fun t => by
          rw [ap32w (upd_same _ _ _) (by simp) (by omega)]; simp only [upd_upd]
        simp +contextual (maxSteps := 1000000) (disch := first | omega | (with_reducible first | refine krN ?_ | refine krS ?_ | refine krP ?_ | refine krG ?_); kernel_rfl | refine kr ?_; simp only [go_sem, seval, -List.reduceReplicate, Int.ofNat_lt, hc, c4, ap32x]; done | fail) only [go_sem, seval, -List.reduceReplicate, Int.ofNat_lt, hc, c4, ap32x]
        refine wc_heap (by simp only [mkAnn, K89]) rfl (hih (upd hp2 id (.fro 1 (l.map IN))) _ _ (fun j h => by
          by_cases hji : j = id
          · subst hji
            rw [upd_same]
            rcases h4 with h4 | h4
            · exact .inr ⟨h1, _, _, h4, rfl⟩
            · exact .inl h4.symm
          · exact .inl (upd_ne _ _ hji)) (by simp) (by simp)) ?_
        rintro w hp4 nx4 ⟨hn4, hw⟩
        rcases hw with ⟨rfl, hfr4, hw⟩ | ⟨rfl, hw⟩
        · obtain ⟨d3, e3, hj3⟩ := hw
          simp +contextual (maxSteps := 1000000) (disch := first | omega | (with_reducible first | refine krN ?_ | refine krS ?_ | refine krP ?_ | refine krG ?_); kernel_rfl | refine kr ?_; simp only [go_sem, seval, -List.reduceReplicate]; done | fail) only [go_sem, seval, -List.reduceReplicate]
          exact ⟨hp4, nx4, d3, _, by omega, hfr4, hj3, e3, rfl⟩
        · simp +contextual (maxSteps := 1000000) (disch := first | omega | (with_reducible first | refine krN ?_ | refine krS ?_ | refine krP ?_ | refine krG ?_); kernel_rfl | refine kr ?_; simp only [go_sem, seval, -List.reduceReplicate]; done | fail) only [go_sem, seval, -List.reduceReplicate]
          exact ⟨by omega, .inr hw⟩
    · have hie : i = n := by omega
      subst hie
      rw [Nat.sub_self] at hful
      have hcn : combs (List.range' i 0) (need + 1) = [] := rfl
      rw [hcn, List.map_nil, List.append_nil] at hful
      subst hful
      simp +contextual (maxSteps := 1000000) (disch := first | omega | (with_reducible first | refine krN ?_ | refine krS ?_ | refine krP ?_ | refine krG ?_); kernel_rfl | refine kr ?_; simp only [go_sem, seval, -List.reduceReplicate, Int.lt_irrefl, hsl]; done | fail) only [go_sem, seval, -List.reduceReplicate, Int.lt_irrefl, hsl]
      exact ⟨hn2, .inl ⟨hfr, hj⟩⟩
end Go.Proofs
namespace Go.Proofs
open Go Go.Idl
set_option linter.unusedSimpArgs false
variable {b : Bool}
set_option maxRecDepth 10000 in
set_option maxHeartbeats 4000000 in
theorem lists_to {n k kk nx : Nat} {hp : Nat → Ob} (hn : n ≤ 1000) (hk : k ≤ 1000) (hb : kk < nx) {J : List (List Nat) → (Nat → Ob) → Nat → Prop} {Z : (Nat → Ob) → Nat → Prop}
    (hJ : ∀ done x v (m : Mem), x.length = k → (∃ rest, combs (List.range n) k = done ++ x :: rest) → LV m.hp (nx + 2) m.nx x v → nx + 2 ≤ m.nx → J done m.hp m.nx → WC Try.prog (AA b) (.yld kk) [.v v] m fun w m' => m'.lc = m.lc ∧ m.nx ≤ m'.nx ∧ ((w = .bool true ∧ FrzR kk m.nx m.hp m'.hp ∧ J (done ++ [x]) m'.hp m'.nx) ∨ (w = .bool false ∧ Z m'.hp m'.nx)))
    (hF : ∀ done hp hp' nx1 nx2, nx1 ≤ nx2 → (∀ i, i < nx → hp' i = hp i) → J done hp nx1 → J done hp' nx2) (h0 : J [] hp nx) :
    HAns Try.prog (AA b) 88 [.yld kk, .fp (I k) 0, .fp (I n) 0] hp nx fun _ hp' nx' => nx ≤ nx' ∧ ((FrzR kk nx hp hp' ∧ J (combs (List.range n) k) hp' nx') ∨ Z hp' nx') := by
  refine HAns_of Try.func88 rfl ?_
  simp +contextual (maxSteps := 1000000) (disch := first | omega | (with_reducible first | refine krN ?_ | refine krS ?_ | refine krP ?_ | refine krG ?_); kernel_rfl | refine kr ?_; simp only [go_sem, seval, -List.reduceReplicate, newBox]; done | fail) only [go_sem, seval, -List.reduceReplicate, newBox]
  have hu : ∀ (x y : Ob) (i : Nat), i < nx → upd (upd hp nx x) (nx + 1) y i = hp i := fun x y i h => by rw [upd_ne _ _ (by omega), upd_ne _ _ (by omega)]
  have hr : (combs (List.range' 0 (n - 0)) k).map ([] ++ ·) = combs (List.range n) k := by simp [List.range_eq_range']
  refine wc_heap (by simp only [mkAnn, K89]) rfl (comb_to (b := b) (n := n) (k := k) (kk := kk) (lo := nx + 2) (i2 := nx) (i4 := nx + 1) (FU := combs (List.range n) k) hn hk (by omega) (by omega) hJ (fun done hp hp' a c h1 h2 => hF done hp hp' a c h1 (fun i hi => h2 i (by omega))) k [] 0 .nils _ (nx + 2) [] [] (by rw [hr]; simp) (by simp) (Nat.zero_le _) (Nat.le_refl _) (.inl ⟨rfl, rfl⟩) (hF [] hp _ nx _ (by omega) (fun i hi => hu _ _ i hi) h0) ((upd_ne _ _ (by omega)).trans (upd_same _ _ _)) (upd_same _ _ _)) ?_
  rintro w hp' nx' ⟨hn', hw⟩
  rw [hr] at hw
  rcases hw with ⟨rfl, hfr, hw⟩ | ⟨rfl, hw⟩
  · have hf : FrzR kk nx hp hp' := FrzR.trans (nx' := nx + 2) (fun i h1 h2 => .inl (hu _ _ i h1)) hfr (by omega)
    simp +contextual (maxSteps := 1000000) (disch := first | omega | (with_reducible first | refine krN ?_ | refine krS ?_ | refine krP ?_ | refine krG ?_); kernel_rfl | refine kr ?_; simp only [go_sem, seval, -List.reduceReplicate]; done | fail) only [go_sem, seval, -List.reduceReplicate]
    exact ⟨by omega, .inl ⟨hf, hw⟩⟩
  · simp +contextual (maxSteps := 1000000) (disch := first | omega | (with_reducible first | refine krN ?_ | refine krS ?_ | refine krP ?_ | refine krG ?_); kernel_rfl | refine kr ?_; simp only [go_sem, seval, -List.reduceReplicate]; done | fail) only [go_sem, seval, -List.reduceReplicate]
    exact ⟨by omega, .inr hw⟩
end Go.Proofs
namespace Go.Proofs
open Go Go.Idl
set_option linter.unusedSimpArgs false
variable {b : Bool}
theorem listsFn_to {n k : Int} : Ans Try.prog (AA b) 72 [I n, I k] (fun v => v = .fn (.func 88) [] [.fp (I k) 0, .fp (I n) 0]) := by
  refine Ans_of Try.func72 rfl rfl ?_
  simp +contextual (maxSteps := 1000000) (disch := first | omega | (with_reducible first | refine krN ?_ | refine krS ?_ | refine krP ?_ | refine krG ?_); kernel_rfl | refine kr ?_; simp only [go_sem, seval, -List.reduceReplicate, newBox]; done | fail) only [go_sem, seval, -List.reduceReplicate, newBox]
  exact OB_intro rfl rfl
section
variable {m : Mem} {K : Vl → Mem → Prop}
theorem wc72 {n k : Int} : WC Try.prog (AA b) (.fn (.func 72) [] []) [.v (I n), .v (I k)] m K = K (.fn (.func 88) [] [.fp (I k) 0, .fp (I n) 0]) m :=
  WC_pure (by simp only [mkAnn, K72]) (rfAs (xs := [I n, I k]) rfl) rfl rfl listsFn_to
theorem map_IN (l : List Nat) : l.map IN = (l.map Int.ofNat).map I := by simp
theorem wc73 {hp : Nat → Ob} {lo nx : Nat} {l : List Nat} {v : Vl} {lc : List (Nat × Vl)} {i nx' : Nat} (h : LV hp lo nx l v) (hl : l.length ≤ 1000) : WC Try.prog (AA b) (.fn (.func 73) [] []) [.v v, .v (I i)] ⟨lc, hp, nx'⟩ K = K (.bool (l.contains i)) ⟨lc, hp, nx'⟩ := by
  have hc : (decide ((i : Int) ∈ l.map Int.ofNat)) = l.contains i := by
    rw [Bool.eq_iff_iff]; simp [Int.natCast_inj]
  rw [← hc]
  rcases h with ⟨rfl, rfl⟩ | ⟨id, h0, h1, h2, rfl, h4⟩
  · exact WC_flat (ks := []) (p := false) (vs := [.nils, I i]) (by simp only [mkAnn, K73]) rfl (contains_to (xs := []) (o := none) (by simp)) rfl
  · have hr : reify hp (.own id l.length) = some (.lst 1 (l.map IN) false, [id]) := reify_flat h4 rfl fun _ => rfl
    refine WC_flat (ks := [id]) (p := false) (vs := [.lst 1 (l.map IN) false, I i]) (by simp only [mkAnn, K73]) ?_ ?_ rfl
    · show ((reify hp (.own id l.length)).map _).bind _ = _
      rw [hr]; rfl
    · rw [map_IN]
      exact contains_to (xs := l.map Int.ofNat) (o := some false) (by rw [List.length_map]; omega)
end
def keptTo (r : Roll) (l : List Nat) (n : Nat) : List Rec := ((List.range n).filter fun i => !l.contains i).map fun i => r.cs[i]!
def dropF (r : Roll) (l : List Nat) : Roll := { r with cs := keptTo r l r.cs.length }
theorem keptTo_succ {r : Roll} {l : List Nat} {n : Nat} : keptTo r l (n + 1) = keptTo r l n ++ (if l.contains n then [] else [r.cs[n]!]) := by
  unfold keptTo
  rw [List.range_succ, List.filter_append, List.map_append]
  cases h : l.contains n with
  | true =>
    rw [List.filter_cons_of_neg (by rw [h]; decide)]; rfl
  | false =>
    rw [List.filter_cons_of_pos (by rw [h]; rfl)]; rfl
theorem keptTo_len {r : Roll} {l : List Nat} {n : Nat} : (keptTo r l n).length ≤ n := by
  unfold keptTo
  rw [List.length_map]
  exact Nat.le_trans (List.length_filter_le _ _) (by simp)
theorem keptTo_mem {r : Roll} {l : List Nat} {n : Nat} (hn : n ≤ r.cs.length) {c : Rec} (h : c ∈ keptTo r l n) : c ∈ r.cs := by
  unfold keptTo at h
  obtain ⟨i, hi, rfl⟩ := List.mem_map.1 h
  have := List.mem_range.1 (List.mem_filter.1 hi).1
  exact get!_mem (by omega)
theorem Val.drop {r : Roll} (hv : Val r) (l : List Nat) : Val (dropF r l) :=
  { os_l := hv.os_l, os_ok := hv.os_ok, life := hv.life, par := hv.par, fs_l := hv.fs_l, fs_ok := hv.fs_ok, ms_l := hv.ms_l, ms_ok := hv.ms_ok
    cs_l := Nat.le_trans keptTo_len hv.cs_l
    cs_ok := fun c h => hv.cs_ok c (keptTo_mem (Nat.le_refl _) h) }
def listV (l : List Nat) : Vl := if l = [] then .nils else .lst 1 (l.map IN) false
def allLists (n : Nat) : List (List Nat) := ((List.range (n + 1)).map (combs (List.range n))).flatten
noncomputable def mayF (r : Roll) (l : List Nat) : Bool := (solveF true (dropF r l)).2
noncomputable def wrongF (r : Roll) : Option (List Nat) := (allLists r.cs.length).find? (mayF r)
noncomputable def wrongV (r : Roll) : Vl := match wrongF r with
  | some l => .tup [listV l, I 0]
  | none => .tup [.nils, I 9]
theorem find_wrong {n i : Nat} {p : List Nat → Bool} {done rest : List (List Nat)} {l : List Nat} (hi : i < n + 1) (hno : ∀ k, k < i → ∀ l ∈ combs (List.range n) k, p l = false) (h : combs (List.range n) i = done ++ l :: rest) (hd : ∀ l ∈ done, p l = false) (hp : p l = true) : (allLists n).find? p = some l := by
  have e : List.range (n + 1) = List.range i ++ i :: List.range' (i + 1) (n + 1 - (i + 1)) := by
    rw [← range'_cons hi, List.range_eq_range', List.range_eq_range']
    have := List.range'_append_1 (s := 0) (m := i) (n := n + 1 - i)
    rw [Nat.zero_add] at this
    rw [this]; congr 1; omega
  have h1 : ((List.range i).map (combs (List.range n))).flatten.find? p = none := by
    rw [List.find?_eq_none]
    intro x hx
    simp only [List.mem_flatten, List.mem_map, List.mem_range] at hx
    obtain ⟨_, ⟨k, hk, rfl⟩, hx⟩ := hx
    rw [hno k hk x hx]; decide
  have h2 : done.find? p = none := by
    rw [List.find?_eq_none]
    intro x hx
    rw [hd x hx]; decide
  unfold allLists
  rw [e, List.map_append, List.flatten_append, List.find?_append, h1, List.map_cons, List.flatten_cons, h, List.find?_append, List.find?_append, h2, List.find?_cons_of_pos hp]
  rfl
theorem find_none {n : Nat} {p : List Nat → Bool} (hno : ∀ k, k < n + 1 → ∀ l ∈ combs (List.range n) k, p l = false) : (allLists n).find? p = none := by
  rw [List.find?_eq_none]
  intro x hx
  unfold allLists at hx
  simp only [List.mem_flatten, List.mem_map, List.mem_range] at hx
  obtain ⟨_, ⟨k, hk, rfl⟩, hx⟩ := hx
  rw [hno k hk x hx]; decide
def CV (hp : Nat → Ob) (lo nx : Nat) (cs : List Rec) (v : Vl) : Prop := (cs = [] ∧ v = .nils) ∨ ∃ id, cs ≠ [] ∧ lo ≤ id ∧ id < nx ∧ v = .own id cs.length ∧ hp id = .arr 7 (cs.map encC)
theorem CV.other {hp : Nat → Ob} {lo nx nx' i : Nat} {cs : List Rec} {v : Vl} {o : Ob} (h : CV hp lo nx cs v) (hi : nx ≤ i ∨ i < lo) (hn : nx ≤ nx') : CV (upd hp i o) lo nx' cs v := by
  rcases h with h | ⟨id, h0, h1, h2, h3, h4⟩
  · exact .inl h
  · exact .inr ⟨id, h0, h1, by omega, h3, by rw [upd_ne _ _ (by omega)]; exact h4⟩
theorem clSL (e : Nat) {α : Type} (f : α → Vl) (h : ∀ x, (f x).closed = true) (l : List α) (o : Option Bool) : (SL e (l.map f) o).closed = true := closed_SL (closedL_map h l)
theorem reify_roll {hp : Nat → Ob} {r : Roll} {o1 o2 o3 : Option Bool} {vc w : Vl} {ks : List Nat} (h : reify hp vc = some (w, ks)) :
    reify hp (.agg [SL 3 (r.os.map encO) o1, I r.life, I r.plo, I r.phi, SL 1 (r.fs.map encRow) o2, SL 5 (r.ms.map encM) o3, vc]) = some (.agg [SL 3 (r.os.map encO) o1, I r.life, I r.plo, I r.phi, SL 1 (r.fs.map encRow) o2, SL 5 (r.ms.map encM) o3, w], ks) := by
  simp only [reify_agg, reifyLs_cons, reifyLs_nil, reify_int, rfC (clSL 3 encO clO r.os o1), rfC (clSL 1 encRow clRw r.fs o2), rfC (clSL 5 encM clM r.ms o3), h, Option.bind_some, Option.map_some, List.nil_append, List.append_nil]
theorem wc69d {r : Roll} (hv : Val r) {l : List Nat} {hp : Nat → Ob} {lo nx nx' : Nat} {vc : Vl} {o1 o2 o3 : Option Bool} {lc : List (Nat × Vl)} {K : Vl → Mem → Prop} (h : CV hp lo nx (keptTo r l r.cs.length) vc) :
    WC Try.prog (AA b) (.fn (.func 69) [] []) [.v (.agg [SL 3 (r.os.map encO) o1, I r.life, I r.plo, I r.phi, SL 1 (r.fs.map encRow) o2, SL 5 (r.ms.map encM) o3, vc]), .v (.bool true)] ⟨lc, hp, nx'⟩ K =
      K (.tup [.agg (kc (solveF true (dropF r l)).1), .bool (mayF r l)]) ⟨lc, hp, nx'⟩ := by
  have key : ∀ (o4 : Option Bool) (ks : List Nat), reify hp vc = some (SL 7 ((keptTo r l r.cs.length).map encC) o4, ks) → WC Try.prog (AA b) (.fn (.func 69) [] []) [.v (.agg [SL 3 (r.os.map encO) o1, I r.life, I r.plo, I r.phi, SL 1 (r.fs.map encRow) o2, SL 5 (r.ms.map encM) o3, vc]), .v (.bool true)] ⟨lc, hp, nx'⟩ K =
      K (.tup [.agg (kc (solveF true (dropF r l)).1), .bool (mayF r l)]) ⟨lc, hp, nx'⟩ := fun o4 ks hr =>
    WC_flat (vs := [encRoll o1 o2 o3 o4 (dropF r l), .bool true]) (ks := ks) (p := false) (by simp only [mkAnn, K69]) (by
      simp only [reifyAs_v, reifyAs_nil, reify_roll hr, reify_bool, Option.bind_some, Option.map_some, List.append_nil, Bool.or_false]
      rfl) (solve_to (hv.drop l)) (by simp only [Vl.flat, flatL, flatL_kc, Bool.and_self])
  rcases h with ⟨h, rfl⟩ | ⟨id, h0, h1, h2, rfl, h4⟩
  · exact key none [] (by rw [h]; rfl)
  · exact key (some false) [id] (reify_flat (.inl h4) rfl fun _ => rfl)
theorem ap27n {m : Mem} {x : Vl} {o : Bool} : isAppend Try.prog 27 27 .nils (.lst 7 [x] o) m = some (.own m.nx 1, { m with hp := upd m.hp m.nx (.arr 7 [x]), nx := m.nx + 1 }) := app1_nils (by rw [td27]) rfl
theorem ap27w {m : Mem} {id n : Nat} {xs : List Vl} {x : Vl} {o : Bool} (ho : m.hp id = .arr 7 xs) (hn : xs.length = n) (hs : n < 100000) : isAppend Try.prog 27 27 (.own id n) (.lst 7 [x] o) m = some (.own id (n + 1), { m with hp := upd m.hp id (.arr 7 (xs ++ [x])) }) :=
  app1_own (by rw [td27]) ho hn (grow_ok rfl rfl (by decide) (by decide) (by omega))
set_option maxRecDepth 10000 in
set_option maxHeartbeats 4000000 in
theorem wrong_to {r : Roll} (hv : WF r) {o1 o2 o3 o4 : Option Bool} : Ans Try.prog (AA b) 31 [encRoll o1 o2 o3 o4 r] (fun v => v = wrongV r) := by
  refine Ans_of Try.func31 rfl rfl ?_
  have hc8 := hv.cs_l
  simp +contextual (maxSteps := 1000000) (disch := first | omega | (with_reducible first | refine krN ?_ | refine krS ?_ | refine krP ?_ | refine krG ?_); kernel_rfl | refine kr ?_; simp only [go_sem, seval, -List.reduceReplicate, newBox, wc24, hv]; done | fail) only [go_sem, seval, -List.reduceReplicate, newBox, wc24, hv]
  refine wp_loop_to (r.cs.length + 1) (fun i st => ∃ (hp : Nat → Ob) (nx : Nat) (ex : List (Nat × Vl)), 3 ≤ nx ∧ hp 0 = .box (encRoll o1 o2 o3 o4 r) ∧ hp 1 = .box .nils ∧ hp 2 = .box (I 0) ∧ (∀ k, k < i → ∀ l ∈ combs (List.range r.cs.length) k, mayF r l = false) ∧
      st = ({ sl := (1, .bp 0 0) :: (2, .bp 1 0) :: (3, .bp 2 0) :: (20, I ((r.cs.length + 1 : Nat) : Int)) :: (21, I i) :: ex, hp := hp, nx := nx } : FS)) ?_ 0 (Nat.zero_le _) ⟨_, _, _, Nat.le_refl _, rfl, rfl, rfl, fun k h => (by omega), rfl⟩
  rintro i st hi ⟨hp, nx, ex, hnx, q0, q1, q2, hno, rfl⟩
  by_cases hc : i < r.cs.length + 1
  · simp +contextual (maxSteps := 1000000) (disch := first | omega | (with_reducible first | refine krN ?_ | refine krS ?_ | refine krP ?_ | refine krG ?_); kernel_rfl | refine kr ?_; simp only [go_sem, seval, -List.reduceReplicate, Int.ofNat_lt, hc, q0, q1, q2, wc72]; done | fail) only [go_sem, seval, -List.reduceReplicate, Int.ofNat_lt, hc, q0, q1, q2, wc72]
    refine wp_rangeFunc (.inl rfl) rfl ?_
    simp only [List.nil_append, List.append_nil, List.cons_append, noLoc, noLocV, Array.toList, List.singleton_append]
    generalize hlp : Ob.loop 31 _ _ _ _ _ = lp
    refine HAns.mono (lists_to (b := b) (n := r.cs.length) (k := i) (kk := nx) (nx := nx + 1) (J := fun done hp' nx' => nx + 1 ≤ nx' ∧ hp' nx = lp ∧ hp' 0 = .box (encRoll o1 o2 o3 o4 r) ∧ hp' 1 = .box .nils ∧ hp' 2 = .box (I 0) ∧ ∀ l ∈ done, mayF r l = false)
      (Z := fun hp' nx' => nx + 1 ≤ nx' ∧ (∃ g sl ps asg bd, hp' nx = .loop g sl ps asg bd (.done .ret)) ∧ hp' 2 = .box (I 0) ∧ ∃ done l v rest, combs (List.range r.cs.length) i = done ++ l :: rest ∧ (∀ l ∈ done, mayF r l = false) ∧ mayF r l = true ∧ hp' 1 = .box v ∧ LV hp' (nx + 1 + 2) nx' l v)
      (by omega) (by omega) (by omega) ?_ ?_ ?_) ?_
    · rintro done l v ⟨lc, hp2, nx2⟩ hxl ⟨rest, hpre⟩ hlv hn2 ⟨j1, j2, j3, j4, j5, j6⟩
      simp only at hlv hn2 j1 j2 j3 j4 j5 j6 ⊢
      subst hlp
      refine wc_yld (vs := [v]) rfl rfl j2 ?_
      have hsl : ∀ d, slotV d v = .v v := by rcases hlv with ⟨rfl, rfl⟩ | ⟨id, h0, h1, h2, rfl, h4⟩ <;> (intro d; rfl)
      have u0 : ∀ (h : Nat → Ob) o, upd h nx o 0 = h 0 := fun h o => upd_ne _ _ (by omega)
      have u1 : ∀ (h : Nat → Ob) o, upd h nx o 1 = h 1 := fun h o => upd_ne _ _ (by omega)
      have u2 : ∀ (h : Nat → Ob) o, upd h nx o 2 = h 2 := fun h o => upd_ne _ _ (by omega)
      have w0 : ∀ (h : Nat → Ob) o, upd h nx2 o 0 = h 0 := fun h o => upd_ne _ _ (by omega)
      have w1 : ∀ (h : Nat → Ob) o, upd h nx2 o 1 = h 1 := fun h o => upd_ne _ _ (by omega)
      have w2 : ∀ (h : Nat → Ob) o, upd h nx2 o 2 = h 2 := fun h o => upd_ne _ _ (by omega)
      have w3 : ∀ (h : Nat → Ob) o, upd h nx2 o nx = h nx := fun h o => upd_ne _ _ (by omega)
      simp +contextual (maxSteps := 1000000) (disch := first | omega | (with_reducible first | refine krN ?_ | refine krS ?_ | refine krP ?_ | refine krG ?_); kernel_rfl | refine kr ?_; simp only [go_sem, seval, -List.reduceReplicate, newBox, setPs, hsl, u0, u1, u2, w0, w1, w2, w3, j2, j3]; done | fail) only [go_sem, seval, -List.reduceReplicate, newBox, setPs, hsl, u0, u1, u2, w0, w1, w2, w3, j2, j3]
      generalize hbl : Ob.loop 31 _ _ _ _ LSt.busy = bl
      refine wp_loop_to r.cs.length (fun j st => ∃ (hp3 : Nat → Ob) (nx3 : Nat) (vc : Vl) (ex : List (Nat × Vl)), nx2 + 1 ≤ nx3 ∧ (∀ i, i < nx2 → hp3 i = upd hp2 nx bl i) ∧ hp3 nx2 = .box (.agg [SL 3 (r.os.map encO) o1, I r.life, I r.plo, I r.phi, SL 1 (r.fs.map encRow) o2, SL 5 (r.ms.map encM) o3, vc]) ∧ CV hp3 (nx2 + 1) nx3 (keptTo r l j) vc ∧
        st = ({ sl := (1, .bp 0 0) :: (2, .bp 1 0) :: (3, .bp 2 0) :: (6, v) :: (7, .bp nx2 0) :: (20, I ((r.cs.length + 1 : Nat) : Int)) :: (21, I i) :: (33, SL 7 (r.cs.map encC) o4) :: (34, I r.cs.length) :: (35, I j) :: ex, hp := hp3, nx := nx3 } : FS)) ?_ 0 (Nat.zero_le _) ⟨_, _, _, [], Nat.le_refl _, fun i hi => upd_ne _ _ (by omega), upd_same _ _ _, .inl ⟨rfl, rfl⟩, rfl⟩
      clear u0 u1 u2 w0 w1 w2 w3
      rintro j st hj ⟨hp3, nx3, vc, ex, hn3, hlow, hbx, hcv, rfl⟩
      by_cases hjc : j < r.cs.length
      · have hsu : keptTo r l (j + 1) = keptTo r l j ++ (if l.contains j then [] else [r.cs[j]!]) := keptTo_succ
        have hkl : (keptTo r l j).length ≤ j := keptTo_len
        have hlv3 : ∀ hp', (∀ i, i < nx2 → hp' i = hp3 i) → LV hp' (nx + 1 + 2) nx2 l v := fun hp' he => by
          rcases hlv with h | ⟨id, h0, h1, h2, h3, h4⟩
          · exact .inl h
          · have e : hp' id = hp2 id := by rw [he id h2, hlow id h2, upd_ne _ _ (by omega)]
            exact .inr ⟨id, h0, h1, h2, h3, by rw [e]; exact h4⟩
        simp +contextual (maxSteps := 1000000) (disch := first | omega | (with_reducible first | refine krN ?_ | refine krS ?_ | refine krP ?_ | refine krG ?_); kernel_rfl | refine kr ?_; simp only [go_sem, seval, -List.reduceReplicate, newBox, Int.ofNat_lt, hjc, ix_map, encC, hsl]; done | fail) only [go_sem, seval, -List.reduceReplicate, newBox, Int.ofNat_lt, hjc, ix_map, encC, hsl]
        rw [wc73 (hlv3 _ (fun i hi => upd_ne _ _ (by omega))) (by omega)]
        cases hct : l.contains j with
        | true =>
          rw [hct] at hsu
          simp only [if_true, List.append_nil] at hsu
          simp +contextual (maxSteps := 1000000) (disch := first | omega | (with_reducible first | refine krN ?_ | refine krS ?_ | refine krP ?_ | refine krG ?_); kernel_rfl | refine kr ?_; simp only [go_sem, seval, -List.reduceReplicate, newBox, hsl]; done | fail) only [go_sem, seval, -List.reduceReplicate, newBox, hsl]
          refine ⟨_, _, vc, _, (by omega : nx2 + 1 ≤ nx3 + 1), fun i hi => ?_, ?_, ?_, rfl⟩
          · rw [upd_ne _ _ (by omega)]; exact hlow i hi
          · rw [upd_ne _ _ (by omega)]; exact hbx
          · rw [hsu]; exact hcv.other (.inl (Nat.le_refl _)) (Nat.le_succ _)
        | false =>
          rw [hct] at hsu
          simp only [Bool.false_eq_true, if_false] at hsu
          have c7 : ∀ o, upd hp3 nx3 o nx2 = hp3 nx2 := fun o => upd_ne _ _ (by omega)
          rcases hcv with ⟨hc0, rfl⟩ | ⟨id, h0, h1, h2, rfl, h4⟩
          · simp +contextual (maxSteps := 1000000) (disch := first | omega | (with_reducible first | refine krN ?_ | refine krS ?_ | refine krP ?_ | refine krG ?_); kernel_rfl | refine kr ?_; simp only [go_sem, seval, -List.reduceReplicate, newBox, hsl, c7, hbx, ap27n]; done | fail) only [go_sem, seval, -List.reduceReplicate, newBox, hsl, c7, hbx, ap27n]
            refine ⟨_, _, _, _, (by omega : nx2 + 1 ≤ nx3 + 1 + 1), fun i hi => (upd_ne _ _ (by omega)).trans ((upd_ne _ _ (by omega)).trans ((upd_ne _ _ (by omega)).trans (hlow i hi))), upd_same _ _ _, .inr ⟨nx3 + 1, ?_, by omega, by omega, ?_, (upd_ne _ _ (by omega)).trans ((upd_same _ _ _).trans ?_)⟩, rfl⟩
            all_goals rw [hsu, hc0]
            · simp
            · rfl
            · rfl
          · have hap : ∀ (x : Vl) (t : Bool) (o : Ob) (n' : Nat), isAppend Try.prog 27 27 (.own id (keptTo r l j).length) (.lst 7 [x] t) { lc := [], hp := upd hp3 nx3 o, nx := n' } = some (.own id ((keptTo r l j).length + 1), { lc := [], hp := upd (upd hp3 nx3 o) id (.arr 7 ((keptTo r l j).map encC ++ [x])), nx := n' }) := fun x t o n' =>
              ap27w (by show upd hp3 nx3 o id = _; rw [upd_ne _ _ (by omega)]; exact h4) (by simp) (by omega)
            simp +contextual (maxSteps := 1000000) (disch := first | omega | (with_reducible first | refine krN ?_ | refine krS ?_ | refine krP ?_ | refine krG ?_); kernel_rfl | refine kr ?_; simp only [go_sem, seval, -List.reduceReplicate, newBox, hsl, c7, hbx, hap]; done | fail) only [go_sem, seval, -List.reduceReplicate, newBox, hsl, c7, hbx, hap]
            refine ⟨_, _, _, _, (by omega : nx2 + 1 ≤ nx3 + 1), fun i hi => (upd_ne _ _ (by omega)).trans ((upd_ne _ _ (by omega)).trans ((upd_ne _ _ (by omega)).trans (hlow i hi))), upd_same _ _ _, .inr ⟨id, ?_, h1, by omega, ?_, (upd_ne _ _ (by omega)).trans ((upd_same _ _ _).trans ?_)⟩, rfl⟩
            all_goals rw [hsu]
            · simp
            · rw [List.length_append]; rfl
      · have hje : j = r.cs.length := by omega
        subst hje
        simp +contextual (maxSteps := 1000000) (disch := first | omega | (with_reducible first | refine krN ?_ | refine krS ?_ | refine krP ?_ | refine krG ?_); kernel_rfl | refine kr ?_; simp only [go_sem, seval, -List.reduceReplicate, Int.lt_irrefl, hbx, hsl]; done | fail) only [go_sem, seval, -List.reduceReplicate, Int.lt_irrefl, hbx, hsl]
        rw [wc69d hv.toVal hcv]
        have hkl : (solveF true (dropF r l)).1.length = 20 := solveF_len (hv.toVal.drop l)
        have h31 : hp3 1 = .box .nils := (hlow 1 (by omega)).trans ((upd_ne _ _ (by omega)).trans j4)
        have h32 : hp3 2 = .box (I 0) := (hlow 2 (by omega)).trans ((upd_ne _ _ (by omega)).trans j5)
        have h30 : hp3 0 = .box (encRoll o1 o2 o3 o4 r) := (hlow 0 (by omega)).trans ((upd_ne _ _ (by omega)).trans j3)
        have h3n : hp3 nx = bl := (hlow nx (by omega)).trans (upd_same _ _ _)
        have c1 : ∀ o, upd hp3 nx3 o 1 = hp3 1 := fun o => upd_ne _ _ (by omega)
        have c2 : ∀ o, upd hp3 nx3 o 2 = hp3 2 := fun o => upd_ne _ _ (by omega)
        cases hmy : mayF r l with
        | true =>
          have hZ : ∀ hp' : Nat → Ob, (∀ i, i < nx2 → i ≠ 1 → i ≠ 2 → i ≠ nx → hp' i = hp3 i) → LV hp' (nx + 1 + 2) (nx3 + 1) l v := fun hp' he => by
            rcases hlv with h | ⟨id, h0, h1, h2, h3, h4⟩
            · exact .inl h
            · have e : hp' id = hp2 id := by rw [he id h2 (by omega) (by omega) (by omega), hlow id h2, upd_ne _ _ (by omega)]
              exact .inr ⟨id, h0, h1, by omega, h3, by rw [e]; exact h4⟩
          have hZ' := fun hp' he => hZ hp' he
          rcases hlv with ⟨rfl, rfl⟩ | ⟨id, h0, h1, h2, rfl, h4⟩
          · simp +contextual (maxSteps := 1000000) (disch := first | omega | (with_reducible first | refine krN ?_ | refine krS ?_ | refine krP ?_ | refine krG ?_); kernel_rfl | refine kr ?_; simp only [go_sem, seval, -List.reduceReplicate, newBox, hsl, hkl, sub_kc_all, put_kc_all, kc_length, List.length_replicate, h31, h32, c1, c2]; done | fail) only [go_sem, seval, -List.reduceReplicate, newBox, hsl, hkl, sub_kc_all, put_kc_all, kc_length, List.length_replicate, h31, h32, c1, c2]
            exact ⟨h3n, by omega, .inr ⟨rfl, by omega, ⟨_, _, _, _, _, rfl⟩, done, _, _, rest, hpre, j6, hmy, rfl, hZ' _ (fun i a b c d => (upd_ne _ _ d).trans ((upd_ne _ _ c).trans ((upd_ne _ _ b).trans (upd_ne _ _ (by omega)))))⟩⟩
          · simp +contextual (maxSteps := 1000000) (disch := first | omega | (with_reducible first | refine krN ?_ | refine krS ?_ | refine krP ?_ | refine krG ?_); kernel_rfl | refine kr ?_; simp only [go_sem, seval, -List.reduceReplicate, newBox, hsl, hkl, sub_kc_all, put_kc_all, kc_length, List.length_replicate, h31, h32, c1, c2]; done | fail) only [go_sem, seval, -List.reduceReplicate, newBox, hsl, hkl, sub_kc_all, put_kc_all, kc_length, List.length_replicate, h31, h32, c1, c2]
            exact ⟨h3n, by omega, .inr ⟨rfl, by omega, ⟨_, _, _, _, _, rfl⟩, done, _, _, rest, hpre, j6, hmy, rfl, hZ' _ (fun i a b c d => (upd_ne _ _ d).trans ((upd_ne _ _ c).trans ((upd_ne _ _ b).trans (upd_ne _ _ (by omega)))))⟩⟩
        | false =>
          simp +contextual (maxSteps := 1000000) (disch := first | omega | (with_reducible first | refine krN ?_ | refine krS ?_ | refine krP ?_ | refine krG ?_); kernel_rfl | refine kr ?_; simp only [go_sem, seval, -List.reduceReplicate, newBox, hsl, hkl, sub_kc_all, put_kc_all, kc_length, List.length_replicate]; done | fail) only [go_sem, seval, -List.reduceReplicate, newBox, hsl, hkl, sub_kc_all, put_kc_all, kc_length, List.length_replicate]
          refine ⟨h3n, by omega, .inl ⟨fun i hi hne => .inl ((upd_ne _ _ hne).trans ((upd_ne _ _ (by omega)).trans ((hlow i hi).trans (upd_ne _ _ hne)))), by omega, h30, h31, h32, fun l' h => ?_⟩⟩
          rcases List.mem_append.1 h with h | h
          · exact j6 l' h
          · rw [List.mem_singleton.1 h]; exact hmy
    · rintro done hp2 hp3 nx2 nx3 hnn hpp ⟨j1, j2, j3, j4, j5, j6⟩
      refine ⟨by omega, ?_, ?_, ?_, ?_, j6⟩
      · rw [hpp _ (by omega)]; exact j2
      · rw [hpp _ (by omega)]; exact j3
      · rw [hpp _ (by omega)]; exact j4
      · rw [hpp _ (by omega)]; exact j5
    · refine ⟨Nat.le_refl _, upd_same _ _ _, ?_, ?_, ?_, fun l h => by cases h⟩
      · rw [upd_ne _ _ (by omega)]; exact q0
      · rw [upd_ne _ _ (by omega)]; exact q1
      · rw [upd_ne _ _ (by omega)]; exact q2
    · rintro w hp2 nx2 ⟨hn2, hz⟩
      rcases hz with ⟨hfr, j1, j2, j3, j4, j5, j6⟩ | ⟨z1, ⟨g, sl, ps, asg, bd, z2⟩, z3, z4⟩
      · subst hlp
        refine .inl ⟨_, _, _, _, _, j2, ?_⟩
        simp +contextual (maxSteps := 1000000) (disch := first | omega | (with_reducible first | refine krN ?_ | refine krS ?_ | refine krP ?_ | refine krG ?_); kernel_rfl | refine kr ?_; simp only [go_sem, seval, -List.reduceReplicate]; done | fail) only [go_sem, seval, -List.reduceReplicate]
        refine ⟨_, _, _, (by omega), (upd_ne _ _ (by omega)).trans j3, (upd_ne _ _ (by omega)).trans j4, (upd_ne _ _ (by omega)).trans j5, fun k hk l hl => ?_, rfl⟩
        rcases Nat.lt_succ_iff_lt_or_eq.1 hk with hk | rfl
        · exact hno k hk l hl
        · exact j6 l hl
      · refine .inr ⟨_, _, _, _, _, _, z2, ?_⟩
        obtain ⟨done, l, v, rest, y1, y2, y3, y4, y5⟩ := z4
        have hwf : wrongF r = some l := find_wrong hc hno y1 y2 y3
        unfold wrongV
        rw [hwf]
        rcases y5 with ⟨rfl, rfl⟩ | ⟨id, h0, h1, h2, rfl, h4⟩
        · simp +contextual (maxSteps := 1000000) (disch := first | omega | (with_reducible first | refine krN ?_ | refine krS ?_ | refine krP ?_ | refine krG ?_); kernel_rfl | refine kr ?_; simp only [go_sem, seval, -List.reduceReplicate, z3, y4]; done | fail) only [go_sem, seval, -List.reduceReplicate, z3, y4]
          rfl
        · simp +contextual (maxSteps := 1000000) (disch := first | omega | (with_reducible first | refine krN ?_ | refine krS ?_ | refine krP ?_ | refine krG ?_); kernel_rfl | refine kr ?_; simp only [go_sem, seval, -List.reduceReplicate, z3, y4]; done | fail) only [go_sem, seval, -List.reduceReplicate, z3, y4]
          have h4' : upd hp2 nx .dead id = .arr 1 (l.map IN) ∨ upd hp2 nx .dead id = .fro 1 (l.map IN) := by
            rw [upd_ne _ _ (by omega)]; exact h4
          refine OB_intro (reify_flat h4' rfl fun _ => rfl) ?_
          rw [listV, if_neg h0]
  · simp +contextual (maxSteps := 1000000) (disch := first | omega | (with_reducible first | refine krN ?_ | refine krS ?_ | refine krP ?_ | refine krG ?_); kernel_rfl | refine kr ?_; simp only [go_sem, seval, -List.reduceReplicate, Int.ofNat_lt, hc, q0, q1, q2]; done | fail) only [go_sem, seval, -List.reduceReplicate, Int.ofNat_lt, hc, q0, q1, q2]
    have hwf : wrongF r = none := find_none fun k hk => hno k (by omega)
    unfold wrongV
    rw [hwf]
end Go.Proofs
