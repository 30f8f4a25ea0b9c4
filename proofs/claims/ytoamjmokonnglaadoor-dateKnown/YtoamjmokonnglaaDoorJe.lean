/- What functions of the given program do in the ideal machine (J12), and the plain laws of what they answer; the conditions stand in each theorem. -/
import Derived.Test.YtoamjmokonnglaaDoorJd
set_option linter.all false
set_option linter.unusedSectionVars false
set_option linter.unusedSimpArgs false
set_option linter.unusedVariables false
namespace Go.Proofs
open Go Go.Idl Go.Dt
set_option linter.unusedSimpArgs false
variable {b : Nat}
section
variable {m : Mem} {K : Vl → Mem → Prop}
theorem wc23z {T : List Int} (h : T.length = 100) {c : Nat} (hc : c < 10) (hB : Bnd 1073741824 T) : WC Tryd.prog (AA b) (.fn (.func 23) [] []) [.v (.agg (T.map I)), .v (.int .i64 0), .v (.int .i64 (c : Int))] m K = K (Sp (-tb T c 0) (tb T 0 c)) m := wc23 h (a := 0) (by omega) hc hB
end
def TOk (l : List (List Int)) : Prop := ∀ T ∈ l, GT T ∧ Bnd 1073741824 T
theorem ySpan_to {T : List Int} (hg : GT T) (hB : Bnd 1073741824 T) {i id nx : Nat} {hp : Nat → Ob} (hi : i < 6) (hb : hp id = .box (I i)) : HAns Tryd.prog (AA b) 22 [tV T, .bp id 0] hp nx (fun v hp' nx' => v = Sp (-tb T (1 + i) 0) (tb T 0 (1 + i)) ∧ hp' = hp ∧ nx' = nx) := by
  refine HAns_of Tryd.func22 rfl ?_
  have hl := hg.good.len
  have hw : IntKind.wrap .i64 (1 + (i : Int)) = ((1 + i : Nat) : Int) := by rw [wrap_i64 (by omega) (by omega)]; omega
  have h10 : 1 + i < 10 := by omega
  simp +contextual (maxSteps := 1000000) (disch := first | omega | (with_reducible first | refine krN ?_ | refine krS ?_ | refine krP ?_ | refine krG ?_); kernel_rfl | refine kr ?_; simp only [go_sem, reduceCtorEq, hl, hb, hw, wc23z, h10, hB]; done | fail) only [go_sem, seval, -List.reduceReplicate, hl, hb, hw, wc23z, h10, hB]
theorem fSpan_to {T : List Int} (hg : GT T) (hB : Bnd 1073741824 T) {i id nx : Nat} {hp : Nat → Ob} (hi : i < 3) (hb : hp id = .box (I i)) : HAns Tryd.prog (AA b) 25 [tV T, .bp id 0] hp nx (fun v hp' nx' => v = Sp (-tb T (7 + i) 0) (tb T 0 (7 + i)) ∧ hp' = hp ∧ nx' = nx) := by
  refine HAns_of Tryd.func25 rfl ?_
  have hl := hg.good.len
  have hw : IntKind.wrap .i64 (7 + (i : Int)) = ((7 + i : Nat) : Int) := by rw [wrap_i64 (by omega) (by omega)]; omega
  have h10 : 7 + i < 10 := by omega
  simp +contextual (maxSteps := 1000000) (disch := first | omega | (with_reducible first | refine krN ?_ | refine krS ?_ | refine krP ?_ | refine krG ?_); kernel_rfl | refine kr ?_; simp only [go_sem, reduceCtorEq, hl, hb, hw, wc23z, h10, hB]; done | fail) only [go_sem, seval, -List.reduceReplicate, hl, hb, hw, wc23z, h10, hB]
theorem loT_app {v : Nat} {U : List Int} : ∀ (l : List (List Int)) (z : Int), loT v (l ++ [U]) z = min (loT v l z) (-tb U v 0)
  | [], z => rfl
  | W :: l, z => loT_app l _
theorem hiT_app {v : Nat} {U : List Int} : ∀ (l : List (List Int)) (z : Int), hiT v (l ++ [U]) z = max (hiT v l z) (tb U 0 v)
  | [], z => rfl
  | W :: l, z => hiT_app l _
theorem joinT_eq {l : List (List Int)} (h : l ≠ []) {v : Nat} : joinT l v = (loT v l (-tb l[0]! v 0), hiT v l (tb l[0]! 0 v)) := by
  cases l with
  | nil => exact absurd rfl h
  | cons U l => rfl
set_option maxRecDepth 10000 in
theorem joined_to {l : List (List Int)} (hl : TOk l) (hne : l ≠ []) (hlen : l.length ≤ 10000) {g id nx v : Nat} {hp : Nat → Ob} {c : Vl} (hb : hp id = .box c)
    (hg : ∀ T ∈ l, ∀ (m : Mem) (K : Vl → Mem → Prop), m.hp id = .box c → WC Tryd.prog (AA b) (.fn (.func g) [] [.bp id 0]) [.v (.agg (T.map I))] m K = K (Sp (-tb T v 0) (tb T 0 v)) m) :
    HAns Tryd.prog (AA b) 21 [.lst 100 (l.map tV) false, .fn (.func g) [] [.bp id 0]] hp nx (fun w hp' nx' => w = encS (joinT l v) ∧ hp' = hp ∧ nx' = nx) := by
  refine HAns_of Tryd.func21 rfl ?_
  have h0 : 0 < l.length := List.length_pos_iff.2 hne
  have hl0 := (hl _ (get!_mem h0)).1.good.len
  have h0' : (0 : Int) < l.length := by omega
  have g0 := hg _ (get!_mem h0) { lc := [], hp := hp, nx := nx }
  simp only [hb, forall_const] at g0
  simp +contextual (maxSteps := 1000000) (disch := first | omega | (with_reducible first | refine krN ?_ | refine krS ?_ | refine krP ?_ | refine krG ?_); kernel_rfl | refine kr ?_; simp only [go_sem, reduceCtorEq, ix_lst, h0', hl0, g0]; done | fail) only [go_sem, seval, -List.reduceReplicate, ix_lst, h0', hl0, g0]
  refine wp_loop_to l.length (fun i st => ∃ ex, st = ({ sl := (1, .fn (.func g) [] [.bp id 0]) :: (4, .loc (Sp 0 0)) :: (5, .loc (Sp (loT v (l.take i) (-tb l[0]! v 0)) (hiT v (l.take i) (tb l[0]! 0 v)))) :: (14, .lst 100 (l.map tV) false) :: (15, I l.length) :: (16, I i) :: ex, hp := hp, nx := nx } : FS)) ?_ 0 (Nat.zero_le _) ⟨_, rfl⟩
  rintro i st hi ⟨ex, rfl⟩
  by_cases hc : i < l.length
  · have hli := (hl _ (get!_mem hc)).1.good.len
    have gi := hg _ (get!_mem hc) { lc := [], hp := hp, nx := nx }
    simp only [hb, forall_const] at gi
    have htk := take_snoc hc
    have e1 := loT_app (v := v) (U := l[i]!) (l.take i) (-tb l[0]! v 0)
    have e2 := hiT_app (v := v) (U := l[i]!) (l.take i) (tb l[0]! 0 v)
    rw [← htk] at e1 e2
    simp +contextual (maxSteps := 1000000) (disch := first | omega | (with_reducible first | refine krN ?_ | refine krS ?_ | refine krP ?_ | refine krG ?_); kernel_rfl | refine kr ?_; simp only [go_sem, reduceCtorEq, ix_lst, hc, Int.ofNat_lt, hli, gi, ← e1, ← e2]; done | fail) only [go_sem, seval, -List.reduceReplicate, ix_lst, hc, Int.ofNat_lt, hli, gi, ← e1, ← e2]
    exact ⟨_, rfl⟩
  · have hie : i = l.length := by omega
    subst hie
    rw [joinT_eq hne]
    simp +contextual (maxSteps := 1000000) (disch := first | omega | (with_reducible first | refine krN ?_ | refine krS ?_ | refine krP ?_ | refine krG ?_); kernel_rfl | refine kr ?_; simp only [go_sem, reduceCtorEq, Int.lt_irrefl, List.take_length]; done | fail) only [go_sem, seval, -List.reduceReplicate, Int.lt_irrefl, List.take_length]
def spansV (l : List (List Int)) (k n : Nat) : Vl := SL 2 ((List.range n).map fun i => encS (joinT l (k + i))) none
theorem spansV_pos {l : List (List Int)} {k n : Nat} (h : 0 < n) : spansV l k n = .lst 2 ((List.range n).map fun i => encS (joinT l (k + i))) false := by
  unfold spansV SL
  cases n with
  | zero => omega
  | succ n => rw [List.range_succ_eq_map]; rfl
theorem range_snoc {n : Nat} : List.range (n + 1) = List.range n ++ [n] := List.range_succ
def JS (f : Nat → Vl) (i : Nat) (hp : Nat → Ob) (v : Vl) (nx : Nat) : Prop := (i = 0 ∧ v = .nils ∧ nx = 0) ∨ (0 < i ∧ v = .own 1 i ∧ 2 ≤ nx ∧ hp 1 = .arr 2 ((List.range i).map f))
theorem tabs_TOk {d : Dt} (hd : DtOk d) : TOk (tabsL d) := by
  have key : ∀ (ns : List Nt), (∀ n ∈ ns, n ∈ d.notes) → ∀ T, GT T → Bnd 1073741824 T → TOk (waysL (ns.map Nt.wk) T) := by
    intro ns
    induction ns with
    | nil => intro _ T g hB U hU; rw [List.mem_singleton.1 hU]; exact ⟨g, hB⟩
    | cons n ns ih =>
      intro hns T g hB U hU
      have hn := hns n (List.mem_cons_self ..)
      obtain ⟨ha, hb, hab⟩ := wk_ok hd hn
      obtain ⟨s, hs, hU⟩ := List.mem_flatMap.1 hU
      have hsb := (wk_ways hd hn).2 s hs
      split at hU
      · rename_i hc
        obtain ⟨g1, g2⟩ := step_GT g hB ha hb hab (by omega) (by omega) hc
        exact ih (fun q hq => hns q (List.mem_cons_of_mem _ hq)) _ g1 g2 U hU
      · cases hU
  intro U hU
  unfold tabsL at hU
  split at hU
  · rename_i hc
    obtain ⟨g1, g2⟩ := base_GT hd hc
    exact key d.notes (fun _ h => h) _ g1 g2 U hU
  · cases hU
theorem foundV_ok {d : Dt} (h : (foundV d).2 = 0) : DtOk d ∧ tabsL d ≠ [] ∧ foundV d = (.lst 100 ((tabsL d).map tV) false, 0) := by
  unfold foundV at h ⊢
  by_cases h1 : checkE d = 0
  · rw [if_neg (fun k => k h1)] at h ⊢
    by_cases h2 : (tabsL d).length = 0
    · rw [if_pos h2] at h; cases h
    · rw [if_neg h2]
      exact ⟨checkE_ok.1 h1, fun e => h2 (by rw [e]; rfl), rfl⟩
  · rw [if_pos h1] at h
    exact absurd h h1
theorem foundV_no {d : Dt} (h : (foundV d).2 ≠ 0) : (foundV d).1 = .nils := by
  unfold foundV at h ⊢
  split
  · rfl
  · rename_i h1
    rw [if_neg h1] at h
    split
    · rfl
    · rename_i h2
      rw [if_neg h2] at h
      exact absurd rfl h
set_option maxRecDepth 10000 in
set_option maxHeartbeats 4000000 in
theorem years27_to {d : Dt} {o1 o2 : Option Bool} : Ans Tryd.prog (AA b) 7 [encD o1 o2 d] (fun v => v = .tup [if (foundV d).2 = 0 then spansV (tabsL d) 1 d.stones.toNat else .nils, I (foundV d).2]) := by
  refine Ans_of Tryd.func7 rfl rfl ?_
  by_cases h : (foundV d).2 = 0
  · obtain ⟨hd, hne, hf⟩ := foundV_ok h
    have hT := tabs_TOk hd
    have hs6 := hd.stones
    rw [if_pos h, h]
    simp +contextual (maxSteps := 1000000) (disch := first | omega | (with_reducible first | refine krN ?_ | refine krS ?_ | refine krP ?_ | refine krG ?_); kernel_rfl | refine kr ?_; simp only [go_sem, reduceCtorEq, wc20, hf]; done | fail) only [go_sem, seval, -List.reduceReplicate, wc20, hf]
    have hlen : (tabsL d).length ≤ 10000 := by have := tabs_len hd; omega
    generalize tabsL d = l at hne hT hlen
    obtain ⟨n, hn⟩ : ∃ n, d.stones.toNat = n := ⟨_, rfl⟩
    have hn' : d.stones = n := by omega
    rw [hn]
    refine wp_loop_to n (fun i st => ∃ (hp : Nat → Ob) (v : Vl) (nx : Nat) (ex : List (Nat × Vl)), JS (fun i => encS (joinT l (1 + i))) i hp v nx ∧ st = ({ sl := (4, .lst 100 (l.map tV) false) :: (6, v) :: (17, I d.stones) :: (18, I i) :: ex, hp := hp, nx := nx } : FS)) ?_ 0 (Nat.zero_le _) ⟨noHeap, .nils, 0, _, .inl ⟨rfl, rfl, rfl⟩, rfl⟩
    rintro i st hi ⟨hp, v, nx, ex, hJ, rfl⟩
    rw [hn']
    by_cases hc : i < n
    · have hjo := fun (hp : Nat → Ob) (id nx : Nat) (hb : hp id = .box (I i)) => joined_to (b := b) (nx := nx) (v := 1 + i) (g := 22) hT hne hlen hb (fun T hT' m K hm => WC_heap (by simp only [mkAnn, K22]) rfl (ySpan_to (hT T hT').1 (hT T hT').2 (by omega) hm))
      rcases hJ with ⟨rfl, rfl, rfl⟩ | ⟨h1, rfl, h2, h3⟩
      · have hc0 : (0 : Int) < n := by omega
        have hw := fun K => WC_heap (P := Tryd.prog) (A := AA b) (g := 21) (first := []) (cap := []) (args := [.v (.lst 100 (l.map tV) false), .v (.fn (.func 22) [] [.bp 0 0])]) (m := { lc := [], hp := upd hp 0 (.box (I 0)), nx := 1 }) (K := K) (by simp only [mkAnn, K21]) rfl (hjo _ _ _ (show upd hp 0 (.box (I 0)) 0 = .box (I ((0 : Nat) : Int)) from upd_same _ _ _))
        simp +contextual (maxSteps := 1000000) (disch := first | omega | (with_reducible first | refine krN ?_ | refine krS ?_ | refine krP ?_ | refine krG ?_); kernel_rfl | refine kr ?_; simp only [go_sem, reduceCtorEq, hc0, hc, newBox, hw, ap22_nils]; done | fail) only [go_sem, seval, -List.reduceReplicate, hc0, hc, newBox, hw, ap22_nils]
        exact ⟨_, _, _, _, .inr ⟨by omega, rfl, by omega, upd_same _ _ _⟩, rfl⟩
      · have hc0 : (i : Int) < n := by omega
        have hw := fun K => WC_heap (P := Tryd.prog) (A := AA b) (g := 21) (first := []) (cap := []) (args := [.v (.lst 100 (l.map tV) false), .v (.fn (.func 22) [] [.bp nx 0])]) (m := { lc := [], hp := upd hp nx (.box (I i)), nx := nx + 1 }) (K := K) (by simp only [mkAnn, K21]) rfl (hjo _ _ _ (upd_same _ _ _))
        have hap : ∀ (x : Vl) (t : Bool), isAppend Tryd.prog 22 22 (.own 1 i) (.lst 2 [x] t) { lc := [], hp := upd hp nx (.box (I i)), nx := nx + 1 } = some (.own 1 (i + 1), { lc := [], hp := upd (upd hp nx (.box (I i))) 1 (.arr 2 ((List.range i).map (fun i => encS (joinT l (1 + i))) ++ [x])), nx := nx + 1 }) := fun x t => ap22_own (by show upd hp nx _ 1 = _; rw [upd_ne _ _ (by omega)]; exact h3) (by simp) (by omega)
        simp +contextual (maxSteps := 1000000) (disch := first | omega | (with_reducible first | refine krN ?_ | refine krS ?_ | refine krP ?_ | refine krG ?_); kernel_rfl | refine kr ?_; simp only [go_sem, reduceCtorEq, hc0, hc, newBox, hw, hap]; done | fail) only [go_sem, seval, -List.reduceReplicate, hc0, hc, newBox, hw, hap]
        exact ⟨_, _, _, _, .inr ⟨by omega, rfl, by omega, by rw [upd_same, range_snoc, List.map_append]; rfl⟩, rfl⟩
    · have hie : i = n := by omega
      subst hie
      rcases hJ with ⟨rfl, rfl, rfl⟩ | ⟨h1, rfl, h2, h3⟩
      · simp +contextual (maxSteps := 1000000) (disch := first | omega | (with_reducible first | refine krN ?_ | refine krS ?_ | refine krP ?_ | refine krG ?_); kernel_rfl | refine kr ?_; simp only [go_sem, reduceCtorEq, Int.lt_irrefl]; done | fail) only [go_sem, seval, -List.reduceReplicate, Int.lt_irrefl]
        rfl
      · have hrf : reify hp (.own 1 i) = some (.lst 2 ((List.range i).map fun i => encS (joinT l (1 + i))) false, [1]) := reify_flat (.inl h3) (by simp) fun _ => rfl
        simp +contextual (maxSteps := 1000000) (disch := first | omega | (with_reducible first | refine krN ?_ | refine krS ?_ | refine krP ?_ | refine krG ?_); kernel_rfl | refine kr ?_; simp only [go_sem, reduceCtorEq, Int.lt_irrefl, hrf]; done | fail) only [go_sem, seval, -List.reduceReplicate, Int.lt_irrefl, hrf]
        rw [spansV_pos h1]
  · rw [if_neg h]
    have h1 := foundV_no h
    simp +contextual (maxSteps := 1000000) (disch := first | omega | (with_reducible first | refine krN ?_ | refine krS ?_ | refine krP ?_ | refine krG ?_); kernel_rfl | refine kr ?_; simp only [go_sem, reduceCtorEq, wc20, h, h1]; done | fail) only [go_sem, seval, -List.reduceReplicate, wc20, h, h1]
set_option maxRecDepth 10000 in
set_option maxHeartbeats 4000000 in
theorem firsts38_to {d : Dt} {o1 o2 : Option Bool} : Ans Tryd.prog (AA b) 8 [encD o1 o2 d] (fun v => v = .tup [if (foundV d).2 = 0 then spansV (tabsL d) 7 d.eras.length else .nils, I (foundV d).2]) := by
  refine Ans_of Tryd.func8 rfl rfl ?_
  by_cases h : (foundV d).2 = 0
  · obtain ⟨hd, hne, hf⟩ := foundV_ok h
    have hT := tabs_TOk hd
    have hs6 := hd.eras_l
    rw [if_pos h, h]
    simp +contextual (maxSteps := 1000000) (disch := first | omega | (with_reducible first | refine krN ?_ | refine krS ?_ | refine krP ?_ | refine krG ?_); kernel_rfl | refine kr ?_; simp only [go_sem, reduceCtorEq, wc20, hf]; done | fail) only [go_sem, seval, -List.reduceReplicate, wc20, hf]
    have hlen : (tabsL d).length ≤ 10000 := by have := tabs_len hd; omega
    generalize tabsL d = l at hne hT hlen
    obtain ⟨n, hn⟩ : ∃ n, d.eras.length = n := ⟨_, rfl⟩
    have hn' : (d.eras.length : Int) = n := by omega
    rw [hn] at hs6 ⊢
    refine wp_loop_to n (fun i st => ∃ (hp : Nat → Ob) (v : Vl) (nx : Nat) (ex : List (Nat × Vl)), JS (fun i => encS (joinT l (7 + i))) i hp v nx ∧ st = ({ sl := (4, .lst 100 (l.map tV) false) :: (6, v) :: (18, I n) :: (19, I i) :: ex, hp := hp, nx := nx } : FS)) ?_ 0 (Nat.zero_le _) ⟨noHeap, .nils, 0, _, .inl ⟨rfl, rfl, rfl⟩, rfl⟩
    rintro i st hi ⟨hp, v, nx, ex, hJ, rfl⟩
    by_cases hc : i < n
    · have hjo := fun (hp : Nat → Ob) (id nx : Nat) (hb : hp id = .box (I i)) => joined_to (b := b) (nx := nx) (v := 7 + i) (g := 25) hT hne hlen hb (fun T hT' m K hm => WC_heap (by simp only [mkAnn, K25]) rfl (fSpan_to (hT T hT').1 (hT T hT').2 (by omega) hm))
      rcases hJ with ⟨rfl, rfl, rfl⟩ | ⟨h1, rfl, h2, h3⟩
      · have hc0 : (0 : Int) < n := by omega
        have hw := fun K => WC_heap (P := Tryd.prog) (A := AA b) (g := 21) (first := []) (cap := []) (args := [.v (.lst 100 (l.map tV) false), .v (.fn (.func 25) [] [.bp 0 0])]) (m := { lc := [], hp := upd hp 0 (.box (I 0)), nx := 1 }) (K := K) (by simp only [mkAnn, K21]) rfl (hjo _ _ _ (show upd hp 0 (.box (I 0)) 0 = .box (I ((0 : Nat) : Int)) from upd_same _ _ _))
        simp +contextual (maxSteps := 1000000) (disch := first | omega | (with_reducible first | refine krN ?_ | refine krS ?_ | refine krP ?_ | refine krG ?_); kernel_rfl | refine kr ?_; simp only [go_sem, reduceCtorEq, hc0, hc, newBox, hw, ap22_nils]; done | fail) only [go_sem, seval, -List.reduceReplicate, hc0, hc, newBox, hw, ap22_nils]
        exact ⟨_, _, _, _, .inr ⟨by omega, rfl, by omega, upd_same _ _ _⟩, rfl⟩
      · have hc0 : (i : Int) < n := by omega
        have hw := fun K => WC_heap (P := Tryd.prog) (A := AA b) (g := 21) (first := []) (cap := []) (args := [.v (.lst 100 (l.map tV) false), .v (.fn (.func 25) [] [.bp nx 0])]) (m := { lc := [], hp := upd hp nx (.box (I i)), nx := nx + 1 }) (K := K) (by simp only [mkAnn, K21]) rfl (hjo _ _ _ (upd_same _ _ _))
        have hap : ∀ (x : Vl) (t : Bool), isAppend Tryd.prog 22 22 (.own 1 i) (.lst 2 [x] t) { lc := [], hp := upd hp nx (.box (I i)), nx := nx + 1 } = some (.own 1 (i + 1), { lc := [], hp := upd (upd hp nx (.box (I i))) 1 (.arr 2 ((List.range i).map (fun i => encS (joinT l (7 + i))) ++ [x])), nx := nx + 1 }) := fun x t => ap22_own (by show upd hp nx _ 1 = _; rw [upd_ne _ _ (by omega)]; exact h3) (by simp) (by omega)
        simp +contextual (maxSteps := 1000000) (disch := first | omega | (with_reducible first | refine krN ?_ | refine krS ?_ | refine krP ?_ | refine krG ?_); kernel_rfl | refine kr ?_; simp only [go_sem, reduceCtorEq, hc0, hc, newBox, hw, hap]; done | fail) only [go_sem, seval, -List.reduceReplicate, hc0, hc, newBox, hw, hap]
        exact ⟨_, _, _, _, .inr ⟨by omega, rfl, by omega, by rw [upd_same, range_snoc, List.map_append]; rfl⟩, rfl⟩
    · have hie : i = n := by omega
      subst hie
      rcases hJ with ⟨rfl, rfl, rfl⟩ | ⟨h1, rfl, h2, h3⟩
      · simp +contextual (maxSteps := 1000000) (disch := first | omega | (with_reducible first | refine krN ?_ | refine krS ?_ | refine krP ?_ | refine krG ?_); kernel_rfl | refine kr ?_; simp only [go_sem, reduceCtorEq, Int.lt_irrefl]; done | fail) only [go_sem, seval, -List.reduceReplicate, Int.lt_irrefl]
        rfl
      · have hrf : reify hp (.own 1 i) = some (.lst 2 ((List.range i).map fun i => encS (joinT l (7 + i))) false, [1]) := reify_flat (.inl h3) (by simp) fun _ => rfl
        simp +contextual (maxSteps := 1000000) (disch := first | omega | (with_reducible first | refine krN ?_ | refine krS ?_ | refine krP ?_ | refine krG ?_); kernel_rfl | refine kr ?_; simp only [go_sem, reduceCtorEq, Int.lt_irrefl, hrf]; done | fail) only [go_sem, seval, -List.reduceReplicate, Int.lt_irrefl, hrf]
        rw [spansV_pos h1]
  · rw [if_neg h]
    have h1 := foundV_no h
    simp +contextual (maxSteps := 1000000) (disch := first | omega | (with_reducible first | refine krN ?_ | refine krS ?_ | refine krP ?_ | refine krG ?_); kernel_rfl | refine kr ?_; simp only [go_sem, reduceCtorEq, wc20, h, h1]; done | fail) only [go_sem, seval, -List.reduceReplicate, wc20, h, h1]
section
variable {m : Mem} {K : Vl → Mem → Prop}
end
end Go.Proofs
