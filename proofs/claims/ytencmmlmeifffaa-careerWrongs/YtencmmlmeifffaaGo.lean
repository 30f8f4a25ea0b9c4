/- What functions of the given program do in the ideal machine (G48, G49), and the plain laws of what they answer; the conditions stand in each theorem. -/
import Derived.Test.YtencmmlmeifffaaGn
set_option linter.all false
set_option linter.unusedSectionVars false
set_option linter.unusedSimpArgs false
set_option linter.unusedVariables false
namespace Go.Proofs
open Go Go.Idl
set_option linter.unusedSimpArgs false
variable {b : Bool}
section
variable {lc : List (Nat × Vl)} {nx k : Nat} {gs ys : List Vl} {o : Bool} {hp : Nat → Ob}
theorem apRl (h0 : hp 0 = .arr 3 gs) (hn : gs.length = k) (hs : k + ys.length ≤ 1000000) : isAppend Try.prog 112 112 (.own 0 k) (.lst 3 ys o) ⟨lc, hp, nx⟩ = some (.own 0 (k + ys.length), ⟨lc, upd hp 0 (.arr 3 (gs ++ ys)), nx⟩) := by
  have := append_own (td := tdOf Try.prog 112) (td1 := tdOf Try.prog 112) (m := ⟨lc, hp, nx⟩) (ys := ys) (b := o) (by rw [td112]) (by rw [td112]) h0 hn (grow_ok rfl rfl (by decide) (by decide) (by omega))
  exact this
end
theorem fixedTo_m {r : Roll} {n : Nat} : fixedTo r (n + 1) 0 = fixedTo r n 0 ++ fixMan r n := by
  unfold fixedTo
  rw [List.range_succ, List.map_append, List.flatten_append]
  simp
theorem fixedTo_c {r : Roll} {n q : Nat} : fixedTo r n (q + 1) = fixedTo r n q ++ fixRec r q := by
  unfold fixedTo
  rw [List.range_succ, List.map_append, List.flatten_append]
  simp
theorem fixGap_len {r : Roll} {i k : Nat} : (fixGap r i k).length ≤ 1 := by
  unfold fixGap; split <;> simp
theorem gaps_len {r : Roll} {i n : Nat} : (((List.range n).map (fixGap r i)).flatten).length ≤ n := by
  induction n with
  | zero => simp
  | succ n ih =>
    rw [List.range_succ, List.map_append, List.flatten_append, List.length_append]
    have := @fixGap_len r i n
    simp only [List.map_cons, List.map_nil, List.flatten_cons, List.flatten_nil, List.append_nil]
    omega
theorem fixRec_len {r : Roll} {i : Nat} : (fixRec r i).length ≤ 3 + r.cs.length := by
  unfold fixRec
  split
  · simp
  · rw [List.length_append]
    have := @gaps_len r i r.cs.length
    simp only [List.length_cons, List.length_nil]; omega
theorem fixedTo_len {r : Roll} {n q : Nat} : (fixedTo r n q).length ≤ 2 * n + (3 + r.cs.length) * q := by
  induction q with
  | zero =>
    induction n with
    | zero => simp [fixedTo]
    | succ n ih => rw [fixedTo_m, List.length_append]; simp only [fixMan, List.length_cons, List.length_nil]; omega
  | succ q ih => rw [fixedTo_c, List.length_append, Nat.mul_succ]; have := @fixRec_len r q; omega
theorem ap112 {gs ys : List Vl} {k n : Nat} {lc : List (Nat × Vl)} {o : Bool} (hn : gs.length = k) (hm : gs.length + ys.length = n) (hs : n ≤ 1000000) : isAppend Try.prog 112 112 (.own 0 k) (.lst 3 ys o) ⟨lc, upd noHeap 0 (.arr 3 gs), 1⟩ = some (.own 0 n, ⟨lc, upd noHeap 0 (.arr 3 (gs ++ ys)), 1⟩) := by
  subst hm
  rw [apRl (upd_same _ _ _) hn (by omega), upd_upd, hn]
def Ap (gs : List Vl) : Prop := (∀ (lc : List (Nat × Vl)) (x : Vl) (o : Bool), isAppend Try.prog 112 112 (.own 0 gs.length) (.lst 3 [x] o) ⟨lc, upd noHeap 0 (.arr 3 gs), 1⟩ = some (.own 0 (gs.length + 1), ⟨lc, upd noHeap 0 (.arr 3 (gs ++ [x])), 1⟩)) ∧
  (∀ (lc : List (Nat × Vl)) (x y : Vl) (o : Bool), isAppend Try.prog 112 112 (.own 0 gs.length) (.lst 3 [x, y] o) ⟨lc, upd noHeap 0 (.arr 3 gs), 1⟩ = some (.own 0 (gs.length + 2), ⟨lc, upd noHeap 0 (.arr 3 (gs ++ [x, y])), 1⟩)) ∧
  (∀ (lc : List (Nat × Vl)) (x y z : Vl) (o : Bool), isAppend Try.prog 112 112 (.own 0 (gs.length + 2)) (.lst 3 [z] o) ⟨lc, upd noHeap 0 (.arr 3 (gs ++ [x, y])), 1⟩ = some (.own 0 (gs.length + 3), ⟨lc, upd noHeap 0 (.arr 3 (gs ++ [x, y, z])), 1⟩))
theorem Ap_mk {gs : List Vl} (h : gs.length ≤ 1000) : Ap gs :=
  ⟨fun lc x o => ap112 rfl rfl (by simp; omega), fun lc x y o => ap112 rfl rfl (by simp; omega), fun lc x y z o => by
    have := ap112 (gs := gs ++ [x, y]) (ys := [z]) (k := gs.length + 2) (n := gs.length + 3) (lc := lc) (o := o) (by simp) (by simp) (by omega)
    rw [this, List.append_assoc]; rfl⟩
set_option maxRecDepth 10000 in
set_option maxHeartbeats 4000000 in
theorem fixed_to {r : Roll} (hw : WF r) {o1 o2 o3 o4 : Option Bool} : Ans Try.prog (AA b) 77 [encRoll o1 o2 o3 o4 r] (fun v => v = .lst 3 ((fixedL r).map encR) false) := by
  refine Ans_of Try.func77 rfl rfl ?_
  obtain ⟨hm1, hm6⟩ := hw.ms_l
  have hc8 := hw.cs_l
  have hli := hw.life
  have hpar := hw.par
  simp +contextual (maxSteps := 1000000) (disch := first | omega | (with_reducible first | refine krN ?_ | refine krS ?_ | refine krP ?_ | refine krG ?_); kernel_rfl | refine kr ?_; simp only [go_sem, reduceCtorEq]; done | fail) only [go_sem, seval, -List.reduceReplicate]
  refine wp_loop_to r.ms.length (fun i st => ∃ (gs : List Vl) (ex : List (Nat × Vl)), gs = (fixedTo r i 0).map encR ∧ st = ({ sl := (1, .loc (encRoll o1 o2 o3 o4 r)) :: (3, .own 0 gs.length) :: (4, I i) :: ex, hp := upd noHeap 0 (.arr 3 gs), nx := 1 } : FS)) ?_ 0 (Nat.zero_le _) ⟨[], [], rfl, rfl⟩
  rintro i st hi ⟨gs, ex, hgs, rfl⟩
  have hgl : gs.length ≤ 1000 := by rw [hgs, List.length_map]; have := @fixedTo_len r i 0; omega
  by_cases hc : i < r.ms.length
  case pos =>
    obtain ⟨_, ap2, _⟩ := Ap_mk hgl
    simp +contextual (maxSteps := 1000000) (disch := first | omega | (with_reducible first | refine krN ?_ | refine krS ?_ | refine krP ?_ | refine krG ?_); kernel_rfl | refine kr ?_; simp only [go_sem, reduceCtorEq, Int.ofNat_lt, hc, wc94, wc95, wc93, ap2]; done | fail) only [go_sem, seval, -List.reduceReplicate, Int.ofNat_lt, hc, wc94, wc95, wc93, ap2]
    refine ⟨_, [], ?_, by rw [show gs.length + 2 = (gs ++ [Vl.agg [I (i : Int), I ((r.ms.length : Int) + i), I 0], Vl.agg [I ((r.ms.length : Int) + i), I i, I (-r.life)]]).length by simp]⟩
    rw [fixedTo_m, List.map_append, hgs]; rfl
  obtain rfl : i = r.ms.length := by omega
  simp +contextual (maxSteps := 1000000) (disch := first | omega | (with_reducible first | refine krN ?_ | refine krS ?_ | refine krP ?_ | refine krG ?_); kernel_rfl | refine kr ?_; simp only [go_sem, reduceCtorEq, Int.lt_irrefl]; done | fail) only [go_sem, seval, -List.reduceReplicate, Int.lt_irrefl]
  obtain ⟨qs, hqs⟩ : ∃ qs, qs = gs := ⟨_, rfl⟩
  rw [← hqs]
  clear hc hi ex
  refine wp_loop_to r.cs.length (fun i st => ∃ (gs : List Vl) (ex : List (Nat × Vl)), gs = (fixedTo r r.ms.length i).map encR ∧ st = ({ sl := (1, .loc (encRoll o1 o2 o3 o4 r)) :: (3, .own 0 gs.length) :: (5, I i) :: ex, hp := upd noHeap 0 (.arr 3 gs), nx := 1 } : FS)) ?_ 0 (Nat.zero_le _) ⟨qs, [], hqs.trans hgs, rfl⟩
  clear hqs qs hgs hgl gs
  rintro i st hi ⟨gs, ex, hgs, rfl⟩
  have hgl : gs.length ≤ 500 := by
    rw [hgs, List.length_map]; have := @fixedTo_len r r.ms.length i
    have h2 : (3 + r.cs.length) * i ≤ 11 * 8 := Nat.mul_le_mul (by omega) (by omega)
    omega
  by_cases hc : i < r.cs.length
  case neg =>
    obtain rfl : i = r.cs.length := by omega
    simp +contextual (maxSteps := 1000000) (disch := first | omega | (with_reducible first | refine krN ?_ | refine krS ?_ | refine krP ?_ | refine krG ?_); kernel_rfl | refine kr ?_; simp only [go_sem, reduceCtorEq, Int.lt_irrefl]; done | fail) only [go_sem, seval, -List.reduceReplicate, Int.lt_irrefl]
    rw [hgs, List.length_map]
    exact OB_intro (reify_flat (.inl (upd_same _ _ _)) rfl fun _ => rfl) rfl
  obtain ⟨ap1, ap2, ap3⟩ := Ap_mk (gs := gs) (by omega)
  obtain ⟨a1, a2, a3, a4⟩ := hw.cs_ok _ (get!_mem hc)
  have em : ((r.cs[i]!.man.toNat : Nat) : Int) = r.cs[i]!.man := by omega
  cases hk : r.cs[i]!.kin with
  | true =>
    have h3 := a3 hk
    have ech : ((r.cs[i]!.child.toNat : Nat) : Int) = r.cs[i]!.child := by omega
    simp +contextual (maxSteps := 1000000) (disch := first | omega | (with_reducible first | refine krN ?_ | refine krS ?_ | refine krP ?_ | refine krG ?_); kernel_rfl | refine kr ?_; simp only [go_sem, reduceCtorEq, Int.ofNat_lt, hc, ix_map, encC, hk, wc94, wc95, wc93, ap2, ap3]; done | fail) only [go_sem, seval, -List.reduceReplicate, Int.ofNat_lt, hc, ix_map, encC, hk, wc94, wc95, wc93, ap2, ap3]
    refine ⟨gs ++ [Vl.agg [I r.cs[i]!.man, I r.cs[i]!.child, I r.plo], Vl.agg [I r.cs[i]!.child, I r.cs[i]!.man, I (-r.phi)], Vl.agg [I r.cs[i]!.child, I ((r.ms.length : Int) + r.cs[i]!.man), I (-1)]], [], ?_, by simp⟩
    rw [fixedTo_c, List.map_append, hgs]
    unfold fixRec
    rw [if_pos hk]
    simp only [List.map_cons, List.map_nil, encR, Int.natCast_add, em, ech]
  | false =>
    have h4 := a4 hk
    have hrec : ∀ n, n ≤ r.cs.length → ((fixedTo r r.ms.length i).map encR ++ [Vl.agg [I r.cs[i]!.man, I (2 * (r.ms.length : Int) + i), I (ageL r i)], Vl.agg [I (2 * (r.ms.length : Int) + i), I ((r.ms.length : Int) + r.cs[i]!.man), I 0]] ++ (((List.range n).map (fixGap r i)).flatten).map encR).length ≤ 1000 := fun n hn => by
      have h1 := @fixedTo_len r r.ms.length i
      have h2 : (3 + r.cs.length) * i ≤ 11 * 8 := Nat.mul_le_mul (by omega) (by omega)
      have h3 := @gaps_len r i n
      simp only [List.length_append, List.length_map, List.length_cons, List.length_nil]
      omega
    have hE : encC r.cs[i]! = .agg [.bool false, I r.cs[i]!.man, I r.cs[i]!.office, I r.cs[i]!.town, I r.cs[i]!.child, I r.cs[i]!.lo, I r.cs[i]!.hi] := by unfold encC; rw [hk]
    have hg : gs ++ [Vl.agg [I r.cs[i]!.man, I (2 * (r.ms.length : Int) + i), I (ageL r i)], Vl.agg [I (2 * (r.ms.length : Int) + i), I ((r.ms.length : Int) + r.cs[i]!.man), I 0]] = (fixedTo r r.ms.length i).map encR ++ [Vl.agg [I r.cs[i]!.man, I (2 * (r.ms.length : Int) + i), I (ageL r i)], Vl.agg [I (2 * (r.ms.length : Int) + i), I ((r.ms.length : Int) + r.cs[i]!.man), I 0]] ++ (((List.range 0).map (fixGap r i)).flatten).map encR := by rw [hgs]; simp
    by_cases ho : 0 ≤ r.cs[i]!.office
    · have hage : ageL r i = r.os[r.cs[i]!.office.toNat]!.age := if_pos ho
      simp +contextual (maxSteps := 1000000) (disch := first | omega | (with_reducible first | refine krN ?_ | refine krS ?_ | refine krP ?_ | refine krG ?_); kernel_rfl | refine kr ?_; simp only [go_sem, reduceCtorEq, Int.ofNat_lt, hc, ix_map, encC, encO, hk, ho, wc94, wc95, wc96, ap2]; done | fail) only [go_sem, seval, -List.reduceReplicate, Int.ofNat_lt, hc, ix_map, encC, encO, hk, ho, wc94, wc95, wc96, ap2]
      refine wp_loop_to r.cs.length (fun k st => ∃ (qs : List Vl) (ex : List (Nat × Vl)), qs = (fixedTo r r.ms.length i).map encR ++ [Vl.agg [I r.cs[i]!.man, I (2 * (r.ms.length : Int) + i), I (ageL r i)], Vl.agg [I (2 * (r.ms.length : Int) + i), I ((r.ms.length : Int) + r.cs[i]!.man), I 0]] ++ (((List.range k).map (fixGap r i)).flatten).map encR ∧ st = ({ sl := (1, .loc (encRoll o1 o2 o3 o4 r)) :: (3, .own 0 qs.length) :: (5, I i) :: (6, .loc (encC r.cs[i]!)) :: (8, I k) :: ex, hp := upd noHeap 0 (.arr 3 qs), nx := 1 } : FS)) ?_ 0 (Nat.zero_le _) ⟨_, [], hg, by rw [hage, hE]; simp only [List.length_append, List.length_cons, List.length_nil, Nat.reduceAdd]; rfl⟩
      clear hg
      rintro k st hkl ⟨qs, ex, hqs, rfl⟩
      have hql : qs.length ≤ 1000 := by rw [hqs]; exact hrec k hkl
      by_cases hc2 : k < r.cs.length
      case neg =>
        obtain rfl : k = r.cs.length := by omega
        simp +contextual (maxSteps := 1000000) (disch := first | omega | (with_reducible first | refine krN ?_ | refine krS ?_ | refine krP ?_ | refine krG ?_); kernel_rfl | refine kr ?_; simp only [go_sem, reduceCtorEq, Int.lt_irrefl]; done | fail) only [go_sem, seval, -List.reduceReplicate, Int.lt_irrefl]
        refine ⟨qs, [], ?_, rfl⟩
        rw [hqs, fixedTo_c, List.map_append, List.append_assoc]
        congr 1
        rw [fixRec, if_neg (by rw [hk]; decide), List.map_append]
        simp only [List.map_cons, List.map_nil, encR, Int.natCast_add, Int.natCast_mul, Int.cast_ofNat_Int, em]
      obtain ⟨ap1', _, _⟩ := Ap_mk hql
      have hsuc : ∀ g, fixGap r i k = g → (((List.range k ++ [k]).map (fixGap r i)).flatten).map encR = (((List.range k).map (fixGap r i)).flatten).map encR ++ g.map encR := fun g e => by
        rw [List.map_append, List.flatten_append, List.map_append]
        simp [e]
      cases hk2 : r.cs[k]!.kin with
      | true =>
        simp +contextual (maxSteps := 1000000) (disch := first | omega | (with_reducible first | refine krN ?_ | refine krS ?_ | refine krP ?_ | refine krG ?_); kernel_rfl | refine kr ?_; simp only [go_sem, reduceCtorEq, Int.ofNat_lt, hc2, ix_map, encC, encO, hk2]; done | fail) only [go_sem, seval, -List.reduceReplicate, Int.ofNat_lt, hc2, ix_map, encC, encO, hk2]
        refine ⟨qs, [], ?_, rfl⟩
        rw [hsuc [] (by unfold fixGap; rw [if_neg (fun h => by rw [hk2] at h; cases h.1)]), List.map_nil, List.append_nil]; exact hqs
      | false =>
        obtain ⟨k1, k2, _⟩ := (hw.cs_ok _ (get!_mem hc2)).2.2.2 hk2
        by_cases g : r.cs[k]!.man = r.cs[i]!.man ∧ 0 ≤ r.cs[i]!.office ∧ r.cs[i]!.office < r.cs[k]!.office
        · obtain ⟨g1, g2, g3⟩ := g
          simp +contextual (maxSteps := 1000000) (disch := first | omega | (with_reducible first | refine krN ?_ | refine krS ?_ | refine krP ?_ | refine krG ?_); kernel_rfl | refine kr ?_; simp only [go_sem, reduceCtorEq, Int.ofNat_lt, hc2, ix_map, encC, encO, hk2, g1, g2, g3, wc96, ap1']; done | fail) only [go_sem, seval, -List.reduceReplicate, Int.ofNat_lt, hc2, ix_map, encC, encO, hk2, g1, g2, g3, wc96, ap1']
          refine ⟨qs ++ [Vl.agg [I (2 * (r.ms.length : Int) + i), I (2 * (r.ms.length : Int) + k), I r.os[r.cs[k]!.office.toNat]!.gap]], [], ?_, by simp⟩
          rw [hsuc [⟨2 * r.ms.length + i, 2 * r.ms.length + k, r.os[r.cs[k]!.office.toNat]!.gap⟩] (by unfold fixGap; rw [if_pos ⟨hk2, g1, g2, g3⟩]), hqs]
          simp only [List.map_cons, List.map_nil, encR, Int.natCast_add, Int.natCast_mul, Int.cast_ofNat_Int, List.append_assoc]
        · simp +contextual (maxSteps := 1000000) (disch := first | omega | (with_reducible first | refine krN ?_ | refine krS ?_ | refine krP ?_ | refine krG ?_); kernel_rfl | refine kr ?_; simp only [go_sem, reduceCtorEq, Int.ofNat_lt, hc2, ix_map, encC, encO, hk2]; done | fail) only [go_sem, seval, -List.reduceReplicate, Int.ofNat_lt, hc2, ix_map, encC, encO, hk2]
          refine WI_of (fun h => absurd ⟨h.1.1, h.1.2, h.2⟩ g) (fun _ => ⟨qs, _, ?_, rfl⟩)
          rw [hsuc [] (by unfold fixGap; rw [if_neg (fun h => g h.2)]), List.map_nil, List.append_nil]; exact hqs
    · have hage : ageL r i = 0 := if_neg ho
      simp +contextual (maxSteps := 1000000) (disch := first | omega | (with_reducible first | refine krN ?_ | refine krS ?_ | refine krP ?_ | refine krG ?_); kernel_rfl | refine kr ?_; simp only [go_sem, reduceCtorEq, Int.ofNat_lt, hc, ix_map, encC, encO, hk, ho, wc94, wc95, wc96, ap2]; done | fail) only [go_sem, seval, -List.reduceReplicate, Int.ofNat_lt, hc, ix_map, encC, encO, hk, ho, wc94, wc95, wc96, ap2]
      refine wp_loop_to r.cs.length (fun k st => ∃ (qs : List Vl) (ex : List (Nat × Vl)), qs = (fixedTo r r.ms.length i).map encR ++ [Vl.agg [I r.cs[i]!.man, I (2 * (r.ms.length : Int) + i), I (ageL r i)], Vl.agg [I (2 * (r.ms.length : Int) + i), I ((r.ms.length : Int) + r.cs[i]!.man), I 0]] ++ (((List.range k).map (fixGap r i)).flatten).map encR ∧ st = ({ sl := (1, .loc (encRoll o1 o2 o3 o4 r)) :: (3, .own 0 qs.length) :: (5, I i) :: (6, .loc (encC r.cs[i]!)) :: (8, I k) :: ex, hp := upd noHeap 0 (.arr 3 qs), nx := 1 } : FS)) ?_ 0 (Nat.zero_le _) ⟨_, [], hg, by rw [hage, hE]; simp only [List.length_append, List.length_cons, List.length_nil, Nat.reduceAdd]; rfl⟩
      clear hg
      rintro k st hkl ⟨qs, ex, hqs, rfl⟩
      have hql : qs.length ≤ 1000 := by rw [hqs]; exact hrec k hkl
      by_cases hc2 : k < r.cs.length
      case neg =>
        obtain rfl : k = r.cs.length := by omega
        simp +contextual (maxSteps := 1000000) (disch := first | omega | (with_reducible first | refine krN ?_ | refine krS ?_ | refine krP ?_ | refine krG ?_); kernel_rfl | refine kr ?_; simp only [go_sem, reduceCtorEq, Int.lt_irrefl]; done | fail) only [go_sem, seval, -List.reduceReplicate, Int.lt_irrefl]
        refine ⟨qs, [], ?_, rfl⟩
        rw [hqs, fixedTo_c, List.map_append, List.append_assoc]
        congr 1
        rw [fixRec, if_neg (by rw [hk]; decide), List.map_append]
        simp only [List.map_cons, List.map_nil, encR, Int.natCast_add, Int.natCast_mul, Int.cast_ofNat_Int, em]
      obtain ⟨ap1', _, _⟩ := Ap_mk hql
      have hsuc : ∀ g, fixGap r i k = g → (((List.range k ++ [k]).map (fixGap r i)).flatten).map encR = (((List.range k).map (fixGap r i)).flatten).map encR ++ g.map encR := fun g e => by
        rw [List.map_append, List.flatten_append, List.map_append]
        simp [e]
      cases hk2 : r.cs[k]!.kin with
      | true =>
        simp +contextual (maxSteps := 1000000) (disch := first | omega | (with_reducible first | refine krN ?_ | refine krS ?_ | refine krP ?_ | refine krG ?_); kernel_rfl | refine kr ?_; simp only [go_sem, reduceCtorEq, Int.ofNat_lt, hc2, ix_map, encC, encO, hk2]; done | fail) only [go_sem, seval, -List.reduceReplicate, Int.ofNat_lt, hc2, ix_map, encC, encO, hk2]
        refine ⟨qs, [], ?_, rfl⟩
        rw [hsuc [] (by unfold fixGap; rw [if_neg (fun h => by rw [hk2] at h; cases h.1)]), List.map_nil, List.append_nil]; exact hqs
      | false =>
        obtain ⟨k1, k2, _⟩ := (hw.cs_ok _ (get!_mem hc2)).2.2.2 hk2
        by_cases g : r.cs[k]!.man = r.cs[i]!.man ∧ 0 ≤ r.cs[i]!.office ∧ r.cs[i]!.office < r.cs[k]!.office
        · obtain ⟨g1, g2, g3⟩ := g
          simp +contextual (maxSteps := 1000000) (disch := first | omega | (with_reducible first | refine krN ?_ | refine krS ?_ | refine krP ?_ | refine krG ?_); kernel_rfl | refine kr ?_; simp only [go_sem, reduceCtorEq, Int.ofNat_lt, hc2, ix_map, encC, encO, hk2, g1, g2, g3, wc96, ap1']; done | fail) only [go_sem, seval, -List.reduceReplicate, Int.ofNat_lt, hc2, ix_map, encC, encO, hk2, g1, g2, g3, wc96, ap1']
          refine ⟨qs ++ [Vl.agg [I (2 * (r.ms.length : Int) + i), I (2 * (r.ms.length : Int) + k), I r.os[r.cs[k]!.office.toNat]!.gap]], [], ?_, by simp⟩
          rw [hsuc [⟨2 * r.ms.length + i, 2 * r.ms.length + k, r.os[r.cs[k]!.office.toNat]!.gap⟩] (by unfold fixGap; rw [if_pos ⟨hk2, g1, g2, g3⟩]), hqs]
          simp only [List.map_cons, List.map_nil, encR, Int.natCast_add, Int.natCast_mul, Int.cast_ofNat_Int, List.append_assoc]
        · simp +contextual (maxSteps := 1000000) (disch := first | omega | (with_reducible first | refine krN ?_ | refine krS ?_ | refine krP ?_ | refine krG ?_); kernel_rfl | refine kr ?_; simp only [go_sem, reduceCtorEq, Int.ofNat_lt, hc2, ix_map, encC, encO, hk2]; done | fail) only [go_sem, seval, -List.reduceReplicate, Int.ofNat_lt, hc2, ix_map, encC, encO, hk2]
          refine WI_of (fun h => absurd ⟨h.1.1, h.1.2, h.2⟩ g) (fun _ => ⟨qs, _, ?_, rfl⟩)
          rw [hsuc [] (by unfold fixGap; rw [if_neg (fun h => g h.2)]), List.map_nil, List.append_nil]; exact hqs
end Go.Proofs
namespace Go.Proofs
open Go Go.Idl
set_option linter.unusedSimpArgs false
variable {b : Bool}
theorem chk_slice {P : Program} {d : Option Nat} {t : TypeId} {x : Operand} {lo hi mx : Option Operand} {ρ : Operand → Arg} {g : Arg} {m : Mem} : chk P d (.slice t x lo hi mx) ρ g m = OB (sliceV (tdOf P t).k (ρ x).vl (lo.map fun o => (ρ o).vl) (hi.map fun o => (ρ o).vl) (mx.map fun o => (ρ o).vl) m) (fun r => r.1 = g) := by
  have e : evalV P d (.slice t x lo hi mx) ρ m = sliceV (tdOf P t).k (ρ x).vl (lo.map fun o => (ρ o).vl) (hi.map fun o => (ρ o).vl) (mx.map fun o => (ρ o).vl) m := by
    simp only [evalV, sliceV, Option.isNone_map, Option.isSome_map]; rfl
  unfold chk OB
  rw [e]
  cases sliceV (tdOf P t).k (ρ x).vl (lo.map fun o => (ρ o).vl) (hi.map fun o => (ρ o).vl) (mx.map fun o => (ρ o).vl) m <;> simp
def joinTo (n : Nat) (f x : Kn) : Kn := (joinK f x).take n ++ f.drop n
section
variable {f x : Kn} {n : Nat}
theorem joinTo_len (h : f.length = x.length) (hn : n ≤ f.length) : (joinTo n f x).length = f.length := by
  unfold joinTo
  rw [List.length_append, List.length_take, List.length_drop, joinK_len h]; omega
theorem joinTo_all (h : f.length = x.length) : joinTo f.length f x = joinK f x := by
  unfold joinTo
  rw [List.drop_length, List.append_nil, List.take_of_length_le (by rw [joinK_len h]; omega)]
theorem joinTo_get (h : f.length = x.length) (hn : n < f.length) : (joinTo n f x)[n]! = f[n]! := by
  rw [get!_eq (by rw [joinTo_len h (by omega)]; exact hn), get!_eq hn]
  unfold joinTo
  rw [List.getElem_append_right (by rw [List.length_take]; omega)]
  simp only [List.length_take, joinK_len h, List.getElem_drop]
  congr 1; omega
theorem joinTo_succ (h : f.length = x.length) (hn : n < f.length) : joinTo (n + 1) f x = (joinTo n f x).set n (min f[n]!.1 x[n]!.1, max f[n]!.2 x[n]!.2) := by
  have hj : n < (joinK f x).length := by rw [joinK_len h]; omega
  unfold joinTo
  rw [List.set_append_right _ _ (by rw [List.length_take]; omega), List.length_take, Nat.min_eq_left (by omega), Nat.sub_self]
  rw [List.drop_eq_getElem_cons hn, List.set_cons_zero, List.take_succ_eq_append_getElem hj, List.append_assoc]
  congr 1
  have hz : (joinK f x)[n]'hj = (min (f[n]).1 (x[n]'(by omega)).1, max (f[n]).2 (x[n]'(by omega)).2) := List.getElem_zipWith
  rw [hz, get!_eq hn, get!_eq (by omega)]
  rfl
theorem joinK_self : joinK x x = x := by
  unfold joinK
  rw [List.zipWith_self]
  conv => rhs; rw [← List.map_id x]
  refine List.map_congr_left fun p _ => ?_
  rw [Int.min_self, Int.max_self]; rfl
end
theorem KB.join {f x : Kn} {n : Nat} (hf : KB f n) (hx : KB x n) : KB (joinK f x) n := by
  have hl : f.length = x.length := hf.len.trans hx.len.symm
  refine ⟨(joinK_len hl).trans hx.len, hf.le, fun p hp => ?_⟩
  obtain ⟨i, hi, rfl⟩ := List.getElem_of_mem hp
  rw [joinK_len hl] at hi
  have a1 := hf.ok _ (List.getElem_mem (show i < f.length by omega))
  have a2 := hx.ok _ (List.getElem_mem hi)
  have hz : (joinK f x)[i]'(by rw [joinK_len hl]; exact hi) = (min (f[i]'(by omega)).1 (x[i]).1, max (f[i]'(by omega)).2 (x[i]).2) := List.getElem_zipWith
  rw [hz]
  simp only
  omega
def allV (ws : List (List (List Rule))) (k : Kn) (rs : List Rule) : Vl := if (refAll ws k rs).2 = true then .tup [.lst 2 ((refAll ws k rs).1.map encS) false, .bool true] else .tup [.nils, .bool false]
def stepA (ws : List (List (List Rule))) (k : Kn) (rs : List Rule) (st : Kn × Bool) (alt : List Rule) : Kn × Bool :=
  if (refAll ws k (rs ++ alt)).2 = false then st else if st.2 = false then refAll ws k (rs ++ alt) else (joinK st.1 (refAll ws k (rs ++ alt)).1, true)
theorem refAll_cons {w : List (List Rule)} {ws : List (List (List Rule))} {k : Kn} {rs : List Rule} (h : (nar k rs).2 = true) : refAll (w :: ws) k rs = w.foldl (stepA ws (nar k rs).1 rs) ([], false) := by
  rw [refAll, if_neg (by rw [h]; decide)]; rfl
theorem refAll_KB {m : Nat} {ws : List (List (List Rule))} {k : Kn} {rs : List Rule} (hk : KB k m) (hr : ∀ x ∈ rs, RBm m x) (hw : ∀ w ∈ ws, ∀ alt ∈ w, ∀ x ∈ alt, RBm m x) (h : (refAll ws k rs).2 = true) : KB (refAll ws k rs).1 m := by
  have := refAll_hull hk hr hw
  exact ⟨this.len h, hk.le, this.ok h⟩
section
variable {L : Kn} {lc : List (Nat × Vl)} {nx j : Nat} {hp : Nat → Ob}
theorem ixSg {k eb : Nat} {ez : Vl} {i : Int} (hn : L.length = k) (h0 : 0 ≤ i) (hi : i < k) : indexAddrV (.slice 2 eb ez) (.v (.own j k)) (.int .i64 i) { lc := lc, hp := upd hp j (.arr 2 (L.map encS)), nx := nx } = some (.v (.ep j k i.toNat 0), { lc := lc, hp := upd hp j (.arr 2 (L.map encS)), nx := nx }) :=
  indexAddr_own (xs := L.map encS) (upd_same hp j (.arr 2 (L.map encS))) (by rw [List.length_map]; exact hn) ⟨h0, hi⟩ (by decide)
theorem rdSg {k i off sz : Nat} {ag : Bool} (hn : L.length = k) (hj : i < k) : Mem.read { lc := lc, hp := upd hp j (.arr 2 (L.map encS)), nx := nx } ag sz (.v (.ep j k i off)) = sub ag sz off (encS L[i]!) := by
  have hl : (L.map encS).length = k := by rw [List.length_map]; exact hn
  simp only [Mem.read, upd_same, hl, if_true]
  rw [List.getElem?_eq_getElem (by rw [hl]; exact hj), List.getElem_map, get!_eq (by omega)]
  rfl
theorem wrSg {k i off : Nat} {v : Vl} (hn : L.length = k) (hj : i < k) : Mem.write { lc := lc, hp := upd hp j (.arr 2 (L.map encS)), nx := nx } v (.v (.ep j k i off)) = (put off v (encS L[i]!)).map fun c => { lc := lc, hp := upd hp j (.arr 2 ((L.map encS).set i c)), nx := nx } := by
  have hl : (L.map encS).length = k := by rw [List.length_map]; exact hn
  simp only [Mem.write, upd_same, hl, if_true, upd_upd]
  rw [List.getElem?_eq_getElem (by rw [hl]; exact hj), List.getElem_map, get!_eq (by omega)]
  rfl
end
theorem wc92 {k : Kn} {rs : List Rule} {n : Nat} (hk : KB k n) (hm : 0 < n) (hrl : rs.length ≤ 1000000) (hr : ∀ x ∈ rs, RBm n x ∧ x.a ≠ x.b) {o1 o2 : Option Bool} {m : Mem} {K : Vl → Mem → Prop} : WC Try.prog (AA b) (.fn (.func 92) [] []) [.v (SL 2 (k.map encS) o1), .v (SL 3 (rs.map encR) o2)] m K = K (tightV k rs) m := by
  have hc : closedL [SL 2 (k.map encS) o1, SL 3 (rs.map encR) o2] = true := by
    show ((SL 2 (k.map encS) o1).closed && ((SL 3 (rs.map encR) o2).closed && true)) = true
    rw [closed_SL (closedL_map (fun x => rfl) k), closed_SL (closedL_map (fun x => rfl) rs)]; rfl
  have ha := tight_to (b := b) hk hm hrl hr (o1 := o1) (o2 := o2)
  by_cases h : (nar k rs).2 = true
  · refine WC_pure (by simp only [mkAnn, K92]) (rfAs (xs := [SL 2 (k.map encS) o1, SL 3 (rs.map encR) o2]) hc) ?_ ?_ ha
    · unfold tightV; rw [if_pos h]; rfl
    · unfold tightV; rw [if_pos h]
      show ((Vl.lst 2 ((nar k rs).1.map encS) false).closed && (true && true)) = true
      rw [show (Vl.lst 2 ((nar k rs).1.map encS) false).closed = true from closed_SL (o := some false) (closedL_map (fun x => rfl) _)]; rfl
  · exact WC_flat (by simp only [mkAnn, K92]) (rfAs (xs := [SL 2 (k.map encS) o1, SL 3 (rs.map encR) o2]) hc) ha (by unfold tightV; rw [if_neg h]; rfl)
theorem ixA {xs : List Vl} {x : Bool} {w : Vl} {m : Mem} : indexAddrV (.slice 1 24 .nils) (.v (.lst 1 (w :: xs) x)) (.int .i64 0) m = some (.v (.fp w 0), m) := by
  have := indexAddr_SL (e := 1) (xs := w :: xs) (o := some x) (eb := 24) (ez := .nils) (k := .i64) (i := 0) (m := m) ⟨by omega, by simp⟩ (by decide)
  exact this
theorem apA {k n : Nat} {gs ys : List Vl} {o : Bool} {m : Mem} (h0 : m.hp k = .arr 3 gs) (hn : gs.length = n) (hs : n + ys.length ≤ 1000000) : isAppend Try.prog 112 112 (.own k n) (.lst 3 ys o) m = some (.own k (n + ys.length), { m with hp := upd m.hp k (.arr 3 (gs ++ ys)) }) := by
  have := append_own (td := tdOf Try.prog 112) (td1 := tdOf Try.prog 112) (m := m) (ys := ys) (b := o) (by rw [td112]) (by rw [td112]) h0 hn (grow_ok rfl rfl (by decide) (by decide) (by omega))
  exact this
theorem apE {e t : Nat} {xs : List Vl} {o : Option Bool} {m : Mem} {eb : Nat} {z : Vl} (htd : (tdOf Try.prog t).k = .slice e eb z) (hz : z.undef? = false) (hs : z.size = e) (he : 0 < e) (hb : 0 < eb) (hk : xs ≠ []) (hl : xs.length * eb ≤ 140737488355328) : isAppend Try.prog t t (.lst e [] true) (SL e xs o) m = some (.own m.nx xs.length, { m with hp := upd m.hp m.nx (.arr e xs), nx := m.nx + 1 }) := by
  obtain ⟨x, hx⟩ : ∃ x, SL e xs o = .lst e xs x := by
    cases o with
    | none => exact ⟨false, by cases xs <;> first | exact absurd rfl hk | rfl⟩
    | some x => exact ⟨x, rfl⟩
  rw [hx]
  unfold isAppend appendV
  rw [htd]
  simp only [Mem.elems, if_true, Option.bind_some, List.length_nil, Nat.zero_add]
  have hg : okGrow eb e z xs.length = true := grow_ok hz hs he hb hl
  rw [hg]
  have he' : (xs.isEmpty) = false := by cases xs <;> simp_all
  simp [he']
theorem rfS {hp : Nat → Ob} {l : Kn} {x : Bool} : reify hp (.lst 2 (l.map encS) x) = some (.lst 2 (l.map encS) x, []) := rfC (closedL_map (fun _ => rfl) l)
section
variable {ws : List (List (List Rule))} {wos : List (List (List Rule) × Bool)} {k1 : Kn} {rs' : List Rule} {m : Mem} {K : Vl → Mem → Prop} {id N : Nat}
theorem rfAs75 (h0 : m.hp id = .arr 3 (rs'.map encR)) (hn : rs'.length = N) : reifyAs m [.v (.lst 2 (k1.map encS) false), .v (.own id N), .v (.lst 1 (wos.map encWO) false)] = some ([SL 2 (k1.map encS) (some false), SL 3 (rs'.map encR) (some false), SL 1 (wos.map encWO) (some false)], [id], false) := by
  have h1 : reify m.hp (.own id N) = some (.lst 3 (rs'.map encR) false, [id]) := reify_flat (.inl h0) hn fun _ => rfl
  have h2 : reify m.hp (.lst 1 (wos.map encWO) false) = some (.lst 1 (wos.map encWO) false, []) := rfC (closedL_map clWO wos)
  rw [reifyAs_v, rfS, Option.bind_some, reifyAs_v, h1, Option.bind_some, reifyAs_v, h2]
  rfl
theorem wc75t (ha : Ans Try.prog (AA b) 75 [SL 2 (k1.map encS) (some false), SL 3 (rs'.map encR) (some false), SL 1 (wos.map encWO) (some false)] (fun v => v = allV ws k1 rs')) (ht : (refAll ws k1 rs').2 = true) (h0 : m.hp id = .arr 3 (rs'.map encR)) (hn : rs'.length = N) :
    WC Try.prog (AA b) (.fn (.func 75) [] []) [.v (.lst 2 (k1.map encS) false), .v (.own id N), .v (.lst 1 (wos.map encWO) false)] m K = K (.tup [.lst 2 ((refAll ws k1 rs').1.map encS) false, .bool true]) { m with hp := upd m.hp id (.fro 3 (rs'.map encR)) } := by
  have e : allV ws k1 rs' = .tup [.lst 2 ((refAll ws k1 rs').1.map encS) false, .bool true] := if_pos ht
  rw [e] at ha
  rw [WC_pure (by simp only [mkAnn, K75]) (rfAs75 h0 hn) rfl (by
      show ((Vl.lst 2 ((refAll ws k1 rs').1.map encS) false).closed && (true && true)) = true
      rw [show (Vl.lst 2 ((refAll ws k1 rs').1.map encS) false).closed = true from closed_SL (o := some false) (closedL_map (fun x => rfl) _)]; rfl) ha]
  rw [killHp_one, h0]; rfl
theorem wc75f (ha : Ans Try.prog (AA b) 75 [SL 2 (k1.map encS) (some false), SL 3 (rs'.map encR) (some false), SL 1 (wos.map encWO) (some false)] (fun v => v = allV ws k1 rs')) (ht : (refAll ws k1 rs').2 = false) (h0 : m.hp id = .arr 3 (rs'.map encR)) (hn : rs'.length = N) :
    WC Try.prog (AA b) (.fn (.func 75) [] []) [.v (.lst 2 (k1.map encS) false), .v (.own id N), .v (.lst 1 (wos.map encWO) false)] m K = K (.tup [.nils, .bool false]) m := by
  have e : allV ws k1 rs' = .tup [.nils, .bool false] := if_neg (by rw [ht]; decide)
  rw [e] at ha
  exact WC_flat (by simp only [mkAnn, K75]) (rfAs75 h0 hn) ha rfl
end
set_option maxRecDepth 10000 in
set_option maxHeartbeats 4000000 in
theorem all_to {n : Nat} (hm : 0 < n) : ∀ (wos : List (List (List Rule) × Bool)) {k : Kn} {rs : List Rule} {o1 o2 o3 : Option Bool}, KB k n → rs ≠ [] → rs.length + 10 * wos.length ≤ 1000000 → (∀ x ∈ rs, RBm n x ∧ x.a ≠ x.b) → wos.length ≤ 10000 →
    (∀ w ∈ wos, w.1.length ≤ 10 ∧ ∀ alt ∈ w.1, alt.length ≤ 10 ∧ ∀ x ∈ alt, RBm n x ∧ x.a ≠ x.b) →
    Ans Try.prog (AA b) 75 [SL 2 (k.map encS) o1, SL 3 (rs.map encR) o2, SL 1 (wos.map encWO) o3] (fun v => v = allV (wos.map Prod.fst) k rs)
  | [], k, rs, o1, o2, o3, hk, hr0, hrl, hr, hwl, hw => by
    refine Ans_of Try.func75 rfl rfl ?_
    have hv : allV (([] : List (List (List Rule) × Bool)).map Prod.fst) k rs = tightV k rs := rfl
    have hrl : rs.length ≤ 1000000 := by omega
    have h92 := fun m : Mem => fun K => wc92 (b := b) hk hm hrl hr (o1 := o1) (o2 := o2) (m := m) (K := K)
    rw [hv]
    by_cases h : (nar k rs).2 = true
    · have e : tightV k rs = .tup [.lst 2 ((nar k rs).1.map encS) false, .bool true] := if_pos h
      rw [e] at h92 ⊢
      simp +contextual (maxSteps := 1000000) (disch := first | omega | (with_reducible first | refine krN ?_ | refine krS ?_ | refine krP ?_ | refine krG ?_); kernel_rfl | refine kr ?_; simp only [go_sem, reduceCtorEq, h92, List.map_nil, List.length_nil, rfS]; done | fail) only [go_sem, seval, -List.reduceReplicate, h92, List.map_nil, List.length_nil, rfS]
    · have e : tightV k rs = .tup [.nils, .bool false] := if_neg h
      rw [e] at h92 ⊢
      simp +contextual (maxSteps := 1000000) (disch := first | omega | (with_reducible first | refine krN ?_ | refine krS ?_ | refine krP ?_ | refine krG ?_); kernel_rfl | refine kr ?_; simp only [go_sem, reduceCtorEq, h92]; done | fail) only [go_sem, seval, -List.reduceReplicate, h92]
  | w :: wos, k, rs, o1, o2, o3, hk, hr0, hrl, hr, hwl, hw => by
    have hrl1 : rs.length ≤ 1000000 := by omega
    have hwl1 : wos.length + 1 ≤ 10000 := hwl
    have hrl2 : rs.length + 10 * (wos.length + 1) ≤ 1000000 := hrl
    refine Ans_of Try.func75 rfl rfl ?_
    have h92 := fun m : Mem => fun K => wc92 (b := b) hk hm hrl1 hr (o1 := o1) (o2 := o2) (m := m) (K := K)
    obtain ⟨x, hx⟩ : ∃ x, SL 1 ((w :: wos).map encWO) o3 = .lst 1 (encWO w :: wos.map encWO) x := by
      cases o3 with
      | none => exact ⟨false, rfl⟩
      | some x => exact ⟨x, rfl⟩
    rw [hx]
    by_cases h : (nar k rs).2 = true
    case neg =>
      have e : tightV k rs = .tup [.nils, .bool false] := if_neg h
      have hf : (nar k rs).2 = false := by cases hq : (nar k rs).2 with | false => rfl | true => exact absurd hq h
      rw [e] at h92
      have hv : allV ((w :: wos).map Prod.fst) k rs = .tup [.nils, .bool false] := by
        unfold allV
        rw [List.map_cons, refAll, if_pos hf]; rfl
      rw [hv]
      simp +contextual (maxSteps := 1000000) (disch := first | omega | (with_reducible first | refine krN ?_ | refine krS ?_ | refine krP ?_ | refine krG ?_); kernel_rfl | refine kr ?_; simp only [go_sem, reduceCtorEq, h92]; done | fail) only [go_sem, seval, -List.reduceReplicate, h92]
    have e : tightV k rs = .tup [.lst 2 ((nar k rs).1.map encS) false, .bool true] := if_pos h
    rw [e] at h92
    obtain ⟨hw10, hwa⟩ := hw w List.mem_cons_self
    have hws : ∀ w ∈ wos, w.1.length ≤ 10 ∧ ∀ alt ∈ w.1, alt.length ≤ 10 ∧ ∀ x ∈ alt, RBm n x ∧ x.a ≠ x.b := fun w' h' => hw w' (List.mem_cons_of_mem _ h')
    have hwm : ∀ w ∈ wos.map Prod.fst, ∀ alt ∈ w, ∀ x ∈ alt, RBm n x := fun w' h' alt ha x hx => by
      obtain ⟨p, hp, rfl⟩ := List.mem_map.1 h'
      exact (((hws p hp).2 alt ha).2 x hx).1
    have hn0 : ¬ (((wos.length + 1 : Nat) : Int) = 0) := by omega
    have hra : refAll ((w :: wos).map Prod.fst) k rs = w.1.foldl (stepA (wos.map Prod.fst) (nar k rs).1 rs) ([], false) := by rw [List.map_cons, refAll_cons h]
    have hall : ∀ alt ∈ w.1, Ans Try.prog (AA b) 75 [SL 2 ((nar k rs).1.map encS) (some false), SL 3 ((rs ++ alt).map encR) (some false), SL 1 (wos.map encWO) (some false)] (fun v => v = allV (wos.map Prod.fst) (nar k rs).1 (rs ++ alt)) := fun alt ha => by
      have hal := hwa alt ha
      exact all_to hm wos (hk.nar fun x hx => (hr x hx).1).1 (by intro h'; exact hr0 (List.append_eq_nil_iff.1 h').1) (by rw [List.length_append]; omega) (fun x hx => by
        rcases List.mem_append.1 hx with hx | hx
        · exact hr x hx
        · exact hal.2 x hx) (by omega) hws
    have hkk : ∀ alt ∈ w.1, (refAll (wos.map Prod.fst) (nar k rs).1 (rs ++ alt)).2 = true → KB (refAll (wos.map Prod.fst) (nar k rs).1 (rs ++ alt)).1 n := fun alt ha ht =>
      refAll_KB (hk.nar fun x hx => (hr x hx).1).1 (fun x hx => by
        rcases List.mem_append.1 hx with hx | hx
        · exact (hr x hx).1
        · exact ((hwa alt ha).2 x hx).1) hwm ht
    have hal10 : ∀ i, i < w.1.length → (w.1[i]!).length ≤ 10 := fun i hi => (hwa _ (get!_mem hi)).1
    simp +contextual (maxSteps := 1000000) (disch := first | omega | (with_reducible first | refine krN ?_ | refine krS ?_ | refine krP ?_ | refine krG ?_); kernel_rfl | refine kr ?_; simp only [go_sem, reduceCtorEq, h92, List.length_cons, List.length_map, hn0]; done | fail) only [go_sem, seval, -List.reduceReplicate, h92, List.length_cons, List.length_map, hn0]
    have hV : allV (w.1 :: wos.map Prod.fst) k rs = if (w.1.foldl (stepA (wos.map Prod.fst) (nar k rs).1 rs) ([], false)).2 = true then .tup [.lst 2 ((w.1.foldl (stepA (wos.map Prod.fst) (nar k rs).1 rs) ([], false)).1.map encS) false, .bool true] else .tup [.nils, .bool false] := by
      have : allV ((w :: wos).map Prod.fst) k rs = _ := rfl
      unfold allV at this ⊢
      rw [List.map_cons] at hra
      rw [hra]
    rw [hV]
    clear hV hra e h92
    have hk1 := (hk.nar fun x hx => (hr x hx).1).1
    generalize (nar k rs).1 = k1 at hall hkk hk1 ⊢
    obtain ⟨ws, hws'⟩ : ∃ ws, ws = wos.map Prod.fst := ⟨_, rfl⟩
    rw [← hws'] at hall hkk ⊢
    clear hws' hwm hws hw
    refine wp_loop_to w.1.length (fun i st => ∃ (hp : Nat → Ob) (nx : Nat) (out : Vl) (ex : List (Nat × Vl)), (((((w.1.take i).foldl (stepA ws k1 rs) ([], false))).2 = false ∧ out = .nils) ∨ ((((w.1.take i).foldl (stepA ws k1 rs) ([], false))).2 = true ∧ KB (((w.1.take i).foldl (stepA ws k1 rs) ([], false))).1 n ∧ ∃ j, j < nx ∧ out = .own j n ∧ hp j = .arr 2 ((((w.1.take i).foldl (stepA ws k1 rs) ([], false))).1.map encS))) ∧ st = ({ sl := (0, .lst 2 (k1.map encS) false) :: (1, SL 3 (rs.map encR) o2) :: (2, .lst 1 (encWO w :: wos.map encWO) x) :: (9, out) :: (10, I i) :: ex, hp := hp, nx := nx } : FS)) ?_ 0 (Nat.zero_le _) ⟨_, _, _, [], .inl ⟨rfl, rfl⟩, rfl⟩
    rintro i st hi ⟨hp, nx, out, ex, hI, rfl⟩
    by_cases hc : i < w.1.length
    case neg =>
      obtain rfl : i = w.1.length := by omega
      rw [List.take_length] at hI
      rcases hI with ⟨h1, rfl⟩ | ⟨h1, h2, j, h3, rfl, h4⟩
      · rw [if_neg (by rw [h1]; decide)]
        simp +contextual (maxSteps := 1000000) (disch := first | omega | (with_reducible first | refine krN ?_ | refine krS ?_ | refine krP ?_ | refine krG ?_); kernel_rfl | refine kr ?_; simp only [go_sem, reduceCtorEq, Int.lt_irrefl, ixA, encWO]; done | fail) only [go_sem, seval, -List.reduceReplicate, Int.lt_irrefl, ixA, encWO]
      · rw [if_pos h1]
        have hrf : reify hp (.own j n) = some (.lst 2 ((w.1.foldl (stepA ws k1 rs) ([], false)).1.map encS) false, [j]) := reify_flat (.inl h4) h2.len fun _ => rfl
        simp +contextual (maxSteps := 1000000) (disch := first | omega | (with_reducible first | refine krN ?_ | refine krS ?_ | refine krP ?_ | refine krG ?_); kernel_rfl | refine kr ?_; simp only [go_sem, reduceCtorEq, Int.lt_irrefl, ixA, encWO, nilV_own, hrf]; done | fail) only [go_sem, seval, -List.reduceReplicate, Int.lt_irrefl, ixA, encWO, nilV_own, hrf]
    have hF : (w.1.take (i + 1)).foldl (stepA ws k1 rs) ([], false) = stepA ws k1 rs (((w.1.take i).foldl (stepA ws k1 rs) ([], false))) w.1[i]! := by rw [take_snoc hc, List.foldl_append]; rfl
    rw [hF]
    generalize ((w.1.take i).foldl (stepA ws k1 rs) ([], false)) = S at hI hF ⊢
    clear hF
    have hal := hal10 i hc
    have ha := hall _ (get!_mem hc)
    have hkb := hkk _ (get!_mem hc)
    generalize hAlt : w.1[i]! = alt at hal ha hkb ⊢
    have h1 : ∀ lc, isAppend Try.prog 112 112 (.lst 3 [] true) (SL 3 (rs.map encR) o2) ⟨lc, hp, nx⟩ = some (.own nx rs.length, ⟨lc, upd hp nx (.arr 3 (rs.map encR)), nx + 1⟩) := fun lc => by
      rw [apE (e := 3) (eb := 24) (z := .agg [I 0, I 0, I 0]) (by rw [td112]) rfl rfl (by decide) (by decide) (by simpa using hr0) (by rw [List.length_map]; omega), List.length_map]
    have h2 : ∀ lc, isAppend Try.prog 112 112 (.own nx rs.length) (.lst 3 (alt.map encR) true) ⟨lc, upd hp nx (.arr 3 (rs.map encR)), nx + 1⟩ = some (.own nx (rs ++ alt).length, ⟨lc, upd hp nx (.arr 3 ((rs ++ alt).map encR)), nx + 1⟩) := fun lc => by
      rw [apA (upd_same _ _ _) (List.length_map encR) (by rw [List.length_map]; omega), List.length_map, List.length_append, List.map_append, upd_upd]
    have hsl : ∀ m, sliceV (.slice 1 24 .nils) (.lst 1 (.lst 1 (w.1.map encAlt) w.2 :: wos.map encWO) x) (some (.int .i64 1)) none none m = some (.v (.lst 1 (wos.map encWO) false), m) := fun m => by
      rw [slice_from (by decide) (by decide) (by rw [List.length_cons]; omega)]; rfl
    by_cases ht : (refAll ws k1 (rs ++ alt)).2 = true
    case neg =>
      have hf : (refAll ws k1 (rs ++ alt)).2 = false := by cases hq : (refAll ws k1 (rs ++ alt)).2 with | false => rfl | true => exact absurd hq ht
      have h3 := fun lc => fun K => wc75f (K := K) (m := ⟨lc, upd hp nx (.arr 3 ((rs ++ alt).map encR)), nx + 1⟩) ha hf (upd_same _ _ _) rfl
      have hst : stepA ws k1 rs S alt = S := if_pos hf
      rw [hst]
      rcases hI with ⟨s2, rfl⟩ | ⟨s2, hS, j, hj, rfl, h0⟩
      · simp +contextual (maxSteps := 1000000) (disch := first | omega | (with_reducible first | refine krN ?_ | refine krS ?_ | refine krP ?_ | refine krG ?_); kernel_rfl | refine kr ?_; simp only [go_sem, reduceCtorEq, Int.ofNat_lt, hc, ixA, encWO, ix_lst, hAlt, encAlt, h1, h2, hsl, chk_slice, h3]; done | fail) only [go_sem, seval, -List.reduceReplicate, Int.ofNat_lt, hc, ixA, encWO, ix_lst, hAlt, encAlt, h1, h2, hsl, chk_slice, h3]
        exact ⟨_, _, _, _, .inl ⟨s2, rfl⟩, rfl⟩
      · simp +contextual (maxSteps := 1000000) (disch := first | omega | (with_reducible first | refine krN ?_ | refine krS ?_ | refine krP ?_ | refine krG ?_); kernel_rfl | refine kr ?_; simp only [go_sem, reduceCtorEq, Int.ofNat_lt, hc, ixA, encWO, ix_lst, hAlt, encAlt, h1, h2, hsl, chk_slice, h3]; done | fail) only [go_sem, seval, -List.reduceReplicate, Int.ofNat_lt, hc, ixA, encWO, ix_lst, hAlt, encAlt, h1, h2, hsl, chk_slice, h3]
        exact ⟨_, _, _, _, .inr ⟨s2, hS, j, by omega, rfl, by rw [upd_ne _ _ (by omega)]; exact h0⟩, rfl⟩
    have h3 := fun lc => fun K => wc75t (K := K) (m := ⟨lc, upd hp nx (.arr 3 ((rs ++ alt).map encR)), nx + 1⟩) ha ht (upd_same _ _ _) rfl
    simp only [upd_upd] at h3
    have hX := hkb ht
    have hn20 := hk.le
    rcases hI with ⟨s2, rfl⟩ | ⟨s2, hS, j, hj, rfl, h0⟩
    · have hst : stepA ws k1 rs S alt = refAll ws k1 (rs ++ alt) := by unfold stepA; rw [if_neg (by rw [ht]; decide), if_pos s2]
      rw [hst]
      generalize refAll ws k1 (rs ++ alt) = Y at ht h3 hX ⊢
      obtain ⟨X, hXe⟩ : ∃ X, X = Y.1 := ⟨_, rfl⟩
      rw [← hXe] at h3 hX ⊢
      have h4 : ∀ (lc : List (Nat × Vl)) (hp : Nat → Ob) (nx : Nat), isAppend Try.prog 92 92 (.lst 2 [] true) (.lst 2 (X.map encS) false) ⟨lc, hp, nx⟩ = some (.own nx n, ⟨lc, upd hp nx (.arr 2 (X.map encS)), nx + 1⟩) := fun lc hp nx => by
        have := ap92c (k := X) (o := some false) (m := ⟨lc, hp, nx⟩) (fun e => by have := hX.len; rw [e] at this; simp at this; omega) (by rw [hX.len]; omega)
        rw [hX.len] at this
        exact this
      simp +contextual (maxSteps := 1000000) (disch := first | omega | (with_reducible first | refine krN ?_ | refine krS ?_ | refine krP ?_ | refine krG ?_); kernel_rfl | refine kr ?_; simp only [go_sem, reduceCtorEq, Int.ofNat_lt, hc, ixA, encWO, ix_lst, hAlt, encAlt, h1, h2, hsl, chk_slice, h3, h4]; done | fail) only [go_sem, seval, -List.reduceReplicate, Int.ofNat_lt, hc, ixA, encWO, ix_lst, hAlt, encAlt, h1, h2, hsl, chk_slice, h3, h4]
      generalize upd hp nx (Ob.fro 3 _) = hpG
      obtain ⟨jz, hjz⟩ : ∃ jz, jz = nx + 1 := ⟨_, rfl⟩
      obtain ⟨nz, hnz⟩ : ∃ nz, nz = jz + 1 := ⟨_, rfl⟩
      rw [← hjz, ← hnz]
      have KF := hX
      have fl : X.length = X.length := KF.len.trans hX.len.symm
      refine wp_loop_to n (fun q st => ∃ (ex : List (Nat × Vl)), st = ({ sl := (0, .lst 2 (k1.map encS) false) :: (1, SL 3 (rs.map encR) o2) :: (2, .lst 1 (encWO w :: wos.map encWO) x) :: (9, .own jz n) :: (10, I i) :: (11, .lst 2 (X.map encS) false) :: (13, I q) :: ex, hp := upd hpG jz (.arr 2 ((joinTo q X X).map encS)), nx := nz } : FS)) ?_ 0 (Nat.zero_le _) ⟨[], rfl⟩
      rintro q st hq ⟨ex, rfl⟩
      by_cases hcq : q < n
      · have hjl : (joinTo q X X).length = n := by rw [joinTo_len fl (by rw [KF.len]; omega)]; exact KF.len
        have hjg := joinTo_get (n := q) fl (by rw [KF.len]; exact hcq)
        have hqX : q < X.length := by rw [hX.len]; exact hcq
        have hjs := joinTo_succ (n := q) fl (by rw [KF.len]; exact hcq)
        simp +contextual (maxSteps := 1000000) (disch := first | omega | (with_reducible first | refine krN ?_ | refine krS ?_ | refine krP ?_ | refine krG ?_); kernel_rfl | refine kr ?_; simp only [go_sem, reduceCtorEq, Int.ofNat_lt, hcq, ixSg, rdSg, wrSg, hjl, ix_lst, hqX, hjg, encS, setS]; done | fail) only [go_sem, seval, -List.reduceReplicate, Int.ofNat_lt, hcq, ixSg, rdSg, wrSg, hjl, ix_lst, hqX, hjg, encS, setS]
        exact ⟨_, by rw [hjs]⟩
      · obtain rfl : q = n := by omega
        have hja : joinTo q X X = joinK X X := by rw [← joinTo_all fl, KF.len]
        rw [hja]
        simp +contextual (maxSteps := 1000000) (disch := first | omega | (with_reducible first | refine krN ?_ | refine krS ?_ | refine krP ?_ | refine krG ?_); kernel_rfl | refine kr ?_; simp only [go_sem, reduceCtorEq, Int.lt_irrefl]; done | fail) only [go_sem, seval, -List.reduceReplicate, Int.lt_irrefl]
        exact ⟨_, _, _, _, .inr ⟨ht, hX, jz, by omega, rfl, by rw [upd_same, joinK_self]⟩, rfl⟩
    · have hst : stepA ws k1 rs S alt = (joinK S.1 (refAll ws k1 (rs ++ alt)).1, true) := by unfold stepA; rw [if_neg (by rw [ht]; decide), if_neg (by rw [s2]; decide)]
      rw [hst]
      generalize refAll ws k1 (rs ++ alt) = Y at ht h3 hX ⊢
      obtain ⟨X, hXe⟩ : ∃ X, X = Y.1 := ⟨_, rfl⟩
      rw [← hXe] at h3 hX ⊢
      simp +contextual (maxSteps := 1000000) (disch := first | omega | (with_reducible first | refine krN ?_ | refine krS ?_ | refine krP ?_ | refine krG ?_); kernel_rfl | refine kr ?_; simp only [go_sem, reduceCtorEq, Int.ofNat_lt, hc, ixA, encWO, ix_lst, hAlt, encAlt, h1, h2, hsl, chk_slice, h3, nilV_own]; done | fail) only [go_sem, seval, -List.reduceReplicate, Int.ofNat_lt, hc, ixA, encWO, ix_lst, hAlt, encAlt, h1, h2, hsl, chk_slice, h3, nilV_own]
      have hG : (upd hp nx (Ob.fro 3 ((rs ++ alt).map encR))) j = .arr 2 (S.1.map encS) := by rw [upd_ne _ _ (by omega)]; exact h0
      generalize upd hp nx (Ob.fro 3 _) = hpG at hG ⊢
      rw [← upd_self hG]
      obtain ⟨nz, hnz⟩ : ∃ nz, nz = nx + 1 := ⟨_, rfl⟩
      rw [← hnz]
      obtain ⟨f, hfe⟩ : ∃ f, f = S.1 := ⟨_, rfl⟩
      rw [← hfe] at hS ⊢
      have KF := hS
      have fl : f.length = X.length := KF.len.trans hX.len.symm
      refine wp_loop_to n (fun q st => ∃ (ex : List (Nat × Vl)), st = ({ sl := (0, .lst 2 (k1.map encS) false) :: (1, SL 3 (rs.map encR) o2) :: (2, .lst 1 (encWO w :: wos.map encWO) x) :: (9, .own j n) :: (10, I i) :: (11, .lst 2 (X.map encS) false) :: (13, I q) :: ex, hp := upd hpG j (.arr 2 ((joinTo q f X).map encS)), nx := nz } : FS)) ?_ 0 (Nat.zero_le _) ⟨[], rfl⟩
      rintro q st hq ⟨ex, rfl⟩
      by_cases hcq : q < n
      · have hjl : (joinTo q f X).length = n := by rw [joinTo_len fl (by rw [KF.len]; omega)]; exact KF.len
        have hjg := joinTo_get (n := q) fl (by rw [KF.len]; exact hcq)
        have hqX : q < X.length := by rw [hX.len]; exact hcq
        have hjs := joinTo_succ (n := q) fl (by rw [KF.len]; exact hcq)
        simp +contextual (maxSteps := 1000000) (disch := first | omega | (with_reducible first | refine krN ?_ | refine krS ?_ | refine krP ?_ | refine krG ?_); kernel_rfl | refine kr ?_; simp only [go_sem, reduceCtorEq, Int.ofNat_lt, hcq, ixSg, rdSg, wrSg, hjl, ix_lst, hqX, hjg, encS, setS]; done | fail) only [go_sem, seval, -List.reduceReplicate, Int.ofNat_lt, hcq, ixSg, rdSg, wrSg, hjl, ix_lst, hqX, hjg, encS, setS]
        exact ⟨_, by rw [hjs]⟩
      · obtain rfl : q = n := by omega
        have hja : joinTo q f X = joinK f X := by rw [← joinTo_all fl, KF.len]
        rw [hja]
        simp +contextual (maxSteps := 1000000) (disch := first | omega | (with_reducible first | refine krN ?_ | refine krS ?_ | refine krP ?_ | refine krG ?_); kernel_rfl | refine kr ?_; simp only [go_sem, reduceCtorEq, Int.lt_irrefl]; done | fail) only [go_sem, seval, -List.reduceReplicate, Int.lt_irrefl]
        exact ⟨_, _, _, _, .inr ⟨hS.join hX, j, by omega, rfl, upd_same _ _ _⟩, rfl⟩
end Go.Proofs
