/- What functions of the given program do in the ideal machine (J35), and the plain laws of what they answer; the conditions stand in each theorem. -/
import Derived.Test.YtoamjmokonnglaaJn
set_option linter.all false
set_option linter.unusedSectionVars false
set_option linter.unusedSimpArgs false
set_option linter.unusedVariables false
namespace Go.Proofs
open Go Go.Idl Go.Dt
set_option linter.unusedSimpArgs false
variable {b : Nat}
def spL (s : Int × Int) (lo hi : Int) : Int := fromR s lo hi
def sp1 (s : Int × Int) (lo hi : Int) : Int × Int := fromS s lo hi
def spV (s : Int × Int) (lo hi : Int) : List Int := [spL s lo hi, min hi (w64 (spL s lo hi + upR (sp1 s lo hi) 3)), min hi (w64 (spL s lo hi + upR (upS (sp1 s lo hi) 3) 6)), fromR (upS (upS (sp1 s lo hi) 3) 6) (spL s lo hi) hi]
def sp4 (s : Int × Int) (lo hi : Int) : Int × Int := fromS (upS (upS (sp1 s lo hi) 3) 6) (spL s lo hi) hi
def spH (s : Int × Int) (lo hi : Int) : Int := anyR (sp4 s lo hi) (spV s lo hi)
def spE (s : Int × Int) (lo hi : Int) : Int × Int := anyS (sp4 s lo hi) (spV s lo hi)
theorem span_x {u nx : Nat} {hp : Nat → Ob} {lo hi : Int} (h : UrnOk u hp) : HAns Try.prog (AA b) 85 [.bp u 0, I lo, I hi] hp nx fun v h' n' => v = Sp (spL (urnAt u hp) lo hi) (spH (urnAt u hp) lo hi) ∧ h' = upd hp u (.box (.agg [U (spE (urnAt u hp) lo hi).1, U (spE (urnAt u hp) lo hi).2])) ∧ n' = nx := by
  refine HAns_of Try.func85 rfl ?_
  simp +contextual (maxSteps := 1000000) (disch := first | omega | (with_reducible first | refine krN ?_ | refine krS ?_ | refine krP ?_ | refine krG ?_); kernel_rfl | refine kr ?_; simp only [go_sem, reduceCtorEq, h]; done | fail) only [go_sem, seval, -List.reduceReplicate, h]
  repeat' (first | exact trivial | rfl | apply And.intro)
theorem sp_b (s : Int × Int) {lo hi : Int} (h0 : -1000 ≤ lo) (h1 : lo ≤ hi) (h2 : hi ≤ 1000) : lo ≤ spL s lo hi ∧ spL s lo hi ≤ spH s lo hi ∧ spH s lo hi ≤ hi := by
  have a0 := fromR_b s (lo := lo) (hi := hi) (by omega) (by omega) (by omega) (by omega)
  have a4 := anyR_mem (sp4 s lo hi) (l := spV s lo hi) (by simp [spV]) (by simp [spV])
  have a1 := upR_b (sp1 s lo hi) (n := 3) (by omega)
  have a2 := upR_b (upS (sp1 s lo hi) 3) (n := 6) (by omega)
  unfold spH
  generalize anyR (sp4 s lo hi) (spV s lo hi) = x at a4
  unfold spV at a4
  simp only [List.mem_cons, List.not_mem_nil, or_false] at a4
  have e : spL s lo hi = fromR s lo hi := rfl
  rw [e] at a4 ⊢
  have a3 := fromR_b (upS (upS (sp1 s lo hi) 3) 6) (lo := fromR s lo hi) (hi := hi) (by omega) (by omega) (by omega) (by omega)
  generalize fromR s lo hi = l at *
  unfold w64 at a4
  rw [wrap_i64 (by omega) (by omega), wrap_i64 (by omega) (by omega)] at a4
  omega
section
variable {m : Mem} {K : Vl → Mem → Prop} {u : Nat}
theorem wc85 {lo hi : Int} (h : UrnOk u m.hp) : WC Try.prog (AA b) (.fn (.func 85) [] []) [.v (.bp u 0), .v (.int .i64 lo), .v (.int .i64 hi)] m K = K (Sp (spL (urnAt u m.hp) lo hi) (spH (urnAt u m.hp) lo hi)) { m with hp := upd m.hp u (.box (.agg [U (spE (urnAt u m.hp) lo hi).1, U (spE (urnAt u m.hp) lo hi).2])) } :=
  WC_heap (by simp only [mkAnn, K85]) rfl (span_x h)
theorem inI_to {l : List Int} (hl : l.length ≤ 1000) {x : Int} {o : Option Bool} : Ans Try.prog (AA b) 104 [SL 1 (l.map I) o, I x] (fun v => v = .bool (decide (x ∈ l))) := by
  refine Ans_of Try.func104 rfl rfl ?_
  simp +contextual (maxSteps := 1000000) (disch := first | omega | (with_reducible first | refine krN ?_ | refine krS ?_ | refine krP ?_ | refine krG ?_); kernel_rfl | refine kr ?_; simp only [go_sem, reduceCtorEq, List.length_map]; done | fail) only [go_sem, seval, -List.reduceReplicate, List.length_map]
  refine wp_loop_to l.length (fun i st => ∃ (ex : List (Nat × Vl)), (∀ j, j < i → l[j]! ≠ x) ∧ st = ({ sl := (0, SL 1 (l.map I) o) :: (1, I x) :: (5, I i) :: ex, hp := noHeap, nx := 0 } : FS)) ?_ 0 (Nat.zero_le _) ⟨_, fun j h => absurd h (Nat.not_lt_zero _), rfl⟩
  rintro i st hi ⟨ex, hno, rfl⟩
  by_cases hc : i < l.length
  · by_cases he : l[i]! = x
    · have hm : x ∈ l := by rw [← he]; exact get!_mem hc
      simp +contextual (maxSteps := 1000000) (disch := first | omega | (with_reducible first | refine krN ?_ | refine krS ?_ | refine krP ?_ | refine krG ?_); kernel_rfl | refine kr ?_; simp only [go_sem, reduceCtorEq, Int.ofNat_lt, hc, ix_map, List.length_map, he]; done | fail) only [go_sem, seval, -List.reduceReplicate, Int.ofNat_lt, hc, ix_map, List.length_map, he]
      rw [decide_eq_true hm]
    · simp +contextual (maxSteps := 1000000) (disch := first | omega | (with_reducible first | refine krN ?_ | refine krS ?_ | refine krP ?_ | refine krG ?_); kernel_rfl | refine kr ?_; simp only [go_sem, reduceCtorEq, Int.ofNat_lt, hc, ix_map, List.length_map, he]; done | fail) only [go_sem, seval, -List.reduceReplicate, Int.ofNat_lt, hc, ix_map, List.length_map, he]
      refine ⟨_, fun j hj => ?_, rfl⟩
      by_cases h : j < i
      · exact hno j h
      · obtain rfl : j = i := by omega
        exact he
  · have hie : i = l.length := by omega
    subst hie
    simp +contextual (maxSteps := 1000000) (disch := first | omega | (with_reducible first | refine krN ?_ | refine krS ?_ | refine krP ?_ | refine krG ?_); kernel_rfl | refine kr ?_; simp only [go_sem, reduceCtorEq, Int.lt_irrefl, List.length_map]; done | fail) only [go_sem, seval, -List.reduceReplicate, Int.lt_irrefl, List.length_map]
    have hm : ¬ x ∈ l := fun h => by
      obtain ⟨j, hj, e⟩ := List.getElem_of_mem h
      exact hno j hj (by rw [get!_eq hj]; exact e)
    rw [decide_eq_false hm]
theorem wc104 {l : List Int} (hl : l.length ≤ 1000) {x : Int} {o : Option Bool} : WC Try.prog (AA b) (.fn (.func 104) [] []) [.v (SL 1 (l.map I) o), .v (.int .i64 x)] m K = K (.bool (decide (x ∈ l))) m :=
  WC_flat (by simp only [mkAnn, K104]) (rfAs (xs := [SL 1 (l.map I) o, I x]) (by simp only [closedL, clIs]; rfl)) (inI_to hl) rfl
def saidV (so al : Int) : Int := if so = al then 1 else if so = 0 then 2 else 3
theorem said_to {so al : Int} : Ans Try.prog (AA b) 48 [I so, I al] (fun v => v = I (saidV so al)) := by
  refine Ans_of Try.func48 rfl rfl ?_
  unfold saidV
  by_cases h1 : so = al
  · simp +contextual (maxSteps := 1000000) (disch := first | omega | (with_reducible first | refine krN ?_ | refine krS ?_ | refine krP ?_ | refine krG ?_); kernel_rfl | refine kr ?_; simp only [go_sem, reduceCtorEq, h1]; done | fail) only [go_sem, seval, -List.reduceReplicate, h1]
  · by_cases h2 : so = 0
    · subst h2
      simp +contextual (maxSteps := 1000000) (disch := first | omega | (with_reducible first | refine krN ?_ | refine krS ?_ | refine krP ?_ | refine krG ?_); kernel_rfl | refine kr ?_; simp only [go_sem, reduceCtorEq, h1]; done | fail) only [go_sem, seval, -List.reduceReplicate, h1]
    · simp +contextual (maxSteps := 1000000) (disch := first | omega | (with_reducible first | refine krN ?_ | refine krS ?_ | refine krP ?_ | refine krG ?_); kernel_rfl | refine kr ?_; simp only [go_sem, reduceCtorEq, h1, h2]; done | fail) only [go_sem, seval, -List.reduceReplicate, h1, h2]
theorem wc48 {so al : Int} : WC Try.prog (AA b) (.fn (.func 48) [] []) [.v (.int .i64 so), .v (.int .i64 al)] m K = K (I (saidV so al)) m := WC_flat (by simp only [mkAnn, K48]) rfl said_to rfl
end
def rightB (n : Nt) (ys fs : List Int) : Bool :=
  if n.kind = 1 then decide (ys[n.stone.toNat]! ∈ n.ys)
  else if n.kind = 2 then decide (n.lo ≤ ys[n.stone.toNat]!) && decide (ys[n.stone.toNat]! ≤ n.hi)
  else if n.kind = 3 then decide (n.lo ≤ ys[n.stone.toNat]! - fs[n.other.toNat]! + 1) && decide (ys[n.stone.toNat]! - fs[n.other.toNat]! + 1 ≤ n.hi)
  else decide (n.lo ≤ ys[n.stone.toNat]! - ys[n.other.toNat]!) && decide (ys[n.stone.toNat]! - ys[n.other.toNat]! ≤ n.hi)
@[reducible] def encW (p : List Int × List Int) : Vl := .agg [SL 1 (p.1.map I) none, SL 1 (p.2.map I) none]
theorem clW (p : List Int × List Int) : (encW p).closed = true := by simp only [encW, Vl.closed, closedL, clIs, Bool.and_self]
theorem right_to {d : Dt} {n : Nt} (h : NtOk d n) {ys fs : List Int} (hy : (ys.length : Int) = d.stones) (hf : fs.length = d.eras.length) (hyb : ∀ y ∈ ys, -3000 ≤ y ∧ y ≤ 3000) (hfb : ∀ y ∈ fs, -3000 ≤ y ∧ y ≤ 3000) : Ans Try.prog (AA b) 86 [encN n, encW (ys, fs)] (fun v => v = .bool (rightB n ys fs)) := by
  refine Ans_of Try.func86 rfl rfl ?_
  have hk := h.kind
  have hs := h.stone
  have hs1 : n.stone < ys.length := by omega
  obtain ⟨s, hse⟩ := Int.eq_ofNat_of_zero_le hs.1
  have hsl : s < ys.length := by omega
  have hyv := hyb _ (get!_mem hsl)
  have hk4 : n.kind = 1 ∨ n.kind = 2 ∨ n.kind = 3 ∨ n.kind = 4 := by omega
  unfold rightB
  rw [hse, Int.toNat_natCast]
  generalize hY : ys[s]! = y at hyv
  rcases hk4 with e | e | e | e
  · have hl := (h.years e).2.2.2.2.1
    have hl : n.ys.length ≤ 1000 := by omega
    simp +contextual (maxSteps := 1000000) (disch := first | omega | (with_reducible first | refine krN ?_ | refine krS ?_ | refine krP ?_ | refine krG ?_); kernel_rfl | refine kr ?_; simp only [go_sem, reduceCtorEq, hse, ix_map, hsl, hY, e, wc104, hl]; done | fail) only [go_sem, seval, -List.reduceReplicate, hse, ix_map, hsl, hY, e, wc104, hl]
  · simp +contextual (maxSteps := 1000000) (disch := first | omega | (with_reducible first | refine krN ?_ | refine krS ?_ | refine krP ?_ | refine krG ?_); kernel_rfl | refine kr ?_; simp only [go_sem, reduceCtorEq, hse, ix_map, hsl, hY, e]; done | fail) only [go_sem, seval, -List.reduceReplicate, hse, ix_map, hsl, hY, e]
  · have ho := h.era e
    obtain ⟨q, hq⟩ := Int.eq_ofNat_of_zero_le ho.1
    have hql : q < fs.length := by omega
    have hfv := hfb _ (get!_mem hql)
    rw [hq, Int.toNat_natCast]
    generalize hF : fs[q]! = f at hfv
    have hw1 : IntKind.wrap .i64 (y - f) = y - f := wrap_i64 (by omega) (by omega)
    have hw2 : IntKind.wrap .i64 (y - f + 1) = y - f + 1 := wrap_i64 (by omega) (by omega)
    simp +contextual (maxSteps := 1000000) (disch := first | omega | (with_reducible first | refine krN ?_ | refine krS ?_ | refine krP ?_ | refine krG ?_); kernel_rfl | refine kr ?_; simp only [go_sem, reduceCtorEq, hse, ix_map, hsl, hY, e, hq, hql, hF, hw1, hw2]; done | fail) only [go_sem, seval, -List.reduceReplicate, hse, ix_map, hsl, hY, e, hq, hql, hF, hw1, hw2]
  · have ho := h.after e
    obtain ⟨q, hq⟩ := Int.eq_ofNat_of_zero_le ho.1
    have hql : q < ys.length := by omega
    have hfv := hyb _ (get!_mem hql)
    rw [hq, Int.toNat_natCast]
    generalize hF : ys[q]! = f at hfv
    have hw1 : IntKind.wrap .i64 (y - f) = y - f := wrap_i64 (by omega) (by omega)
    simp +contextual (maxSteps := 1000000) (disch := first | omega | (with_reducible first | refine krN ?_ | refine krS ?_ | refine krP ?_ | refine krG ?_); kernel_rfl | refine kr ?_; simp only [go_sem, reduceCtorEq, hse, ix_map, hsl, hY, e, hq, hql, hF, hw1]; done | fail) only [go_sem, seval, -List.reduceReplicate, hse, ix_map, hsl, hY, e, hq, hql, hF, hw1]
theorem wc86 {d : Dt} {n : Nt} (h : NtOk d n) {ys fs : List Int} (hy : (ys.length : Int) = d.stones) (hf : fs.length = d.eras.length) (hyb : ∀ y ∈ ys, -3000 ≤ y ∧ y ≤ 3000) (hfb : ∀ y ∈ fs, -3000 ≤ y ∧ y ≤ 3000) {m : Mem} {K : Vl → Mem → Prop} : WC Try.prog (AA b) (.fn (.func 86) [] []) [.v (encN n), .v (encW (ys, fs))] m K = K (.bool (rightB n ys fs)) m :=
  WC_flat (by simp only [mkAnn, K86]) (rfAs (xs := [encN n, encW (ys, fs)]) (by simp only [closedL, clN, clW]; rfl)) (right_to h hy hf hyb hfb) rfl
end Go.Proofs
