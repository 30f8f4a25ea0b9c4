/- What functions of the given program do in the ideal machine (F1, F2), and the plain laws of what they answer; the conditions stand in each theorem. -/
import Derived.Test.YtencmmlmeifffaaEd
import Derived.Test.YtencmmlmeifffaaDb
set_option linter.all false
set_option linter.unusedSectionVars false
set_option linter.unusedSimpArgs false
set_option linter.unusedVariables false
namespace Go.Proofs
open Go Go.Idl
set_option linter.unusedSimpArgs false
variable {b : Bool}
def urnAt (u : Nat) (hp : Nat → Ob) : Int × Int := match hp u with
  | .box (.agg [.int .u64 x, .int .u64 y]) => (x, y)
  | _ => (0, 0)
def UrnOk (u : Nat) (hp : Nat → Ob) : Prop := hp u = .box (.agg [U (urnAt u hp).1, U (urnAt u hp).2])
@[reducible] def urnO (s : Int × Int) : Ob := .box (.agg [U s.1, U s.2])
theorem urnAt_upd {u : Nat} {hp : Nat → Ob} {x y : Int} : urnAt u (upd hp u (.box (.agg [.int .u64 x, .int .u64 y]))) = (x, y) := by unfold urnAt; rw [upd_same]
theorem UrnOk_upd {u : Nat} {hp : Nat → Ob} {x y : Int} : UrnOk u (upd hp u (.box (.agg [.int .u64 x, .int .u64 y]))) := by unfold UrnOk; rw [urnAt_upd, upd_same]
theorem UrnOk_is {u : Nat} {hp : Nat → Ob} (h : UrnOk u hp) : hp u = .box (.agg [U (urnAt u hp).1, U (urnAt u hp).2]) := h
theorem upd_self {hp : Nat → Ob} {u : Nat} {o : Ob} (h : hp u = o) : upd hp u o = hp := by
  funext j
  unfold upd
  split
  · rename_i e; rw [e, h]
  · rfl
def turnZ (s : Int × Int) : Int := xorI .u64 (xorI .u64 (xorI .u64 (xorI .u64 s.1 (shlI .u64 s.1 23)) s.2) (shrI .u64 (xorI .u64 s.1 (shlI .u64 s.1 23)) 17)) (shrI .u64 s.2 26)
def turnS (s : Int × Int) : Int × Int := (s.2, if orI .u64 s.2 (turnZ s) = 0 then 1 else turnZ s)
def turnR (s : Int × Int) : Int := IntKind.wrap .u64 ((turnS s).2 + s.2)
theorem turn_x {u nx : Nat} {hp : Nat → Ob} (h : UrnOk u hp) : HAns Try.prog (AA b) 53 [.bp u 0] hp nx fun v h' n => v = U (turnR (urnAt u hp)) ∧ h' = upd hp u (.box (.agg [U (turnS (urnAt u hp)).1, U (turnS (urnAt u hp)).2])) ∧ n = nx := by
  have h := UrnOk_is h
  generalize urnAt u hp = s at h
  refine HAns_of Try.func53 rfl ?_
  simp +contextual (maxSteps := 1000000) (disch := first | omega | (with_reducible first | refine krN ?_ | refine krS ?_ | refine krP ?_ | refine krG ?_); kernel_rfl | refine kr ?_; simp only [go_sem, seval, -List.reduceReplicate, h]; done | fail) only [go_sem, seval, -List.reduceReplicate, h]
  refine WI_of (fun c => ?_) (fun c => ?_)
  · have c : orI .u64 s.2 (turnZ s) = 0 := c
    simp [turnR, turnS, c]
  · have c : ¬ orI .u64 s.2 (turnZ s) = 0 := c
    simp only [turnR, turnS, if_neg c]
    repeat' (first | exact trivial | rfl | apply And.intro)
section
variable {u : Nat} {m : Mem} {K : Vl → Mem → Prop}
theorem wc53 (h : UrnOk u m.hp) : WC Try.prog (AA b) (.fn (.func 53) [] []) [.v (.bp u 0)] m K = K (U (turnR (urnAt u m.hp))) { m with hp := upd m.hp u (.box (.agg [U (turnS (urnAt u m.hp)).1, U (turnS (urnAt u m.hp)).2])) } :=
  WC_heap (by simp only [mkAnn, K53]) rfl (turn_x h)
end
attribute [go_sem] UrnOk_upd urnAt_upd wc53
def upS (s : Int × Int) (n : Int) : Int × Int := if n < 2 then s else turnS s
def upR (s : Int × Int) (n : Int) : Int := if n < 2 then 0 else IntKind.wrap .i64 ((shrI .u64 (turnR s) 11).tmod (IntKind.wrap .u64 n))
theorem u64_ne {n : Int} (h1 : ¬ n < 2) (h2 : n < 9223372036854775808) : IntKind.wrap .u64 n ≠ 0 := by rw [conv_n (by omega) h2]; omega
theorem up_x {u nx : Nat} {hp : Nat → Ob} {n : Int} (h : UrnOk u hp) (hn : n < 9223372036854775808) : HAns Try.prog (AA b) 41 [.bp u 0, I n] hp nx fun v h' n' => v = I (upR (urnAt u hp) n) ∧ h' = upd hp u (.box (.agg [U (upS (urnAt u hp) n).1, U (upS (urnAt u hp) n).2])) ∧ n' = nx := by
  refine HAns_of Try.func41 rfl ?_
  have hz : ¬ n < 2 → binOpV (tdOf Try.prog 84) .rem (.int .u64 (shrI .u64 (turnR (urnAt u hp)) 11)) (.int .u64 (IntKind.wrap .u64 n)) = some (.int .u64 ((shrI .u64 (turnR (urnAt u hp)) 11).tmod (IntKind.wrap .u64 n))) := fun c => bin_rem (u64_ne c hn)
  rw [td84] at hz
  simp +contextual (maxSteps := 1000000) (disch := first | omega | (with_reducible first | refine krN ?_ | refine krS ?_ | refine krP ?_ | refine krG ?_); kernel_rfl | refine kr ?_; simp only [go_sem, seval, -List.reduceReplicate, h, hz]; done | fail) only [go_sem, seval, -List.reduceReplicate, h, hz]
  refine WI_of (fun c => ?_) (fun c => ?_)
  · simp only [upR, upS, if_pos c]
    repeat' (first | exact trivial | rfl | exact (upd_self h).symm | apply And.intro)
  · simp only [upR, upS, if_neg c]
    repeat' (first | exact trivial | rfl | apply And.intro)
theorem upR_b (s : Int × Int) {n : Int} (hn : n < 1000000) : 0 ≤ upR s n ∧ upR s n < max 1 n := by
  unfold upR
  split
  · omega
  · have hw : IntKind.wrap .u64 n = n := conv_n (by omega) (by omega)
    have hz : n ≠ 0 := by omega
    have hs : 0 ≤ shrI .u64 (turnR s) 11 := by
      have := wrap_u64 ((turnS s).2 + s.2)
      show 0 ≤ (IntKind.wrap .u64 ((turnS s).2 + s.2)).fdiv (2 ^ 11)
      rw [Int.fdiv_eq_ediv_of_nonneg _ (by decide)]
      omega
    have hm : (shrI .u64 (turnR s) 11).tmod n = shrI .u64 (turnR s) 11 % n := Int.tmod_eq_emod_of_nonneg hs
    have hm1 := Int.emod_nonneg (shrI .u64 (turnR s) 11) hz
    have hm2 := Int.emod_lt_of_pos (shrI .u64 (turnR s) 11) (b := n) (by omega)
    rw [hw, hm, wrap_i64 (by omega) (by omega)]
    omega
section
variable {u : Nat} {m : Mem} {K : Vl → Mem → Prop}
theorem wc41 {n : Int} (h : UrnOk u m.hp) (hn : n < 9223372036854775808) : WC Try.prog (AA b) (.fn (.func 41) [] []) [.v (.bp u 0), .v (.int .i64 n)] m K = K (I (upR (urnAt u m.hp) n)) { m with hp := upd m.hp u (.box (.agg [U (upS (urnAt u m.hp) n).1, U (upS (urnAt u m.hp) n).2])) } :=
  WC_heap (by simp only [mkAnn, K41]) rfl (up_x h hn)
end
attribute [go_sem] wc41
def w64 (n : Int) : Int := IntKind.wrap .i64 n
theorem w64_lt (n : Int) : w64 n < 9223372036854775808 := by
  show (if (true && decide (n % 18446744073709551616 ≥ 2 ^ 63)) = true then n % 18446744073709551616 - 18446744073709551616 else n % 18446744073709551616) < 9223372036854775808
  simp only [Bool.true_and, decide_eq_true_eq]
  split <;> omega
def fromS (s : Int × Int) (lo hi : Int) : Int × Int := upS s (w64 (w64 (hi - lo) + 1))
def fromR (s : Int × Int) (lo hi : Int) : Int := w64 (lo + upR s (w64 (w64 (hi - lo) + 1)))
theorem from_x {u nx : Nat} {hp : Nat → Ob} {lo hi : Int} (h : UrnOk u hp) : HAns Try.prog (AA b) 46 [.bp u 0, I lo, I hi] hp nx fun v h' n' => v = I (fromR (urnAt u hp) lo hi) ∧ h' = upd hp u (.box (.agg [U (fromS (urnAt u hp) lo hi).1, U (fromS (urnAt u hp) lo hi).2])) ∧ n' = nx := by
  refine HAns_of Try.func46 rfl ?_
  have hl : IntKind.wrap .i64 (IntKind.wrap .i64 (hi - lo) + 1) < 9223372036854775808 := w64_lt _
  simp +contextual (maxSteps := 1000000) (disch := first | omega | (with_reducible first | refine krN ?_ | refine krS ?_ | refine krP ?_ | refine krG ?_); kernel_rfl | refine kr ?_; simp only [go_sem, seval, -List.reduceReplicate, h, hl]; done | fail) only [go_sem, seval, -List.reduceReplicate, h, hl]
  repeat' (first | exact trivial | rfl | apply And.intro)
theorem fromR_b (s : Int × Int) {lo hi : Int} (h1 : -100000 ≤ lo) (h2 : lo ≤ 100000) (h3 : -100000 ≤ hi) (h4 : hi ≤ 100000) : lo ≤ fromR s lo hi ∧ fromR s lo hi ≤ max lo hi := by
  unfold fromR w64
  have hw : IntKind.wrap .i64 (hi - lo) = hi - lo := wrap_i64 (by omega) (by omega)
  have hw2 : IntKind.wrap .i64 (hi - lo + 1) = hi - lo + 1 := wrap_i64 (by omega) (by omega)
  rw [hw, hw2]
  have := upR_b s (n := hi - lo + 1) (by omega)
  rw [wrap_i64 (by omega) (by omega)]
  omega
section
variable {u : Nat} {m : Mem} {K : Vl → Mem → Prop}
theorem wc46 {lo hi : Int} (h : UrnOk u m.hp) : WC Try.prog (AA b) (.fn (.func 46) [] []) [.v (.bp u 0), .v (.int .i64 lo), .v (.int .i64 hi)] m K = K (I (fromR (urnAt u m.hp) lo hi)) { m with hp := upd m.hp u (.box (.agg [U (fromS (urnAt u m.hp) lo hi).1, U (fromS (urnAt u m.hp) lo hi).2])) } :=
  WC_heap (by simp only [mkAnn, K46]) rfl (from_x h)
end
attribute [go_sem] wc46
def oddsR (s : Int × Int) (n d : Int) : Bool := decide (upR s d < n)
theorem odds_x {u nx : Nat} {hp : Nat → Ob} {n d : Int} (h : UrnOk u hp) (hd : d < 9223372036854775808) : HAns Try.prog (AA b) 40 [.bp u 0, I n, I d] hp nx fun v h' n' => v = .bool (oddsR (urnAt u hp) n d) ∧ h' = upd hp u (.box (.agg [U (upS (urnAt u hp) d).1, U (upS (urnAt u hp) d).2])) ∧ n' = nx := by
  refine HAns_of Try.func40 rfl ?_
  simp +contextual (maxSteps := 1000000) (disch := first | omega | (with_reducible first | refine krN ?_ | refine krS ?_ | refine krP ?_ | refine krG ?_); kernel_rfl | refine kr ?_; simp only [go_sem, seval, -List.reduceReplicate, h, hd]; done | fail) only [go_sem, seval, -List.reduceReplicate, h, hd]
  repeat' (first | exact trivial | rfl | apply And.intro)
section
variable {u : Nat} {m : Mem} {K : Vl → Mem → Prop}
theorem wc40 {n d : Int} (h : UrnOk u m.hp) (hd : d < 9223372036854775808) : WC Try.prog (AA b) (.fn (.func 40) [] []) [.v (.bp u 0), .v (.int .i64 n), .v (.int .i64 d)] m K = K (.bool (oddsR (urnAt u m.hp) n d)) { m with hp := upd m.hp u (.box (.agg [U (upS (urnAt u m.hp) d).1, U (upS (urnAt u m.hp) d).2])) } :=
  WC_heap (by simp only [mkAnn, K40]) rfl (odds_x h hd)
end
attribute [go_sem] wc40
def anyR (s : Int × Int) (l : List Int) : Int := if l.length = 0 then 0 else l[(upR s l.length).toNat]!
def anyS (s : Int × Int) (l : List Int) : Int × Int := if l.length = 0 then s else upS s l.length
theorem any_x {u nx : Nat} {hp : Nat → Ob} {l : List Int} {o : Bool} (h : UrnOk u hp) (hl : l.length < 1000) : HAns Try.prog (AA b) 36 [.bp u 0, .lst 1 (l.map I) o] hp nx fun v h' n' => v = I (anyR (urnAt u hp) l) ∧ h' = upd hp u (.box (.agg [U (anyS (urnAt u hp) l).1, U (anyS (urnAt u hp) l).2])) ∧ n' = nx := by
  refine HAns_of Try.func36 rfl ?_
  have hb := upR_b (urnAt u hp) (n := l.length) (by omega)
  have e0 : ((l.length : Int) = 0) = (l.length = 0) := propext (by omega)
  simp +contextual (maxSteps := 1000000) (disch := first | omega | (with_reducible first | refine krN ?_ | refine krS ?_ | refine krP ?_ | refine krG ?_); kernel_rfl | refine kr ?_; simp only [go_sem, seval, -List.reduceReplicate, h, ix_lst, List.length_map, Int.natCast_inj, e0]; done | fail) only [go_sem, seval, -List.reduceReplicate, h, ix_lst, List.length_map, Int.natCast_inj, e0]
  refine WI_of (fun c => ?_) (fun c => ?_)
  · simp only [anyR, anyS, if_pos c]
    repeat' (first | exact trivial | rfl | exact (upd_self h).symm | apply And.intro)
  · simp only [anyR, anyS, if_neg c]
    repeat' (first | exact trivial | rfl | apply And.intro)
section
variable {u : Nat} {m : Mem} {K : Vl → Mem → Prop} {o : Bool}
theorem wc36_2 {x y : Int} (h : UrnOk u m.hp) : WC Try.prog (AA b) (.fn (.func 36) [] []) [.v (.bp u 0), .v (.lst 1 [.int .i64 x, .int .i64 y] o)] m K = K (I (anyR (urnAt u m.hp) [x, y])) { m with hp := upd m.hp u (.box (.agg [U (anyS (urnAt u m.hp) [x, y]).1, U (anyS (urnAt u m.hp) [x, y]).2])) } :=
  WC_heap (by simp only [mkAnn, K36]) rfl (any_x (l := [x, y]) h (by simp))
theorem wc36_3 {x y z : Int} (h : UrnOk u m.hp) : WC Try.prog (AA b) (.fn (.func 36) [] []) [.v (.bp u 0), .v (.lst 1 [.int .i64 x, .int .i64 y, .int .i64 z] o)] m K = K (I (anyR (urnAt u m.hp) [x, y, z])) { m with hp := upd m.hp u (.box (.agg [U (anyS (urnAt u m.hp) [x, y, z]).1, U (anyS (urnAt u m.hp) [x, y, z]).2])) } :=
  WC_heap (by simp only [mkAnn, K36]) rfl (any_x (l := [x, y, z]) h (by simp))
theorem wc36_4 {x y z t : Int} (h : UrnOk u m.hp) : WC Try.prog (AA b) (.fn (.func 36) [] []) [.v (.bp u 0), .v (.lst 1 [.int .i64 x, .int .i64 y, .int .i64 z, .int .i64 t] o)] m K = K (I (anyR (urnAt u m.hp) [x, y, z, t])) { m with hp := upd m.hp u (.box (.agg [U (anyS (urnAt u m.hp) [x, y, z, t]).1, U (anyS (urnAt u m.hp) [x, y, z, t]).2])) } :=
  WC_heap (by simp only [mkAnn, K36]) rfl (any_x (l := [x, y, z, t]) h (by simp))
end
theorem anyR_mem (s : Int × Int) {l : List Int} (h : l ≠ []) (hl : l.length < 1000) : anyR s l ∈ l := by
  have h0 : 0 < l.length := List.length_pos_iff.2 h
  unfold anyR
  rw [if_neg (by omega)]
  have := upR_b s (n := l.length) (by omega)
  exact get!_mem (by omega)
attribute [go_sem] wc36_2 wc36_3 wc36_4
end Go.Proofs
namespace Go.Proofs
open Go Go.Idl
set_option linter.unusedSimpArgs false
variable {b : Bool}
def halfR (s : Int × Int) : Int := anyR (upS (upS s 5) 20) [0, upR s 5, upR (upS s 5) 20]
def halfS (s : Int × Int) : Int × Int := anyS (upS (upS s 5) 20) [0, upR s 5, upR (upS s 5) 20]
theorem halfR_b (s : Int × Int) : 0 ≤ halfR s ∧ halfR s ≤ 19 := by
  have := anyR_mem (upS (upS s 5) 20) (l := [0, upR s 5, upR (upS s 5) 20]) (by simp) (by simp)
  have h1 := upR_b s (n := 5) (by omega)
  have h2 := upR_b (upS s 5) (n := 20) (by omega)
  unfold halfR
  simp only [List.mem_cons, List.not_mem_nil, or_false] at this
  omega
theorem years_x {u nx : Nat} {hp : Nat → Ob} {n : Int} (h : UrnOk u hp) : HAns Try.prog (AA b) 51 [.bp u 0, I n] hp nx fun v h' n' => v = .agg [I (w64 (n - halfR (urnAt u hp))), I (w64 (n + halfR (halfS (urnAt u hp))))] ∧ h' = upd hp u (.box (.agg [U (halfS (halfS (urnAt u hp))).1, U (halfS (halfS (urnAt u hp))).2])) ∧ n' = nx := by
  refine HAns_of Try.func51 rfl ?_
  simp +contextual (maxSteps := 1000000) (disch := first | omega | (with_reducible first | refine krN ?_ | refine krS ?_ | refine krP ?_ | refine krG ?_); kernel_rfl | refine kr ?_; simp only [go_sem, seval, -List.reduceReplicate, h]; done | fail) only [go_sem, seval, -List.reduceReplicate, h]
  repeat' (first | exact trivial | rfl | apply And.intro)
section
variable {u : Nat} {m : Mem} {K : Vl → Mem → Prop}
theorem wc51 {n : Int} (h : UrnOk u m.hp) : WC Try.prog (AA b) (.fn (.func 51) [] []) [.v (.bp u 0), .v (.int .i64 n)] m K = K (.agg [I (w64 (n - halfR (urnAt u m.hp))), I (w64 (n + halfR (halfS (urnAt u m.hp))))]) { m with hp := upd m.hp u (.box (.agg [U (halfS (halfS (urnAt u m.hp))).1, U (halfS (halfS (urnAt u m.hp))).2])) } :=
  WC_heap (by simp only [mkAnn, K51]) rfl (years_x h)
end
attribute [go_sem] wc51
section
variable {u : Nat} {m : Mem} {K : Vl → Mem → Prop}
end
section
variable {u : Nat} {m : Mem} {K : Vl → Mem → Prop}
end
end Go.Proofs
