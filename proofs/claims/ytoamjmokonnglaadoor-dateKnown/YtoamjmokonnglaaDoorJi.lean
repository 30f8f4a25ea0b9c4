/- What functions of the given program do in the ideal machine (J16), and the plain laws of what they answer; the conditions stand in each theorem. -/
import Derived.Test.YtoamjmokonnglaaDoorJh
import Derived.Test.YtoamjmokonnglaaDoorSb
import Derived.Test.YtoamjmokonnglaaDoorSc
import Derived.Test.YtoamjmokonnglaaDoorSd0
import Derived.Test.YtoamjmokonnglaaDoorSd1
import Derived.Test.YtoamjmokonnglaaDoorSd2
import Derived.Test.YtoamjmokonnglaaDoorSd3
import Derived.Test.YtoamjmokonnglaaDoorSd4
set_option linter.all false
set_option linter.unusedSectionVars false
set_option linter.unusedSimpArgs false
set_option linter.unusedVariables false
namespace Go.Proofs
open Go Go.Idl Go.Dt
set_option linter.unusedSimpArgs false
variable {b : Nat}
variable {c : Nat}
theorem pure61 {ex : FuncId → Code → FS → Option (XE × FS)} {args : List Vl} : pureI Tryd.prog (AA (c + 1)) ex 30 args = firstX args := by
  unfold pureI
  rfl
theorem wc30 {x y : Nat} (hx : x < 256) (hy : y < 256) {m : Mem} {K : Vl → Mem → Prop} : WC Tryd.prog (AA (c + 1)) (.fn (.func 30) [] []) [.v (.int .u64 x), .v (.int .u64 y)] m K = K (I (firstN x y)) m := by
  refine WC_flat (vs := [U x, U y]) (ks := []) (p := false) (by simp only [mkAnn, K30]) rfl ⟨I (firstN x y), ⟨0, ?_⟩, rfl⟩ rfl
  rw [pure61, firstX, if_pos (by omega), Int.toNat_natCast, Int.toNat_natCast]
theorem us_len {l : List Nat} : (us l).length = l.length := List.length_map _
theorem ixS {X : List Nat} {n i nx : Nat} {h : Nat → Ob} {lc : List (Nat × Vl)} {eb : Nat} {ez : Vl} (hl : X.length = n) (hi : i < n) : indexAddrV (.slice 1 eb ez) (.v (.own 2 n)) (.int .i64 (i : Int)) { lc := lc, hp := upd h 2 (.arr 1 (us X)), nx := nx } = some (.v (.ep 2 n i 0), { lc := lc, hp := upd h 2 (.arr 1 (us X)), nx := nx }) := by
  rw [ixU (by rw [us_len]; exact hl) (by omega) (by omega) (by decide)]; rfl
theorem rdS {X : List Nat} {n i nx k : Nat} {h : Nat → Ob} {lc : List (Nat × Vl)} (hl : X.length = n) (hi : X[i]? = some k) : Mem.read { lc := lc, hp := upd h 2 (.arr 1 (us X)), nx := nx } false 1 (.v (.ep 2 n i 0)) = some (.int .u64 k) := by
  rw [rdU (by rw [us_len]; exact hl)]
  unfold us
  rw [List.getElem?_map, hi]; rfl
theorem len_64 : Ans Tryd.prog (AA (c + 1)) 40 [U 64] (fun v => v = I 7) := ⟨_, ⟨100, by kernel_rfl⟩, rfl⟩
theorem wc40 {m : Mem} {K : Vl → Mem → Prop} : WC Tryd.prog (AA (c + 1)) (.fn (.func 40) [] []) [.v (.int .u64 64)] m K = K (I 7) m := WC_flat (by simp only [mkAnn, K40]) rfl len_64 rfl
def A6 : Nat → Int
  | 0 => 0
  | 1 => 12
  | 2 => 35
  | 3 => 42
  | _ => 53
def X6 : Nat → List Nat
  | 0 => x6_0
  | 1 => x6_2
  | 2 => x6_4
  | 3 => x6_6
  | _ => x6_8
def N6 : Nat → Nat
  | 0 => 3
  | 1 => 4
  | 2 => 7
  | 3 => 8
  | _ => 9
theorem sort88 {h : Nat → Ob} : HAns Tryd.prog (AA (c + 1)) 39 [sv 64, I 0, I 64, I 7, fv] (upd h 2 (.arr 1 (us x6_0))) 3 fun v hp' n' => v = .tup [] ∧ n' = 9 ∧ hp' 0 = h 0 ∧ hp' 1 = h 1 ∧ hp' 2 = .arr 1 (us x6_9) := by
  refine HAns_of Tryd.func39 rfl ?_
  simp +contextual (maxSteps := 1000000) (disch := first | omega | (with_reducible first | refine krN ?_ | refine krS ?_ | refine krP ?_ | refine krG ?_); kernel_rfl | refine kr ?_; simp only [go_sem, reduceCtorEq]; done | fail) only [go_sem, seval, -List.reduceReplicate]
  refine wp_loop_to 4 (fun i st => ∃ (h' : Nat → Ob) (w : Bool) (X : List Nat) (ex : List (Nat × Vl)), h' 0 = h 0 ∧ h' 1 = h 1 ∧ X = X6 i ∧ (w = true ↔ i = 0) ∧
    st = ({ sl := (0, sv 64) :: (1, I (A6 i)) :: (2, I 64) :: (3, I 7) :: (4, fv) :: (10, .bool true) :: (11, .bool w) :: ex, hp := upd h' 2 (.arr 1 (us X)), nx := N6 i } : FS)) ?_ 0 (Nat.zero_le _) ⟨h, true, _, _, rfl, rfl, rfl, ⟨fun _ => rfl, fun _ => rfl⟩, rfl⟩
  rintro i st hi ⟨h', w, X, ex, q0, q1, rfl, hw, rfl⟩
  have h5 : i = 0 ∨ i = 1 ∨ i = 2 ∨ i = 3 ∨ i = 4 := by omega
  rcases h5 with rfl | rfl | rfl | rfl | rfl
  · have hw' : w = true := hw.2 rfl
    subst hw'
    simp only [A6, X6, N6]
    simp +contextual (maxSteps := 1000000) (disch := first | omega | (with_reducible first | refine krN ?_ | refine krS ?_ | refine krP ?_ | refine krG ?_); kernel_rfl | refine kr ?_; simp only [go_sem, reduceCtorEq]; done | fail) only [go_sem, seval, -List.reduceReplicate]
    refine wc_heap (by rfl) rfl (pc_to (h := h') p6_0) ?_
    rintro v g1 n1 ⟨rfl, rfl, a0, a1, a2⟩
    rw [← upd_self a2]
    simp +contextual (maxSteps := 1000000) (disch := first | omega | (with_reducible first | refine krN ?_ | refine krS ?_ | refine krP ?_ | refine krG ?_); kernel_rfl | refine kr ?_; simp only [go_sem, reduceCtorEq]; done | fail) only [go_sem, seval, -List.reduceReplicate]
    refine wc_heap (by rfl) rfl (pc_to (h := g1) p6_1) ?_
    rintro v g2 n2 ⟨rfl, rfl, b0, b1, b2⟩
    rw [← upd_self b2]
    have hq : binOpV { ok := true, agg := false, size := 1, zero := .int .i64 0, flat := some [CK.i], k := TK.int .i64 } .quo (.int .i64 64) (.int .i64 8) = some (.int .i64 8) := by kernel_rfl
    simp +contextual (maxSteps := 1000000) (disch := first | omega | (with_reducible first | refine krN ?_ | refine krS ?_ | refine krP ?_ | refine krG ?_); kernel_rfl | refine kr ?_; simp only [go_sem, reduceCtorEq, hq]; done | fail) only [go_sem, seval, -List.reduceReplicate, hq]
    refine wc_heap (by rfl) rfl (pc_to (h := g2) p6_2) ?_
    rintro v g3 n3 ⟨rfl, rfl, d0, d1, d2⟩
    rw [← upd_self d2]
    simp +contextual (maxSteps := 1000000) (disch := first | omega | (with_reducible first | refine krN ?_ | refine krS ?_ | refine krP ?_ | refine krG ?_); kernel_rfl | refine kr ?_; simp only [go_sem, reduceCtorEq]; done | fail) only [go_sem, seval, -List.reduceReplicate]
    exact ⟨g3, false, _, _, by rw [d0, b0, a0, q0], by rw [d1, b1, a1, q1], rfl, ⟨(fun e => by cases e), (fun e => by simp at e)⟩, rfl⟩
  · have hw' : w = false := by cases w with | false => rfl | true => exact absurd (hw.1 rfl) (by decide)
    subst hw'
    simp only [A6, X6, N6]
    simp +contextual (maxSteps := 1000000) (disch := first | omega | (with_reducible first | refine krN ?_ | refine krS ?_ | refine krP ?_ | refine krG ?_); kernel_rfl | refine kr ?_; simp only [go_sem, reduceCtorEq]; done | fail) only [go_sem, seval, -List.reduceReplicate]
    refine wc_heap (by rfl) rfl (pc_to (h := h') p6_3) ?_
    rintro v g1 n1 ⟨rfl, rfl, a0, a1, a2⟩
    rw [← upd_self a2]
    have i1 := fun (h : Nat → Ob) lc nx => ixS (X := x6_2) (n := 64) (i := 11) (nx := nx) (h := h) (lc := lc) (eb := 8) (ez := .int .u64 0) rfl (by decide)
    have i2 := fun (h : Nat → Ob) lc nx => ixS (X := x6_2) (n := 64) (i := 38) (nx := nx) (h := h) (lc := lc) (eb := 8) (ez := .int .u64 0) rfl (by decide)
    simp only [Int.cast_ofNat_Int] at i1 i2
    have r1 := fun (h : Nat → Ob) lc nx => rdS (X := x6_2) (n := 64) (i := 11) (nx := nx) (h := h) (lc := lc) rfl (k := 33) rfl
    have r2 := fun (h : Nat → Ob) lc nx => rdS (X := x6_2) (n := 64) (i := 38) (nx := nx) (h := h) (lc := lc) rfl (k := 38) rfl
    have w1 := fun m K => wc30 (c := c) (x := 33) (y := 38) (by decide) (by decide) (m := m) (K := K)
    have e1 : firstN 33 38 = -1 := by kernel_rfl
    rw [e1] at w1
    simp only [Int.cast_ofNat_Int] at r1 r2 w1
    simp +contextual (maxSteps := 1000000) (disch := first | omega | (with_reducible first | refine krN ?_ | refine krS ?_ | refine krP ?_ | refine krG ?_); kernel_rfl | refine kr ?_; simp only [go_sem, reduceCtorEq, i1, i2, r1, r2, w1]; done | fail) only [go_sem, seval, -List.reduceReplicate, i1, i2, r1, r2, w1]
    refine wc_heap (by rfl) rfl (pc_to (h := g1) p6_4) ?_
    rintro v g2 n2 ⟨rfl, rfl, b0, b1, b2⟩
    rw [← upd_self b2]
    have hq : binOpV { ok := true, agg := false, size := 1, zero := .int .i64 0, flat := some [CK.i], k := TK.int .i64 } .quo (.int .i64 52) (.int .i64 8) = some (.int .i64 6) := by kernel_rfl
    simp +contextual (maxSteps := 1000000) (disch := first | omega | (with_reducible first | refine krN ?_ | refine krS ?_ | refine krP ?_ | refine krG ?_); kernel_rfl | refine kr ?_; simp only [go_sem, reduceCtorEq, hq]; done | fail) only [go_sem, seval, -List.reduceReplicate, hq]
    refine wc_heap (by rfl) rfl (pc_to (h := g2) p6_5) ?_
    rintro v g3 n3 ⟨rfl, rfl, d0, d1, d2⟩
    rw [← upd_self d2]
    simp +contextual (maxSteps := 1000000) (disch := first | omega | (with_reducible first | refine krN ?_ | refine krS ?_ | refine krP ?_ | refine krG ?_); kernel_rfl | refine kr ?_; simp only [go_sem, reduceCtorEq]; done | fail) only [go_sem, seval, -List.reduceReplicate]
    exact ⟨g3, false, _, _, by rw [d0, b0, a0, q0], by rw [d1, b1, a1, q1], rfl, ⟨(fun e => by cases e), (fun e => by simp at e)⟩, rfl⟩
  · have hw' : w = false := by cases w with | false => rfl | true => exact absurd (hw.1 rfl) (by decide)
    subst hw'
    simp only [A6, X6, N6]
    simp +contextual (maxSteps := 1000000) (disch := first | omega | (with_reducible first | refine krN ?_ | refine krS ?_ | refine krP ?_ | refine krG ?_); kernel_rfl | refine kr ?_; simp only [go_sem, reduceCtorEq]; done | fail) only [go_sem, seval, -List.reduceReplicate]
    refine wc_heap (by rfl) rfl (pc_to (h := h') p6_6) ?_
    rintro v g1 n1 ⟨rfl, rfl, a0, a1, a2⟩
    rw [← upd_self a2]
    have i1 := fun (h : Nat → Ob) lc nx => ixS (X := x6_4) (n := 64) (i := 34) (nx := nx) (h := h) (lc := lc) (eb := 8) (ez := .int .u64 0) rfl (by decide)
    have i2 := fun (h : Nat → Ob) lc nx => ixS (X := x6_4) (n := 64) (i := 56) (nx := nx) (h := h) (lc := lc) (eb := 8) (ez := .int .u64 0) rfl (by decide)
    simp only [Int.cast_ofNat_Int] at i1 i2
    have r1 := fun (h : Nat → Ob) lc nx => rdS (X := x6_4) (n := 64) (i := 34) (nx := nx) (h := h) (lc := lc) rfl (k := 38) rfl
    have r2 := fun (h : Nat → Ob) lc nx => rdS (X := x6_4) (n := 64) (i := 56) (nx := nx) (h := h) (lc := lc) rfl (k := 56) rfl
    have w1 := fun m K => wc30 (c := c) (x := 38) (y := 56) (by decide) (by decide) (m := m) (K := K)
    have e1 : firstN 38 56 = -1 := by kernel_rfl
    rw [e1] at w1
    simp only [Int.cast_ofNat_Int] at r1 r2 w1
    simp +contextual (maxSteps := 1000000) (disch := first | omega | (with_reducible first | refine krN ?_ | refine krS ?_ | refine krP ?_ | refine krG ?_); kernel_rfl | refine kr ?_; simp only [go_sem, reduceCtorEq, i1, i2, r1, r2, w1]; done | fail) only [go_sem, seval, -List.reduceReplicate, i1, i2, r1, r2, w1]
    refine wc_heap (by rfl) rfl (pc_to (h := g1) p6_7) ?_
    rintro v g2 n2 ⟨rfl, rfl, b0, b1, b2⟩
    rw [← upd_self b2]
    have hq : binOpV { ok := true, agg := false, size := 1, zero := .int .i64 0, flat := some [CK.i], k := TK.int .i64 } .quo (.int .i64 29) (.int .i64 8) = some (.int .i64 3) := by kernel_rfl
    simp +contextual (maxSteps := 1000000) (disch := first | omega | (with_reducible first | refine krN ?_ | refine krS ?_ | refine krP ?_ | refine krG ?_); kernel_rfl | refine kr ?_; simp only [go_sem, reduceCtorEq, hq]; done | fail) only [go_sem, seval, -List.reduceReplicate, hq]
    refine wc_heap (by rfl) rfl (pc_to (h := g2) p6_8) ?_
    rintro v g3 n3 ⟨rfl, rfl, d0, d1, d2⟩
    rw [← upd_self d2]
    simp +contextual (maxSteps := 1000000) (disch := first | omega | (with_reducible first | refine krN ?_ | refine krS ?_ | refine krP ?_ | refine krG ?_); kernel_rfl | refine kr ?_; simp only [go_sem, reduceCtorEq]; done | fail) only [go_sem, seval, -List.reduceReplicate]
    exact ⟨g3, false, _, _, by rw [d0, b0, a0, q0], by rw [d1, b1, a1, q1], rfl, ⟨(fun e => by cases e), (fun e => by simp at e)⟩, rfl⟩
  · have hw' : w = false := by cases w with | false => rfl | true => exact absurd (hw.1 rfl) (by decide)
    subst hw'
    simp only [A6, X6, N6]
    simp +contextual (maxSteps := 1000000) (disch := first | omega | (with_reducible first | refine krN ?_ | refine krS ?_ | refine krP ?_ | refine krG ?_); kernel_rfl | refine kr ?_; simp only [go_sem, reduceCtorEq]; done | fail) only [go_sem, seval, -List.reduceReplicate]
    refine wc_heap (by rfl) rfl (pc_to (h := h') p6_9) ?_
    rintro v g1 n1 ⟨rfl, rfl, a0, a1, a2⟩
    rw [← upd_self a2]
    have i1 := fun (h : Nat → Ob) lc nx => ixS (X := x6_6) (n := 64) (i := 41) (nx := nx) (h := h) (lc := lc) (eb := 8) (ez := .int .u64 0) rfl (by decide)
    have i2 := fun (h : Nat → Ob) lc nx => ixS (X := x6_6) (n := 64) (i := 52) (nx := nx) (h := h) (lc := lc) (eb := 8) (ez := .int .u64 0) rfl (by decide)
    simp only [Int.cast_ofNat_Int] at i1 i2
    have r1 := fun (h : Nat → Ob) lc nx => rdS (X := x6_6) (n := 64) (i := 41) (nx := nx) (h := h) (lc := lc) rfl (k := 56) rfl
    have r2 := fun (h : Nat → Ob) lc nx => rdS (X := x6_6) (n := 64) (i := 52) (nx := nx) (h := h) (lc := lc) rfl (k := 30) rfl
    have w1 := fun m K => wc30 (c := c) (x := 56) (y := 30) (by decide) (by decide) (m := m) (K := K)
    have e1 : firstN 56 30 = -1 := by kernel_rfl
    rw [e1] at w1
    simp only [Int.cast_ofNat_Int] at r1 r2 w1
    simp +contextual (maxSteps := 1000000) (disch := first | omega | (with_reducible first | refine krN ?_ | refine krS ?_ | refine krP ?_ | refine krG ?_); kernel_rfl | refine kr ?_; simp only [go_sem, reduceCtorEq, i1, i2, r1, r2, w1]; done | fail) only [go_sem, seval, -List.reduceReplicate, i1, i2, r1, r2, w1]
    refine wc_heap (by rfl) rfl (pc_to (h := g1) p6_10) ?_
    rintro v g2 n2 ⟨rfl, rfl, b0, b1, b2⟩
    rw [← upd_self b2]
    have hq : binOpV { ok := true, agg := false, size := 1, zero := .int .i64 0, flat := some [CK.i], k := TK.int .i64 } .quo (.int .i64 22) (.int .i64 8) = some (.int .i64 2) := by kernel_rfl
    simp +contextual (maxSteps := 1000000) (disch := first | omega | (with_reducible first | refine krN ?_ | refine krS ?_ | refine krP ?_ | refine krG ?_); kernel_rfl | refine kr ?_; simp only [go_sem, reduceCtorEq, hq]; done | fail) only [go_sem, seval, -List.reduceReplicate, hq]
    refine wc_heap (by rfl) rfl (pc_to (h := g2) p6_11) ?_
    rintro v g3 n3 ⟨rfl, rfl, d0, d1, d2⟩
    rw [← upd_self d2]
    simp +contextual (maxSteps := 1000000) (disch := first | omega | (with_reducible first | refine krN ?_ | refine krS ?_ | refine krP ?_ | refine krG ?_); kernel_rfl | refine kr ?_; simp only [go_sem, reduceCtorEq]; done | fail) only [go_sem, seval, -List.reduceReplicate]
    exact ⟨g3, false, _, _, by rw [d0, b0, a0, q0], by rw [d1, b1, a1, q1], rfl, ⟨(fun e => by cases e), (fun e => by simp at e)⟩, rfl⟩
  · have hw' : w = false := by cases w with | false => rfl | true => exact absurd (hw.1 rfl) (by decide)
    subst hw'
    simp only [A6, X6, N6]
    simp +contextual (maxSteps := 1000000) (disch := first | omega | (with_reducible first | refine krN ?_ | refine krS ?_ | refine krP ?_ | refine krG ?_); kernel_rfl | refine kr ?_; simp only [go_sem, reduceCtorEq]; done | fail) only [go_sem, seval, -List.reduceReplicate]
    refine wc_heap (by rfl) rfl (pc_to (h := h') p6_12) ?_
    rintro v g1 n1 ⟨rfl, rfl, a0, a1, a2⟩
    simp +contextual (maxSteps := 1000000) (disch := first | omega | (with_reducible first | refine krN ?_ | refine krS ?_ | refine krP ?_ | refine krG ?_); kernel_rfl | refine kr ?_; simp only [go_sem, reduceCtorEq]; done | fail) only [go_sem, seval, -List.reduceReplicate]
    exact ⟨by rw [a0, q0], by rw [a1, q1], a2⟩
theorem sort_6 {h : Nat → Ob} : HAns Tryd.prog (AA (c + 1)) 29 [sv 64, fv] (upd h 2 (.arr 1 (us x6_0))) 3 fun v hp' n' => v = .tup [] ∧ n' = 9 ∧ hp' 0 = h 0 ∧ hp' 1 = h 1 ∧ hp' 2 = .arr 1 (us x6_9) := by
  refine HAns_of Tryd.func29 rfl ?_
  have hw : IntKind.wrap .u64 64 = 64 := by kernel_rfl
  simp +contextual (maxSteps := 1000000) (disch := first | omega | (with_reducible first | refine krN ?_ | refine krS ?_ | refine krP ?_ | refine krG ?_); kernel_rfl | refine kr ?_; simp only [go_sem, reduceCtorEq, wc40, hw]; done | fail) only [go_sem, seval, -List.reduceReplicate, wc40, hw]
  refine wc_heap (by rfl) rfl (sort88 (c := c) (h := h)) ?_
  rintro v g1 n1 ⟨rfl, rfl, a0, a1, a2⟩
  simp +contextual (maxSteps := 1000000) (disch := first | omega | (with_reducible first | refine krN ?_ | refine krS ?_ | refine krP ?_ | refine krG ?_); kernel_rfl | refine kr ?_; simp only [go_sem, reduceCtorEq]; done | fail) only [go_sem, seval, -List.reduceReplicate]
  exact ⟨a0, a1, a2⟩
theorem sort_to {n : Nat} (hn : n ≤ 6) {h : Nat → Ob} : HAns Tryd.prog (AA (c + 1)) 29 [sv (2 ^ n), fv] (upd h 2 (.arr 1 (us (List.range (2 ^ n))))) 3 fun v hp' n' => v = .tup [] ∧ n' = srtN n ∧ hp' 0 = h 0 ∧ hp' 1 = h 1 ∧ hp' 2 = .arr 1 (us (srtL n)) := by
  have h7 : n = 0 ∨ n = 1 ∨ n = 2 ∨ n = 3 ∨ n = 4 ∨ n = 5 ∨ n = 6 := by omega
  rcases h7 with rfl | rfl | rfl | rfl | rfl | rfl | rfl
  · exact pc_to srt_0
  · exact pc_to srt_1
  · exact pc_to srt_2
  · exact pc_to srt_3
  · exact pc_to srt_4
  · exact pc_to srt_5
  · exact sort_6
end Go.Proofs
