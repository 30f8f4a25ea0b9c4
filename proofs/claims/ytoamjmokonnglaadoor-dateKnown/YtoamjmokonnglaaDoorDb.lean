/- What functions of the given program do in the ideal machine (JR, JG, J1, J2), and the plain laws of what they answer; the conditions stand in each theorem. -/
import Derived.Test.YtoamjmokonnglaaDoorDa
import Derived.Test.YtoamjmokonnglaaDoorIf
import Derived.Test.YtoamjmokonnglaaDoorTb
set_option linter.all false
set_option linter.unusedSectionVars false
set_option linter.unusedSimpArgs false
set_option linter.unusedVariables false
namespace Go.Proofs
open Go Go.Idl
def psT : Nat → Nat → List (Nat × Nat)
  | 3, 2 => [(3, 11), (5, 11), (5, 14), (7, 11), (7, 14), (7, 17)]
  | 3, 14 => [(3, 0), (4, 0), (7, 0), (8, 0)]
  | 9, 2 => [(1, 2)]
  | 12, 15 => [(0, 2)]
  | 14, 13 => [(0, 2), (0, 4)]
  | 22, 1 => [(0, 2)]
  | 25, 1 => [(0, 2)]
  | 36, 1 => [(8, 4)]
  | 45, 5 => [(2, 1)]
  | 47, 1 => [(24, 30), (32, 30)]
  | 48, 8 => [(3, 1), (5, 1), (7, 1), (9, 1), (9, 8)]
  | 49, 5 => [(5, 2), (9, 2)]
  | 49, 7 => [(4, 2)]
  | _, _ => []
theorem ps3_2 : psT 3 2 = [(3, 11), (5, 11), (5, 14), (7, 11), (7, 14), (7, 17)] := rfl
theorem ps3_14 : psT 3 14 = [(3, 0), (4, 0), (7, 0), (8, 0)] := rfl
theorem ps9_2 : psT 9 2 = [(1, 2)] := rfl
theorem ps10_5 : psT 10 5 = [] := rfl
theorem ps12_15 : psT 12 15 = [(0, 2)] := rfl
theorem ps14_13 : psT 14 13 = [(0, 2), (0, 4)] := rfl
theorem ps14_14 : psT 14 14 = [] := rfl
theorem ps17_5 : psT 17 5 = [] := rfl
theorem ps22_1 : psT 22 1 = [(0, 2)] := rfl
theorem ps23_1 : psT 23 1 = [] := rfl
theorem ps25_1 : psT 25 1 = [(0, 2)] := rfl
theorem ps36_1 : psT 36 1 = [(8, 4)] := rfl
theorem ps39_17 : psT 39 17 = [] := rfl
theorem ps45_5 : psT 45 5 = [(2, 1)] := rfl
theorem ps47_1 : psT 47 1 = [(24, 30), (32, 30)] := rfl
theorem ps48_8 : psT 48 8 = [(3, 1), (5, 1), (7, 1), (9, 1), (9, 8)] := rfl
theorem ps49_5 : psT 49 5 = [(5, 2), (9, 2)] := rfl
theorem ps49_7 : psT 49 7 = [(4, 2)] := rfl
theorem ps55_4 : psT 55 4 = [] := rfl
theorem ps55_6 : psT 55 6 = [] := rfl
theorem ps56_10 : psT 56 10 = [] := rfl
theorem ps57_10 : psT 57 10 = [] := rfl
theorem ps59_3 : psT 59 3 = [] := rfl
theorem ps60_5 : psT 60 5 = [] := rfl
theorem ps60_11 : psT 60 11 = [] := rfl
theorem ps60_16 : psT 60 16 = [] := rfl
theorem ps60_17 : psT 60 17 = [] := rfl
theorem ps60_22 : psT 60 22 = [] := rfl
theorem ps60_23 : psT 60 23 = [] := rfl
theorem ps61_1 : psT 61 1 = [] := rfl
theorem ps61_3 : psT 61 3 = [] := rfl
theorem ps61_5 : psT 61 5 = [] := rfl
theorem ps61_8 : psT 61 8 = [] := rfl
theorem ps62_1 : psT 62 1 = [] := rfl
theorem ps62_3 : psT 62 3 = [] := rfl
theorem ps62_5 : psT 62 5 = [] := rfl
theorem ps62_8 : psT 62 8 = [] := rfl
theorem ps62_10 : psT 62 10 = [] := rfl
theorem ps62_13 : psT 62 13 = [] := rfl
theorem ps62_15 : psT 62 15 = [] := rfl
theorem ps62_18 : psT 62 18 = [] := rfl
theorem ps62_21 : psT 62 21 = [] := rfl
theorem ps67_10 : psT 67 10 = [] := rfl
theorem ps70_3 : psT 70 3 = [] := rfl
theorem ps70_5 : psT 70 5 = [] := rfl
theorem ps70_6 : psT 70 6 = [] := rfl
theorem ps72_1 : psT 72 1 = [] := rfl
theorem ps72_2 : psT 72 2 = [] := rfl
theorem ps72_3 : psT 72 3 = [] := rfl
theorem ps75_1 : psT 75 1 = [] := rfl
theorem ps78_1 : psT 78 1 = [] := rfl
theorem ps81_7 : psT 81 7 = [] := rfl
theorem ps81_8 : psT 81 8 = [] := rfl
theorem ps81_9 : psT 81 9 = [] := rfl
theorem ps81_10 : psT 81 10 = [] := rfl
theorem ps81_17 : psT 81 17 = [] := rfl
theorem ps81_18 : psT 81 18 = [] := rfl
theorem ps81_23 : psT 81 23 = [] := rfl
section
variable {b : Nat} {ro : Option Nat} {f id : Nat} {ops : Array Oper} {s : FS} {Q : XE → FS → Prop}
theorem Wp_dr (hst : staticOk (fun d => (locT f).elem d) ops = true) (hps : loosePairs (fun d => (locT f).elem d) ops = psT f id) (hn : nodupI (allocDs ops.toList) = true) :
    Wp Tryd.prog (AA b) ro f (.region id ops true) s Q =
      OB (Od (ghosts (ghoT f id) s)) fun s1 => WD Tryd.prog (AA b) (locT f) ops (baseOf s1.sl (allocDs ops.toList)) (psT f id) 0 ops.toList [] [] [] { lc := [], hp := s1.hp, nx := s1.nx } (endQ (keepT f id) (baseOf s1.sl (allocDs ops.toList)) Q) := Wp_draw hst hps hn
theorem Wp_drE {l : List Oper} (h0 : psT f id = []) (hst : staticOk (fun d => (locT f).elem d) l.toArray = true) (hps : loosePairs (fun d => (locT f).elem d) l.toArray = psT f id) (hn : nodupI (allocDs l) = true) :
    Wp Tryd.prog (AA b) ro f (.region id l.toArray true) s Q = OB (Od (ghosts (ghoT f id) s)) (aft1 Tryd.prog (AA b) (locT f) (keepT f id) l Q) := Wp_drF hst (hps.trans h0) hn
end
attribute [go_sem] not_false_eq_true not_true_eq_false Decidable.not_not D_eq D_ff D_True D_False IA_True IA_False IV_True IV_False IA_v IV_same IV_and IV_or IV_nand IV_imp IV_int WI_True WI_False WGm_True WGm_False WGm_merge WGm_mergeD WGc_True WGc_False WGc_merge WGc_mergeD nxtG_eq wantV_IV wantV_b beq_tt beq_ff decide_eq_true_eq decide_eq_false_iff_not Bool.not_eq_true' Bool.and_eq_true Bool.or_eq_true Wp_dr
attribute [go_sem ↓] Wp_seq Wp_block Wp_skip Wp_exit Wp_ret Wp_test seqQ_normal seqQ_ret seqQ_exit blockQ_normal blockQ_ret blockQ_exit loopQ_normal loopQ_exit loopQ_ret Wp_regF Wp_drE aft1_mk aft2_mk w_move g_move w_assign g_assign w_pick g_pick w_alloc g_alloc w_box g_box w_build g_build w_buildSlice g_buildSlice w_load g_load w_store g_store w_nilCheck g_nilCheck w_binOp g_binOp w_unOp g_unOp w_convert g_convert w_makeInterface g_makeInterface w_makeFunc g_makeFunc w_makeSlice g_makeSlice w_slice g_slice w_fieldAddr g_fieldAddr w_field g_field w_indexAddr g_indexAddr w_index g_index w_makeMap g_makeMap w_lookup g_lookup w_mapUpdate g_mapUpdate w_extract g_extract w_builtin g_builtin w_call g_call nxt_mk nxtW_eq endQ_st WO_nil ovLook_putS ovLook_putn ovLook_cons lookOf_cons baseOf_eq rho_tmp rho_const rho_func keepS_cons keepS_nil gsl_eq gsl_zero gsl_succ op0_move op0_assign op0_pick op0_alloc op0_box op0_build op0_buildSlice op0_load op0_store op0_nilCheck op0_bin op0_notV op0_negV op0_conv op0_makeFunc op0_fieldAddr op0_field op0_extract op0_builtin op0_indexAddr op0_index op0_makeSlice
attribute [go_sem] stS_mk
attribute [go_sem low] WB_und WG_und WG_undC pickV_und WGm_split WGc_split
attribute [go_sem] ps3_2 ps3_14 ps9_2 ps10_5 ps12_15 ps14_13 ps14_14 ps17_5 ps22_1 ps23_1 ps25_1 ps36_1 ps39_17 ps45_5 ps47_1 ps48_8 ps49_5 ps49_7 ps55_4 ps55_6 ps56_10 ps57_10 ps59_3 ps60_5 ps60_11 ps60_16 ps60_17 ps60_22 ps60_23 ps61_1 ps61_3 ps61_5 ps61_8 ps62_1 ps62_3 ps62_5 ps62_8 ps62_10 ps62_13 ps62_15 ps62_18 ps62_21 ps67_10 ps70_3 ps70_5 ps70_6 ps72_1 ps72_2 ps72_3 ps75_1 ps78_1 ps81_7 ps81_8 ps81_9 ps81_10 ps81_17 ps81_18 ps81_23
end Go.Proofs
namespace Go.Proofs
open Go Go.Idl
set_option linter.unusedSimpArgs false
variable {b : Nat}
theorem mapR_map {α : Type} {inn : Vl → Option (Vl × List Nat)} {f g : α → Vl} {k : α → List Nat} : ∀ {l : List α}, (∀ x ∈ l, inn (f x) = some (g x, k x)) → mapR inn (l.map f) = some (l.map g, (l.map k).flatten)
  | [], _ => rfl
  | x :: l, h => by
    simp only [List.map_cons, mapR, h x List.mem_cons_self, Option.bind_some, mapR_map (l := l) fun y hy => h y (List.mem_cons_of_mem _ hy), Option.map_some, List.flatten_cons]
theorem reify_arrM {α : Type} {hp : Nat → Ob} {id n e : Nat} {f g : α → Vl} {k : α → List Nat} {l : List α} (h : hp id = .arr e (l.map f) ∨ hp id = .fro e (l.map f)) (hn : l.length = n) (hf : ∀ x ∈ l, reifyF (reifyF closedV hp) hp (f x) = some (g x, k x)) :
    reify hp (.own id n) = some (.lst e (l.map g) false, id :: (l.map k).flatten) := by
  unfold reify
  rcases h with h | h
  all_goals
    simp only [reifyF, h]
    rw [if_pos (by rw [List.length_map]; exact hn), mapR_map hf]
    rfl
theorem flat_nil {α : Type} {l : List α} : (l.map fun _ => ([] : List Nat)).flatten = [] := by induction l <;> simp_all
theorem reify_flat {α : Type} {hp : Nat → Ob} {id n e : Nat} {f : α → Vl} {l : List α} (h : hp id = .arr e (l.map f) ∨ hp id = .fro e (l.map f)) (hn : l.length = n) (hf : ∀ x, reifyF (reifyF closedV hp) hp (f x) = some (f x, [])) :
    reify hp (.own id n) = some (.lst e (l.map f) false, [id]) := by
  rw [reify_arrM (k := fun _ => []) h hn fun x _ => hf x, flat_nil]
mutual
theorem reify_closedV {inn : Vl → Option (Vl × List Nat)} {hp : Nat → Ob} : ∀ x : Vl, x.closed = true → reifyF inn hp x = some (x, [])
  | .int .., _ | .bool _, _ | .str _, _ | .nils, _ | .nilp, _ | .nilf, _ | .nili, _ | .nilm, _ | .undef, _ => rfl
  | .agg cs, h => by simp only [reifyF, reify_closedL cs h]; rfl
  | .tup cs, h => by simp only [reifyF, reify_closedL cs h]; rfl
  | .ifc t v, h => by simp only [reifyF, reify_closedV v h]; rfl
  | .fn f a c, h => by
    simp only [Vl.closed, Bool.and_eq_true] at h
    simp only [reifyF, reify_closedL a h.1, reify_closedL c h.2, Option.bind_some, Option.map_some]
    rfl
  | .lst e xs x, h => by
    have h : closedL xs = true := h
    simp only [reifyF, if_pos h]
  | .fp c o, h => by
    have h : c.closed = true := h
    simp only [reifyF, if_pos h]
  | .own .., h | .ep .., h | .bp .., h | .mp _, h | .yld _, h | .loc _, h => by cases h
theorem reify_closedL {inn : Vl → Option (Vl × List Nat)} {hp : Nat → Ob} : ∀ xs : List Vl, closedL xs = true → reifyL inn hp xs = some (xs, [])
  | [], _ => rfl
  | x :: xs, h => by
    simp only [closedL, Bool.and_eq_true] at h
    simp only [reifyL, reify_closedV x h.1, reify_closedL xs h.2, Option.bind_some, Option.map_some]
    rfl
end
theorem rfC {hp : Nat → Ob} {x : Vl} (h : x.closed = true) : reify hp x = some (x, []) := reify_closedV x h
theorem rfAs {m : Mem} : ∀ {xs : List Vl}, closedL xs = true → reifyAs m (xs.map .v) = some (xs, [], false)
  | [], _ => rfl
  | x :: xs, h => by
    simp only [closedL, Bool.and_eq_true] at h
    simp only [List.map_cons, reifyAs_v, rfC h.1, rfAs h.2, Option.bind_some, Option.map_some]
    rfl
theorem closedL_map {α : Type} {f : α → Vl} (h : ∀ x, (f x).closed = true) : ∀ l : List α, closedL (l.map f) = true
  | [] => rfl
  | x :: l => by simp only [List.map_cons, closedL, h x, closedL_map h l, Bool.and_self]
theorem reify_fnbp {hp : Nat → Ob} {f : Fn} {id : Nat} {c : Vl} (h : hp id = .box c) (hc : c.closed = true) : reify hp (.fn f [] [.bp id 0]) = some (.fn f [] [.fp c 0], [id]) := by
  unfold reify
  simp only [reifyF, reifyL, h, reify_closedV c hc, Option.bind_some, Option.map_some]
  rfl
theorem reify_fp0 {f : Fn} {c : Vl} (hc : c.closed = true) : (Vl.fn f [] [.fp c 0]).closed = true := by simp only [Vl.closed, closedL, hc, Bool.and_self]
theorem take_snoc {α : Type} [Inhabited α] {L : List α} {j : Nat} (h : j < L.length) : L.take (j + 1) = L.take j ++ [L[j]!] := by
  rw [get!_eq h]; exact List.take_succ_eq_append_getElem h
def mkIfcV (k : TK) (t : TypeId) (x : Vl) (m : Mem) : Option (Arg × Mem) := match k with
  | .iface | .other => none
  | _ => if x.undef? then none else some (.v (.ifc t x), m)
theorem op0_makeInterface {P : Program} {L : List Nat} {d : Option Nat} {ρ : Operand → Arg} {m : Mem} {t : TypeId} {x : Operand} : op0 P L d (.makeInterface t x) ρ m = mkIfcV (tdOf P t).k t (ρ x).vl m := rfl
theorem mkIfcV_agg {t : TypeId} {fs : List (Nat × Bool × Nat)} {cs : List Vl} {m : Mem} : mkIfcV (.struct fs) t (.agg cs) m = some (.v (.ifc t (.agg cs)), m) := rfl
attribute [go_sem] op0_makeInterface mkIfcV_agg
end Go.Proofs
namespace Go.Proofs
open Go Go.Idl
set_option linter.unusedSimpArgs false
variable {b : Nat}
@[reducible] def I (n : Int) : Vl := .int .i64 n
@[reducible] def Sp (lo hi : Int) : Vl := .agg [I lo, I hi]
@[reducible] def U (n : Int) : Vl := .int .u64 n
theorem conv_n {n : Int} (h1 : 0 ≤ n) (h2 : n < 9223372036854775808) : IntKind.wrap .u64 n = n := by
  show (if (false && decide (n % 18446744073709551616 ≥ 2 ^ 63)) = true then n % 18446744073709551616 - 18446744073709551616 else n % 18446744073709551616) = n
  simp only [Bool.false_and, Bool.false_eq_true, if_false]
  omega
def urnAt (u : Nat) (hp : Nat → Ob) : Int × Int := match hp u with
  | .box (.agg [.int .u64 x, .int .u64 y]) => (x, y)
  | _ => (0, 0)
def UrnOk (u : Nat) (hp : Nat → Ob) : Prop := hp u = .box (.agg [U (urnAt u hp).1, U (urnAt u hp).2])
@[reducible] def urnO (s : Int × Int) : Ob := .box (.agg [U s.1, U s.2])
theorem urnAt_upd {u : Nat} {hp : Nat → Ob} {x y : Int} : urnAt u (upd hp u (.box (.agg [.int .u64 x, .int .u64 y]))) = (x, y) := by unfold urnAt; rw [upd_same]
theorem UrnOk_upd {u : Nat} {hp : Nat → Ob} {x y : Int} : UrnOk u (upd hp u (.box (.agg [.int .u64 x, .int .u64 y]))) := by unfold UrnOk; rw [urnAt_upd, upd_same]
theorem upd_self {hp : Nat → Ob} {u : Nat} {o : Ob} (h : hp u = o) : upd hp u o = hp := by
  funext j
  unfold upd
  split
  · rename_i e; rw [e, h]
  · rfl
section
variable {u : Nat} {m : Mem} {K : Vl → Mem → Prop}
end
attribute [go_sem] UrnOk_upd urnAt_upd
section
variable {u : Nat} {m : Mem} {K : Vl → Mem → Prop}
end
section
variable {u : Nat} {m : Mem} {K : Vl → Mem → Prop}
end
section
variable {u : Nat} {m : Mem} {K : Vl → Mem → Prop}
end
section
variable {u : Nat} {m : Mem} {K : Vl → Mem → Prop} {o : Bool}
end
end Go.Proofs
namespace Go.Proofs
open Go Go.Idl Go.Dt
set_option linter.unusedSimpArgs false
variable {b : Nat}
attribute [go_sem low] upd_ne
attribute [go_sem] endSt_normal endSt_ret endSt_exit
attribute [go_sem] Int.toNat_natCast
theorem wr_pred {i : Nat} (h : 0 < (i : Int)) (h2 : (i : Int) < 4000000000) : IntKind.wrap .i64 ((i : Int) - 1) = ((i - 1 : Nat) : Int) := by rw [wrap_i64 (by omega) (by omega)]; omega
theorem wr_succ {i : Nat} (h2 : (i : Int) < 4000000000) : IntKind.wrap .i64 ((i : Int) + 1) = ((i + 1 : Nat) : Int) := by rw [wrap_i64 (by omega) (by omega)]; omega
attribute [go_sem high] wr_pred wr_succ
attribute [go_sem low] wrap_i64
theorem in_to (n lo hi : Int) : Ans Tryd.prog (AA b) 27 [I n, I lo, I hi] (fun v => v = .bool (decide (lo ≤ n) && decide (n ≤ hi))) := by
  refine Ans_of Tryd.func27 rfl rfl ?_
  by_cases h : lo ≤ n
  · simp +contextual (maxSteps := 1000000) (disch := first | omega | (with_reducible first | refine krN ?_ | refine krS ?_ | refine krP ?_ | refine krG ?_); kernel_rfl | refine kr ?_; simp only [go_sem, reduceCtorEq, h]; done | fail) only [go_sem, seval, -List.reduceReplicate, h]
  · simp +contextual (maxSteps := 1000000) (disch := first | omega | (with_reducible first | refine krN ?_ | refine krS ?_ | refine krP ?_ | refine krG ?_); kernel_rfl | refine kr ?_; simp only [go_sem, reduceCtorEq, h]; done | fail) only [go_sem, seval, -List.reduceReplicate, h]
section
variable {m : Mem} {K : Vl → Mem → Prop}
theorem wc27 (n lo hi : Int) : WC Tryd.prog (AA b) (.fn (.func 27) [] []) [.v (I n), .v (I lo), .v (I hi)] m K = K (.bool (decide (lo ≤ n) && decide (n ≤ hi))) m := WC_flat rfl rfl (in_to n lo hi) rfl
end
attribute [go_sem] wc27
theorem stone_to (n : Int) : Ans Tryd.prog (AA b) 24 [I n] (fun v => v = I (IntKind.wrap .i64 (1 + n))) := by
  refine Ans_of Tryd.func24 rfl rfl ?_
  simp +contextual (maxSteps := 1000000) (disch := first | omega | (with_reducible first | refine krN ?_ | refine krS ?_ | refine krP ?_ | refine krG ?_); kernel_rfl | refine kr ?_; simp only [go_sem, reduceCtorEq]; done | fail) only [go_sem, seval, -List.reduceReplicate]
theorem era_to (n : Int) : Ans Tryd.prog (AA b) 26 [I n] (fun v => v = I (IntKind.wrap .i64 (7 + n))) := by
  refine Ans_of Tryd.func26 rfl rfl ?_
  simp +contextual (maxSteps := 1000000) (disch := first | omega | (with_reducible first | refine krN ?_ | refine krS ?_ | refine krP ?_ | refine krG ?_); kernel_rfl | refine kr ?_; simp only [go_sem, reduceCtorEq]; done | fail) only [go_sem, seval, -List.reduceReplicate]
theorem verdict_to (a n : Bool) : Ans Tryd.prog (AA b) 28 [.bool a, .bool n] (fun r => r = I (verdT a n)) := by
  refine Ans_of Tryd.func28 rfl rfl ?_
  cases a <;> cases n <;> simp +contextual (maxSteps := 1000000) (disch := first | omega | (with_reducible first | refine krN ?_ | refine krS ?_ | refine krP ?_ | refine krG ?_); kernel_rfl | refine kr ?_; simp only [go_sem, reduceCtorEq]; done | fail) only [go_sem, seval, -List.reduceReplicate] <;> rfl
def spanE (lo hi : Int) : Int := if ¬ (-3000 ≤ lo ∧ lo ≤ 3000) ∨ ¬ (-3000 ≤ hi ∧ hi ≤ 3000) then 1 else if lo > hi then 5 else 0
theorem span_to (lo hi : Int) : Ans Tryd.prog (AA b) 18 [Sp lo hi] (fun v => v = I (spanE lo hi)) := by
  refine Ans_of Tryd.func18 rfl rfl ?_
  by_cases h1 : -3000 ≤ lo ∧ lo ≤ 3000
  · by_cases h2 : -3000 ≤ hi ∧ hi ≤ 3000
    · by_cases h3 : lo > hi
      · simp +contextual (maxSteps := 1000000) (disch := first | omega | (with_reducible first | refine krN ?_ | refine krS ?_ | refine krP ?_ | refine krG ?_); kernel_rfl | refine kr ?_; simp only [go_sem, reduceCtorEq, h1, h2, h3]; done | fail) only [go_sem, seval, -List.reduceReplicate, h1, h2, h3]
        rw [spanE, if_neg (by omega), if_pos h3]
      · simp +contextual (maxSteps := 1000000) (disch := first | omega | (with_reducible first | refine krN ?_ | refine krS ?_ | refine krP ?_ | refine krG ?_); kernel_rfl | refine kr ?_; simp only [go_sem, reduceCtorEq, h1, h2, h3]; done | fail) only [go_sem, seval, -List.reduceReplicate, h1, h2, h3]
        rw [spanE, if_neg (by omega), if_neg h3]
    · have h2' : -3000 ≤ hi → ¬ hi ≤ 3000 := fun a c => h2 ⟨a, c⟩
      by_cases h4 : -3000 ≤ hi
      · simp +contextual (maxSteps := 1000000) (disch := first | omega | (with_reducible first | refine krN ?_ | refine krS ?_ | refine krP ?_ | refine krG ?_); kernel_rfl | refine kr ?_; simp only [go_sem, reduceCtorEq, h1, h4, h2' h4]; done | fail) only [go_sem, seval, -List.reduceReplicate, h1, h4, h2' h4]
        rw [spanE, if_pos (.inr h2)]
      · simp +contextual (maxSteps := 1000000) (disch := first | omega | (with_reducible first | refine krN ?_ | refine krS ?_ | refine krP ?_ | refine krG ?_); kernel_rfl | refine kr ?_; simp only [go_sem, reduceCtorEq, h1, h4]; done | fail) only [go_sem, seval, -List.reduceReplicate, h1, h4]
        rw [spanE, if_pos (.inr h2)]
  · by_cases h4 : -3000 ≤ lo
    · have h5 : ¬ lo ≤ 3000 := fun c => h1 ⟨h4, c⟩
      simp +contextual (maxSteps := 1000000) (disch := first | omega | (with_reducible first | refine krN ?_ | refine krS ?_ | refine krP ?_ | refine krG ?_); kernel_rfl | refine kr ?_; simp only [go_sem, reduceCtorEq, h4, h5]; done | fail) only [go_sem, seval, -List.reduceReplicate, h4, h5]
      rw [spanE, if_pos (.inl h1)]
    · simp +contextual (maxSteps := 1000000) (disch := first | omega | (with_reducible first | refine krN ?_ | refine krS ?_ | refine krP ?_ | refine krG ?_); kernel_rfl | refine kr ?_; simp only [go_sem, reduceCtorEq, h4]; done | fail) only [go_sem, seval, -List.reduceReplicate, h4]
      rw [spanE, if_pos (.inl h1)]
section
variable {m : Mem} {K : Vl → Mem → Prop}
theorem wc24 (n : Int) : WC Tryd.prog (AA b) (.fn (.func 24) [] []) [.v (.int .i64 n)] m K = K (I (IntKind.wrap .i64 (1 + n))) m := WC_flat rfl rfl (stone_to n) rfl
theorem wc26 (n : Int) : WC Tryd.prog (AA b) (.fn (.func 26) [] []) [.v (.int .i64 n)] m K = K (I (IntKind.wrap .i64 (7 + n))) m := WC_flat rfl rfl (era_to n) rfl
theorem wc28 (a n : Bool) : WC Tryd.prog (AA b) (.fn (.func 28) [] []) [.v (.bool a), .v (.bool n)] m K = K (I (verdT a n)) m := WC_flat rfl rfl (verdict_to a n) rfl
theorem wc18 (lo hi : Int) : WC Tryd.prog (AA b) (.fn (.func 18) [] []) [.v (.agg [.int .i64 lo, .int .i64 hi])] m K = K (I (spanE lo hi)) m := WC_flat rfl rfl (span_to lo hi) rfl
end
attribute [go_sem] wc24 wc26 wc28 wc18
end Go.Proofs
