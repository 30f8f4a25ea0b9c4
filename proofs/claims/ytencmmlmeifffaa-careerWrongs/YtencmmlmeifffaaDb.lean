/- What functions of the given program do in the ideal machine (D7), and the plain laws of what they answer; the conditions stand in each theorem. -/
import Derived.Test.YtencmmlmeifffaaEc
import Derived.Test.YtencmmlmeifffaaIe
set_option linter.all false
set_option linter.unusedSectionVars false
set_option linter.unusedSimpArgs false
set_option linter.unusedVariables false
namespace Go.Proofs
open Go Go.Idl
def psT : Nat → Nat → List (Nat × Nat)
  | 5, 3 => [(0, 2), (0, 3)]
  | 16, 5 => [(1, 2)]
  | 17, 5 => [(1, 3), (1, 5), (1, 7)]
  | 17, 10 => [(1, 3)]
  | 17, 14 => [(1, 7), (3, 7), (4, 7)]
  | 17, 22 => [(6, 4)]
  | 17, 23 => [(1, 3), (1, 6), (1, 9)]
  | 17, 32 => [(8, 6)]
  | 17, 36 => [(6, 4)]
  | 17, 37 => [(1, 2)]
  | 19, 2 => [(6, 3), (10, 3), (10, 7)]
  | 19, 6 => [(1, 7)]
  | 30, 5 => [(1, 6)]
  | 52, 6 => [(6, 11), (8, 11), (9, 11)]
  | 57, 1 => [(2, 1), (4, 1), (4, 3)]
  | 69, 5 => [(5, 1), (5, 3), (7, 1), (7, 3), (7, 9), (8, 3)]
  | 69, 10 => [(3, 1)]
  | 69, 18 => [(1, 2)]
  | 70, 15 => [(14, 9), (17, 9)]
  | 70, 16 => [(14, 9), (17, 9)]
  | 75, 8 => [(5, 3), (6, 3), (8, 3), (9, 3), (12, 3), (12, 10)]
  | 77, 5 => [(3, 2), (7, 2), (7, 5)]
  | 77, 11 => [(5, 3), (9, 3), (9, 6), (12, 3), (12, 6)]
  | 77, 12 => [(4, 3), (6, 3)]
  | 77, 16 => [(4, 3), (9, 3), (9, 6), (12, 3), (12, 6), (12, 11), (14, 3), (14, 6), (14, 11)]
  | 77, 22 => [(4, 3), (8, 3), (8, 6), (10, 3), (10, 6), (11, 3), (11, 6), (13, 3), (13, 6)]
  | 78, 8 => [(6, 12), (8, 12), (9, 12)]
  | 78, 11 => [(3, 2)]
  | 81, 6 => [(2, 9)]
  | 82, 7 => [(0, 9), (1, 9)]
  | 82, 14 => [(9, 7), (11, 7), (13, 7)]
  | 83, 5 => [(5, 10), (6, 10), (7, 10)]
  | 83, 6 => [(9, 7), (11, 7), (13, 7)]
  | 83, 9 => [(3, 7), (5, 7)]
  | 89, 6 => [(0, 2), (0, 5)]
  | 98, 3 => [(15, 11), (15, 13)]
  | 98, 10 => [(4, 2), (8, 2), (8, 5), (8, 12), (8, 15), (8, 23), (8, 26), (11, 2), (11, 5), (14, 2), (14, 5), (14, 12), (18, 2), (18, 5), (18, 12), (18, 15), (18, 23), (18, 26), (22, 2), (22, 5), (22, 12), (22, 15), (25, 2), (25, 5), (25, 12), (25, 15), (25, 23)]
  | 98, 11 => [(9, 2), (9, 4), (9, 7)]
  | 99, 1 => [(6, 12), (7, 12), (8, 12), (9, 12)]
  | 99, 7 => [(3, 2), (6, 2), (6, 4), (8, 2), (8, 4), (8, 7)]
  | 99, 18 => [(2, 1)]
  | 100, 1 => [(2, 1), (7, 1), (7, 3), (9, 1), (9, 3), (9, 8)]
  | _, _ => []
theorem ps5_3 : psT 5 3 = [(0, 2), (0, 3)] := rfl
theorem ps5_11 : psT 5 11 = [] := rfl
theorem ps16_5 : psT 16 5 = [(1, 2)] := rfl
theorem ps17_5 : psT 17 5 = [(1, 3), (1, 5), (1, 7)] := rfl
theorem ps17_10 : psT 17 10 = [(1, 3)] := rfl
theorem ps17_14 : psT 17 14 = [(1, 7), (3, 7), (4, 7)] := rfl
theorem ps17_15 : psT 17 15 = [] := rfl
theorem ps17_22 : psT 17 22 = [(6, 4)] := rfl
theorem ps17_23 : psT 17 23 = [(1, 3), (1, 6), (1, 9)] := rfl
theorem ps17_30 : psT 17 30 = [] := rfl
theorem ps17_31 : psT 17 31 = [] := rfl
theorem ps17_32 : psT 17 32 = [(8, 6)] := rfl
theorem ps17_33 : psT 17 33 = [] := rfl
theorem ps17_36 : psT 17 36 = [(6, 4)] := rfl
theorem ps17_37 : psT 17 37 = [(1, 2)] := rfl
theorem ps18_5 : psT 18 5 = [] := rfl
theorem ps19_2 : psT 19 2 = [(6, 3), (10, 3), (10, 7)] := rfl
theorem ps19_6 : psT 19 6 = [(1, 7)] := rfl
theorem ps25_28 : psT 25 28 = [] := rfl
theorem ps26_5 : psT 26 5 = [] := rfl
theorem ps27_5 : psT 27 5 = [] := rfl
theorem ps27_9 : psT 27 9 = [] := rfl
theorem ps27_13 : psT 27 13 = [] := rfl
theorem ps27_17 : psT 27 17 = [] := rfl
theorem ps28_14 : psT 28 14 = [] := rfl
theorem ps30_5 : psT 30 5 = [(1, 6)] := rfl
theorem ps30_8 : psT 30 8 = [] := rfl
theorem ps30_10 : psT 30 10 = [] := rfl
theorem ps32_11 : psT 32 11 = [] := rfl
theorem ps33_5 : psT 33 5 = [] := rfl
theorem ps45_12 : psT 45 12 = [] := rfl
theorem ps52_1 : psT 52 1 = [] := rfl
theorem ps52_6 : psT 52 6 = [(6, 11), (8, 11), (9, 11)] := rfl
theorem ps52_9 : psT 52 9 = [] := rfl
theorem ps53_1 : psT 53 1 = [] := rfl
theorem ps53_5 : psT 53 5 = [] := rfl
theorem ps57_1 : psT 57 1 = [(2, 1), (4, 1), (4, 3)] := rfl
theorem ps60_13 : psT 60 13 = [] := rfl
theorem ps64_8 : psT 64 8 = [] := rfl
theorem ps64_13 : psT 64 13 = [] := rfl
theorem ps68_5 : psT 68 5 = [] := rfl
theorem ps69_5 : psT 69 5 = [(5, 1), (5, 3), (7, 1), (7, 3), (7, 9), (8, 3)] := rfl
theorem ps69_10 : psT 69 10 = [(3, 1)] := rfl
theorem ps69_18 : psT 69 18 = [(1, 2)] := rfl
theorem ps70_14 : psT 70 14 = [] := rfl
theorem ps70_15 : psT 70 15 = [(14, 9), (17, 9)] := rfl
theorem ps70_16 : psT 70 16 = [(14, 9), (17, 9)] := rfl
theorem ps70_17 : psT 70 17 = [] := rfl
theorem ps75_8 : psT 75 8 = [(5, 3), (6, 3), (8, 3), (9, 3), (12, 3), (12, 10)] := rfl
theorem ps75_15 : psT 75 15 = [] := rfl
theorem ps77_5 : psT 77 5 = [(3, 2), (7, 2), (7, 5)] := rfl
theorem ps77_11 : psT 77 11 = [(5, 3), (9, 3), (9, 6), (12, 3), (12, 6)] := rfl
theorem ps77_12 : psT 77 12 = [(4, 3), (6, 3)] := rfl
theorem ps77_16 : psT 77 16 = [(4, 3), (9, 3), (9, 6), (12, 3), (12, 6), (12, 11), (14, 3), (14, 6), (14, 11)] := rfl
theorem ps77_22 : psT 77 22 = [(4, 3), (8, 3), (8, 6), (10, 3), (10, 6), (11, 3), (11, 6), (13, 3), (13, 6)] := rfl
theorem ps78_8 : psT 78 8 = [(6, 12), (8, 12), (9, 12)] := rfl
theorem ps78_10 : psT 78 10 = [] := rfl
theorem ps78_11 : psT 78 11 = [(3, 2)] := rfl
theorem ps81_6 : psT 81 6 = [(2, 9)] := rfl
theorem ps82_7 : psT 82 7 = [(0, 9), (1, 9)] := rfl
theorem ps82_14 : psT 82 14 = [(9, 7), (11, 7), (13, 7)] := rfl
theorem ps83_5 : psT 83 5 = [(5, 10), (6, 10), (7, 10)] := rfl
theorem ps83_6 : psT 83 6 = [(9, 7), (11, 7), (13, 7)] := rfl
theorem ps83_9 : psT 83 9 = [(3, 7), (5, 7)] := rfl
theorem ps84_4 : psT 84 4 = [] := rfl
theorem ps89_6 : psT 89 6 = [(0, 2), (0, 5)] := rfl
theorem ps92_9 : psT 92 9 = [] := rfl
theorem ps92_10 : psT 92 10 = [] := rfl
theorem ps92_11 : psT 92 11 = [] := rfl
theorem ps92_12 : psT 92 12 = [] := rfl
theorem ps92_13 : psT 92 13 = [] := rfl
theorem ps92_14 : psT 92 14 = [] := rfl
theorem ps98_3 : psT 98 3 = [(15, 11), (15, 13)] := rfl
theorem ps98_10 : psT 98 10 = [(4, 2), (8, 2), (8, 5), (8, 12), (8, 15), (8, 23), (8, 26), (11, 2), (11, 5), (14, 2), (14, 5), (14, 12), (18, 2), (18, 5), (18, 12), (18, 15), (18, 23), (18, 26), (22, 2), (22, 5), (22, 12), (22, 15), (25, 2), (25, 5), (25, 12), (25, 15), (25, 23)] := rfl
theorem ps98_11 : psT 98 11 = [(9, 2), (9, 4), (9, 7)] := rfl
theorem ps99_1 : psT 99 1 = [(6, 12), (7, 12), (8, 12), (9, 12)] := rfl
theorem ps99_2 : psT 99 2 = [] := rfl
theorem ps99_7 : psT 99 7 = [(3, 2), (6, 2), (6, 4), (8, 2), (8, 4), (8, 7)] := rfl
theorem ps99_18 : psT 99 18 = [(2, 1)] := rfl
theorem ps100_1 : psT 100 1 = [(2, 1), (7, 1), (7, 3), (9, 1), (9, 3), (9, 8)] := rfl
section
variable {b : Bool} {ro : Option Nat} {f id : Nat} {ops : Array Oper} {s : FS} {Q : XE → FS → Prop}
theorem Wp_dr (hst : staticOk (fun d => (locT f).elem d) ops = true) (hps : loosePairs (fun d => (locT f).elem d) ops = psT f id) (hn : nodupI (allocDs ops.toList) = true) :
    Wp Try.prog (AA b) ro f (.region id ops true) s Q =
      OB (Od (ghosts (ghoT f id) s)) fun s1 => WD Try.prog (AA b) (locT f) ops (baseOf s1.sl (allocDs ops.toList)) (psT f id) 0 ops.toList [] [] [] { lc := [], hp := s1.hp, nx := s1.nx } (endQ (keepT f id) (baseOf s1.sl (allocDs ops.toList)) Q) := Wp_draw hst hps hn
theorem Wp_drE {l : List Oper} (h0 : psT f id = []) (hst : staticOk (fun d => (locT f).elem d) l.toArray = true) (hps : loosePairs (fun d => (locT f).elem d) l.toArray = psT f id) (hn : nodupI (allocDs l) = true) :
    Wp Try.prog (AA b) ro f (.region id l.toArray true) s Q = OB (Od (ghosts (ghoT f id) s)) (aft1 Try.prog (AA b) (locT f) (keepT f id) l Q) := Wp_drF hst (hps.trans h0) hn
end
attribute [go_sem] not_false_eq_true not_true_eq_false Decidable.not_not D_eq D_ff D_True D_False IA_True IA_False IV_True IV_False IA_v IV_same IV_and IV_or IV_nand IV_imp IV_int WI_True WI_False WGm_True WGm_False WGm_merge WGm_mergeD WGc_True WGc_False WGc_merge WGc_mergeD nxtG_eq wantV_IV wantV_b beq_tt beq_ff decide_eq_true_eq decide_eq_false_iff_not Bool.not_eq_true' Bool.and_eq_true Bool.or_eq_true Wp_dr
attribute [go_sem ↓] Wp_seq Wp_block Wp_skip Wp_exit Wp_ret Wp_test seqQ_normal seqQ_ret seqQ_exit blockQ_normal blockQ_ret blockQ_exit loopQ_normal loopQ_exit loopQ_ret Wp_regF Wp_drE aft1_mk aft2_mk w_move g_move w_assign g_assign w_pick g_pick w_alloc g_alloc w_box g_box w_build g_build w_buildSlice g_buildSlice w_load g_load w_store g_store w_nilCheck g_nilCheck w_binOp g_binOp w_unOp g_unOp w_convert g_convert w_makeInterface g_makeInterface w_makeFunc g_makeFunc w_makeSlice g_makeSlice w_slice g_slice w_fieldAddr g_fieldAddr w_field g_field w_indexAddr g_indexAddr w_index g_index w_makeMap g_makeMap w_lookup g_lookup w_mapUpdate g_mapUpdate w_extract g_extract w_builtin g_builtin w_call g_call nxt_mk nxtW_eq endQ_st WO_nil ovLook_putS ovLook_putn ovLook_cons lookOf_cons baseOf_eq rho_tmp rho_const rho_func keepS_cons keepS_nil gsl_eq gsl_zero gsl_succ op0_move op0_assign op0_pick op0_alloc op0_box op0_build op0_buildSlice op0_load op0_store op0_nilCheck op0_bin op0_notV op0_negV op0_conv op0_makeFunc op0_fieldAddr op0_field op0_extract op0_builtin op0_indexAddr op0_index op0_makeSlice
attribute [go_sem] stS_mk
attribute [go_sem low] WB_und WG_und WG_undC pickV_und WGm_split WGc_split
attribute [go_sem] ps5_3 ps5_11 ps16_5 ps17_5 ps17_10 ps17_14 ps17_15 ps17_22 ps17_23 ps17_30 ps17_31 ps17_32 ps17_33 ps17_36 ps17_37 ps18_5 ps19_2 ps19_6 ps25_28 ps26_5 ps27_5 ps27_9 ps27_13 ps27_17 ps28_14 ps30_5 ps30_8 ps30_10 ps32_11 ps33_5 ps45_12 ps52_1 ps52_6 ps52_9 ps53_1 ps53_5 ps57_1 ps60_13 ps64_8 ps64_13 ps68_5 ps69_5 ps69_10 ps69_18 ps70_14 ps70_15 ps70_16 ps70_17 ps75_8 ps75_15 ps77_5 ps77_11 ps77_12 ps77_16 ps77_22 ps78_8 ps78_10 ps78_11 ps81_6 ps82_7 ps82_14 ps83_5 ps83_6 ps83_9 ps84_4 ps89_6 ps92_9 ps92_10 ps92_11 ps92_12 ps92_13 ps92_14 ps98_3 ps98_10 ps98_11 ps99_1 ps99_2 ps99_7 ps99_18 ps100_1
end Go.Proofs
