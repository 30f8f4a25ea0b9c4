/- What functions of the given program do in the ideal machine (JR, JG, J1, J2), and the plain laws of what they answer; the conditions stand in each theorem. -/
import Derived.Test.YtoamjmokonnglaaDa
import Derived.Test.YtoamjmokonnglaaIf
import Derived.Test.YtoamjmokonnglaaTb
set_option linter.all false
set_option linter.unusedSectionVars false
set_option linter.unusedSimpArgs false
set_option linter.unusedVariables false
namespace Go.Proofs
open Go Go.Idl
def psT : Nat → Nat → List (Nat × Nat)
  | 4, 13 => [(2, 18), (3, 18)]
  | 4, 18 => [(6, 3)]
  | 4, 28 => [(2, 16), (3, 16)]
  | 7, 15 => [(4, 1), (5, 1)]
  | 8, 6 => [(0, 22), (0, 30), (0, 38), (1, 22), (1, 30), (1, 38), (2, 22), (2, 30), (2, 38), (3, 22), (3, 30), (3, 38), (12, 22), (12, 30), (12, 38), (14, 22), (14, 30), (14, 38), (15, 22), (15, 30), (15, 38), (17, 22), (17, 30), (17, 38), (19, 22), (19, 30), (19, 38), (20, 22), (20, 30), (20, 38), (29, 22), (37, 22), (37, 30)]
  | 9, 4 => [(1, 7), (1, 9), (3, 7), (3, 9), (4, 7), (4, 9)]
  | 9, 14 => [(16, 20), (17, 20)]
  | 10, 15 => [(1, 7), (1, 9), (1, 14), (3, 7), (3, 9), (3, 14), (4, 7), (4, 9), (4, 14), (13, 7), (13, 9)]
  | 11, 3 => [(0, 1)]
  | 11, 14 => [(4, 1)]
  | 12, 7 => [(1, 14)]
  | 12, 9 => [(1, 6), (3, 6), (4, 6)]
  | 12, 10 => [(1, 6), (1, 8)]
  | 12, 29 => [(1, 6), (1, 11), (3, 6), (3, 11), (4, 6), (4, 11), (10, 6)]
  | 17, 7 => [(1, 7)]
  | 17, 12 => [(1, 5), (9, 5), (9, 7)]
  | 17, 16 => [(6, 3)]
  | 17, 39 => [(1, 2)]
  | 22, 12 => [(0, 2)]
  | 24, 5 => [(6, 12), (8, 12), (9, 12)]
  | 25, 1 => [(1, 4)]
  | 25, 9 => [(1, 3)]
  | 26, 5 => [(1, 19)]
  | 31, 13 => [(0, 2), (0, 4)]
  | 41, 15 => [(0, 2)]
  | 42, 16 => [(2, 5), (3, 5)]
  | 43, 13 => [(4, 8), (4, 12), (6, 8), (6, 12), (9, 12), (10, 12)]
  | 43, 14 => [(4, 8), (4, 12), (6, 8), (6, 12), (9, 12), (10, 12)]
  | 46, 5 => [(1, 3)]
  | 46, 9 => [(1, 4)]
  | 46, 11 => [(1, 3)]
  | 46, 15 => [(5, 2)]
  | 47, 5 => [(0, 4), (0, 7), (1, 4), (1, 7)]
  | 47, 12 => [(0, 6), (0, 9), (1, 6), (1, 9), (3, 6), (3, 9)]
  | 49, 1 => [(2, 7), (12, 7), (12, 9), (12, 17), (16, 7), (16, 9)]
  | 55, 2 => [(1, 2)]
  | 65, 8 => [(0, 6), (0, 9), (3, 6), (8, 6)]
  | 65, 10 => [(0, 7), (0, 10), (0, 20), (3, 7), (3, 10), (9, 7), (13, 7), (13, 10), (17, 7), (17, 10)]
  | 65, 12 => [(0, 6), (0, 9), (0, 12), (3, 6), (3, 9), (8, 6), (11, 6), (11, 9)]
  | 65, 17 => [(1, 7), (1, 19), (4, 7), (9, 7), (11, 7), (12, 7), (14, 7), (16, 7), (17, 7)]
  | 66, 16 => [(0, 2)]
  | 66, 20 => [(0, 3), (5, 3), (7, 3), (8, 3)]
  | 69, 1 => [(0, 2)]
  | 74, 4 => [(0, 2)]
  | 77, 1 => [(0, 2)]
  | 94, 5 => [(2, 1)]
  | 96, 1 => [(24, 30), (32, 30)]
  | 97, 8 => [(3, 1), (5, 1), (7, 1), (9, 1), (9, 8)]
  | 98, 5 => [(5, 2), (9, 2)]
  | 98, 7 => [(4, 2)]
  | _, _ => []
theorem ps3_13 : psT 3 13 = [] := rfl
theorem ps3_21 : psT 3 21 = [] := rfl
theorem ps4_13 : psT 4 13 = [(2, 18), (3, 18)] := rfl
theorem ps4_18 : psT 4 18 = [(6, 3)] := rfl
theorem ps4_28 : psT 4 28 = [(2, 16), (3, 16)] := rfl
theorem ps5_8 : psT 5 8 = [] := rfl
theorem ps6_13 : psT 6 13 = [] := rfl
theorem ps6_22 : psT 6 22 = [] := rfl
theorem ps7_15 : psT 7 15 = [(4, 1), (5, 1)] := rfl
theorem ps8_6 : psT 8 6 = [(0, 22), (0, 30), (0, 38), (1, 22), (1, 30), (1, 38), (2, 22), (2, 30), (2, 38), (3, 22), (3, 30), (3, 38), (12, 22), (12, 30), (12, 38), (14, 22), (14, 30), (14, 38), (15, 22), (15, 30), (15, 38), (17, 22), (17, 30), (17, 38), (19, 22), (19, 30), (19, 38), (20, 22), (20, 30), (20, 38), (29, 22), (37, 22), (37, 30)] := rfl
theorem ps8_11 : psT 8 11 = [] := rfl
theorem ps8_12 : psT 8 12 = [] := rfl
theorem ps8_13 : psT 8 13 = [] := rfl
theorem ps8_14 : psT 8 14 = [] := rfl
theorem ps8_15 : psT 8 15 = [] := rfl
theorem ps9_4 : psT 9 4 = [(1, 7), (1, 9), (3, 7), (3, 9), (4, 7), (4, 9)] := rfl
theorem ps9_14 : psT 9 14 = [(16, 20), (17, 20)] := rfl
theorem ps9_16 : psT 9 16 = [] := rfl
theorem ps10_10 : psT 10 10 = [] := rfl
theorem ps10_15 : psT 10 15 = [(1, 7), (1, 9), (1, 14), (3, 7), (3, 9), (3, 14), (4, 7), (4, 9), (4, 14), (13, 7), (13, 9)] := rfl
theorem ps10_18 : psT 10 18 = [] := rfl
theorem ps11_3 : psT 11 3 = [(0, 1)] := rfl
theorem ps11_14 : psT 11 14 = [(4, 1)] := rfl
theorem ps11_26 : psT 11 26 = [] := rfl
theorem ps11_35 : psT 11 35 = [] := rfl
theorem ps11_36 : psT 11 36 = [] := rfl
theorem ps12_7 : psT 12 7 = [(1, 14)] := rfl
theorem ps12_9 : psT 12 9 = [(1, 6), (3, 6), (4, 6)] := rfl
theorem ps12_10 : psT 12 10 = [(1, 6), (1, 8)] := rfl
theorem ps12_24 : psT 12 24 = [] := rfl
theorem ps12_29 : psT 12 29 = [(1, 6), (1, 11), (3, 6), (3, 11), (4, 6), (4, 11), (10, 6)] := rfl
theorem ps12_34 : psT 12 34 = [] := rfl
theorem ps14_16 : psT 14 16 = [] := rfl
theorem ps16_5 : psT 16 5 = [] := rfl
theorem ps17_7 : psT 17 7 = [(1, 7)] := rfl
theorem ps17_12 : psT 17 12 = [(1, 5), (9, 5), (9, 7)] := rfl
theorem ps17_16 : psT 17 16 = [(6, 3)] := rfl
theorem ps17_39 : psT 17 39 = [(1, 2)] := rfl
theorem ps22_11 : psT 22 11 = [] := rfl
theorem ps22_12 : psT 22 12 = [(0, 2)] := rfl
theorem ps23_5 : psT 23 5 = [] := rfl
theorem ps24_5 : psT 24 5 = [(6, 12), (8, 12), (9, 12)] := rfl
theorem ps25_1 : psT 25 1 = [(1, 4)] := rfl
theorem ps25_5 : psT 25 5 = [] := rfl
theorem ps25_9 : psT 25 9 = [(1, 3)] := rfl
theorem ps26_5 : psT 26 5 = [(1, 19)] := rfl
theorem ps26_11 : psT 26 11 = [] := rfl
theorem ps26_15 : psT 26 15 = [] := rfl
theorem ps29_14 : psT 29 14 = [] := rfl
theorem ps31_13 : psT 31 13 = [(0, 2), (0, 4)] := rfl
theorem ps31_14 : psT 31 14 = [] := rfl
theorem ps33_7 : psT 33 7 = [] := rfl
theorem ps34_5 : psT 34 5 = [] := rfl
theorem ps36_12 : psT 36 12 = [] := rfl
theorem ps41_15 : psT 41 15 = [(0, 2)] := rfl
theorem ps42_16 : psT 42 16 = [(2, 5), (3, 5)] := rfl
theorem ps43_13 : psT 43 13 = [(4, 8), (4, 12), (6, 8), (6, 12), (9, 12), (10, 12)] := rfl
theorem ps43_14 : psT 43 14 = [(4, 8), (4, 12), (6, 8), (6, 12), (9, 12), (10, 12)] := rfl
theorem ps46_5 : psT 46 5 = [(1, 3)] := rfl
theorem ps46_9 : psT 46 9 = [(1, 4)] := rfl
theorem ps46_11 : psT 46 11 = [(1, 3)] := rfl
theorem ps46_15 : psT 46 15 = [(5, 2)] := rfl
theorem ps47_5 : psT 47 5 = [(0, 4), (0, 7), (1, 4), (1, 7)] := rfl
theorem ps47_12 : psT 47 12 = [(0, 6), (0, 9), (1, 6), (1, 9), (3, 6), (3, 9)] := rfl
theorem ps47_17 : psT 47 17 = [] := rfl
theorem ps49_1 : psT 49 1 = [(2, 7), (12, 7), (12, 9), (12, 17), (16, 7), (16, 9)] := rfl
theorem ps55_2 : psT 55 2 = [(1, 2)] := rfl
theorem ps56_1 : psT 56 1 = [] := rfl
theorem ps56_5 : psT 56 5 = [] := rfl
theorem ps65_8 : psT 65 8 = [(0, 6), (0, 9), (3, 6), (8, 6)] := rfl
theorem ps65_10 : psT 65 10 = [(0, 7), (0, 10), (0, 20), (3, 7), (3, 10), (9, 7), (13, 7), (13, 10), (17, 7), (17, 10)] := rfl
theorem ps65_12 : psT 65 12 = [(0, 6), (0, 9), (0, 12), (3, 6), (3, 9), (8, 6), (11, 6), (11, 9)] := rfl
theorem ps65_17 : psT 65 17 = [(1, 7), (1, 19), (4, 7), (9, 7), (11, 7), (12, 7), (14, 7), (16, 7), (17, 7)] := rfl
theorem ps66_16 : psT 66 16 = [(0, 2)] := rfl
theorem ps66_20 : psT 66 20 = [(0, 3), (5, 3), (7, 3), (8, 3)] := rfl
theorem ps69_1 : psT 69 1 = [(0, 2)] := rfl
theorem ps70_1 : psT 70 1 = [] := rfl
theorem ps74_4 : psT 74 4 = [(0, 2)] := rfl
theorem ps75_1 : psT 75 1 = [] := rfl
theorem ps75_5 : psT 75 5 = [] := rfl
theorem ps77_1 : psT 77 1 = [(0, 2)] := rfl
theorem ps86_8 : psT 86 8 = [] := rfl
theorem ps86_9 : psT 86 9 = [] := rfl
theorem ps87_12 : psT 87 12 = [] := rfl
theorem ps88_17 : psT 88 17 = [] := rfl
theorem ps94_5 : psT 94 5 = [(2, 1)] := rfl
theorem ps96_1 : psT 96 1 = [(24, 30), (32, 30)] := rfl
theorem ps97_8 : psT 97 8 = [(3, 1), (5, 1), (7, 1), (9, 1), (9, 8)] := rfl
theorem ps98_5 : psT 98 5 = [(5, 2), (9, 2)] := rfl
theorem ps98_7 : psT 98 7 = [(4, 2)] := rfl
theorem ps103_9 : psT 103 9 = [] := rfl
theorem ps105_4 : psT 105 4 = [] := rfl
theorem ps105_6 : psT 105 6 = [] := rfl
theorem ps106_10 : psT 106 10 = [] := rfl
theorem ps107_10 : psT 107 10 = [] := rfl
theorem ps109_3 : psT 109 3 = [] := rfl
theorem ps110_5 : psT 110 5 = [] := rfl
theorem ps110_11 : psT 110 11 = [] := rfl
theorem ps110_16 : psT 110 16 = [] := rfl
theorem ps110_17 : psT 110 17 = [] := rfl
theorem ps110_22 : psT 110 22 = [] := rfl
theorem ps110_23 : psT 110 23 = [] := rfl
theorem ps111_1 : psT 111 1 = [] := rfl
theorem ps111_3 : psT 111 3 = [] := rfl
theorem ps111_5 : psT 111 5 = [] := rfl
theorem ps111_8 : psT 111 8 = [] := rfl
theorem ps112_1 : psT 112 1 = [] := rfl
theorem ps112_3 : psT 112 3 = [] := rfl
theorem ps112_5 : psT 112 5 = [] := rfl
theorem ps112_8 : psT 112 8 = [] := rfl
theorem ps112_10 : psT 112 10 = [] := rfl
theorem ps112_13 : psT 112 13 = [] := rfl
theorem ps112_15 : psT 112 15 = [] := rfl
theorem ps112_18 : psT 112 18 = [] := rfl
theorem ps112_21 : psT 112 21 = [] := rfl
theorem ps117_10 : psT 117 10 = [] := rfl
theorem ps119_3 : psT 119 3 = [] := rfl
theorem ps119_5 : psT 119 5 = [] := rfl
theorem ps119_6 : psT 119 6 = [] := rfl
theorem ps121_1 : psT 121 1 = [] := rfl
theorem ps121_2 : psT 121 2 = [] := rfl
theorem ps121_3 : psT 121 3 = [] := rfl
theorem ps124_1 : psT 124 1 = [] := rfl
theorem ps126_1 : psT 126 1 = [] := rfl
section
variable {b : Nat} {ro : Option Nat} {f id : Nat} {ops : Array Oper} {s : FS} {Q : XE → FS → Prop}
theorem Wp_dr (hst : staticOk (fun d => (locT f).elem d) ops = true) (hps : loosePairs (fun d => (locT f).elem d) ops = psT f id) (hn : nodupI (allocDs ops.toList) = true) :
    Wp Try.prog (AA b) ro f (.region id ops true) s Q =
      OB (Od (ghosts (ghoT f id) s)) fun s1 => WD Try.prog (AA b) (locT f) ops (baseOf s1.sl (allocDs ops.toList)) (psT f id) 0 ops.toList [] [] [] { lc := [], hp := s1.hp, nx := s1.nx } (endQ (keepT f id) (baseOf s1.sl (allocDs ops.toList)) Q) := Wp_draw hst hps hn
theorem Wp_drE {l : List Oper} (h0 : psT f id = []) (hst : staticOk (fun d => (locT f).elem d) l.toArray = true) (hps : loosePairs (fun d => (locT f).elem d) l.toArray = psT f id) (hn : nodupI (allocDs l) = true) :
    Wp Try.prog (AA b) ro f (.region id l.toArray true) s Q = OB (Od (ghosts (ghoT f id) s)) (aft1 Try.prog (AA b) (locT f) (keepT f id) l Q) := Wp_drF hst (hps.trans h0) hn
end
attribute [go_sem] not_false_eq_true not_true_eq_false Decidable.not_not D_eq D_ff D_True D_False IA_True IA_False IV_True IV_False IA_v IV_same IV_and IV_or IV_nand IV_imp IV_int WI_True WI_False WGm_True WGm_False WGm_merge WGm_mergeD WGc_True WGc_False WGc_merge WGc_mergeD nxtG_eq wantV_IV wantV_b beq_tt beq_ff decide_eq_true_eq decide_eq_false_iff_not Bool.not_eq_true' Bool.and_eq_true Bool.or_eq_true Wp_dr
attribute [go_sem ↓] Wp_seq Wp_block Wp_skip Wp_exit Wp_ret Wp_test seqQ_normal seqQ_ret seqQ_exit blockQ_normal blockQ_ret blockQ_exit loopQ_normal loopQ_exit loopQ_ret Wp_regF Wp_drE aft1_mk aft2_mk w_move g_move w_assign g_assign w_pick g_pick w_alloc g_alloc w_box g_box w_build g_build w_buildSlice g_buildSlice w_load g_load w_store g_store w_nilCheck g_nilCheck w_binOp g_binOp w_unOp g_unOp w_convert g_convert w_makeInterface g_makeInterface w_makeFunc g_makeFunc w_makeSlice g_makeSlice w_slice g_slice w_fieldAddr g_fieldAddr w_field g_field w_indexAddr g_indexAddr w_index g_index w_makeMap g_makeMap w_lookup g_lookup w_mapUpdate g_mapUpdate w_extract g_extract w_builtin g_builtin w_call g_call nxt_mk nxtW_eq endQ_st WO_nil ovLook_putS ovLook_putn ovLook_cons lookOf_cons baseOf_eq rho_tmp rho_const rho_func keepS_cons keepS_nil gsl_eq gsl_zero gsl_succ op0_move op0_assign op0_pick op0_alloc op0_box op0_build op0_buildSlice op0_load op0_store op0_nilCheck op0_bin op0_notV op0_negV op0_conv op0_makeFunc op0_fieldAddr op0_field op0_extract op0_builtin op0_indexAddr op0_index op0_makeSlice
attribute [go_sem] stS_mk
attribute [go_sem low] WB_und WG_und WG_undC pickV_und WGm_split WGc_split
attribute [go_sem] ps3_13 ps3_21 ps4_13 ps4_18 ps4_28 ps5_8 ps6_13 ps6_22 ps7_15 ps8_6 ps8_11 ps8_12 ps8_13 ps8_14 ps8_15 ps9_4 ps9_14 ps9_16 ps10_10 ps10_15 ps10_18 ps11_3 ps11_14 ps11_26 ps11_35 ps11_36 ps12_7 ps12_9 ps12_10 ps12_24 ps12_29 ps12_34 ps14_16 ps16_5 ps17_7 ps17_12 ps17_16 ps17_39 ps22_11 ps22_12 ps23_5 ps24_5 ps25_1 ps25_5 ps25_9 ps26_5 ps26_11 ps26_15 ps29_14 ps31_13 ps31_14 ps33_7 ps34_5 ps36_12 ps41_15 ps42_16 ps43_13 ps43_14 ps46_5 ps46_9 ps46_11 ps46_15 ps47_5 ps47_12 ps47_17 ps49_1 ps55_2 ps56_1 ps56_5 ps65_8 ps65_10 ps65_12 ps65_17 ps66_16 ps66_20 ps69_1 ps70_1 ps74_4 ps75_1 ps75_5 ps77_1 ps86_8 ps86_9 ps87_12 ps88_17 ps94_5 ps96_1 ps97_8 ps98_5 ps98_7 ps103_9 ps105_4 ps105_6 ps106_10 ps107_10 ps109_3 ps110_5 ps110_11 ps110_16 ps110_17 ps110_22 ps110_23 ps111_1 ps111_3 ps111_5 ps111_8 ps112_1 ps112_3 ps112_5 ps112_8 ps112_10 ps112_13 ps112_15 ps112_18 ps112_21 ps117_10 ps119_3 ps119_5 ps119_6 ps121_1 ps121_2 ps121_3 ps124_1 ps126_1
end Go.Proofs
namespace Go.Proofs
open Go Go.Idl
set_option linter.unusedSimpArgs false
variable {b : Nat}
theorem getD_0 {xs : List Int} {i : Nat} : xs.getD i 0 = xs[i]! := by
  rw [List.getD_eq_getElem?_getD, List.getElem!_eq_getElem?_getD]; rfl
theorem mapR_map {α : Type} {inn : Vl → Option (Vl × List Nat)} {f g : α → Vl} {k : α → List Nat} : ∀ {l : List α}, (∀ x ∈ l, inn (f x) = some (g x, k x)) → mapR inn (l.map f) = some (l.map g, (l.map k).flatten)
  | [], _ => rfl
  | x :: l, h => by
    simp only [List.map_cons, mapR, h x List.mem_cons_self, Option.bind_some, mapR_map (l := l) fun y hy => h y (List.mem_cons_of_mem _ hy), Option.map_some, List.flatten_cons]
theorem reify_arrM {α : Type} {hp : Nat → Ob} {id n e : Nat} {f g : α → Vl} {k : α → List Nat} {l : List α} (h : hp id = .arr e (l.map f) ∨ hp id = .fro e (l.map f)) (hn : l.length = n) (hf : ∀ x ∈ l, reifyF (reifyF closedV hp) hp (f x) = some (g x, k x)) :
    reify hp (.own id n) = some (.lst e (l.map g) false, id :: (l.map k).flatten) := by
  unfold reify
  rcases h with h | h
  all_goals
    simp only [reifyF, h]
    rw [if_pos (by rw [List.length_map]; exact hn), mapR_map hf]
    rfl
theorem flat_nil {α : Type} {l : List α} : (l.map fun _ => ([] : List Nat)).flatten = [] := by induction l <;> simp_all
theorem reify_flat {α : Type} {hp : Nat → Ob} {id n e : Nat} {f : α → Vl} {l : List α} (h : hp id = .arr e (l.map f) ∨ hp id = .fro e (l.map f)) (hn : l.length = n) (hf : ∀ x, reifyF (reifyF closedV hp) hp (f x) = some (f x, [])) :
    reify hp (.own id n) = some (.lst e (l.map f) false, [id]) := by
  rw [reify_arrM (k := fun _ => []) h hn fun x _ => hf x, flat_nil]
mutual
theorem reify_closedV {inn : Vl → Option (Vl × List Nat)} {hp : Nat → Ob} : ∀ x : Vl, x.closed = true → reifyF inn hp x = some (x, [])
  | .int .., _ | .bool _, _ | .str _, _ | .nils, _ | .nilp, _ | .nilf, _ | .nili, _ | .nilm, _ | .undef, _ => rfl
  | .agg cs, h => by simp only [reifyF, reify_closedL cs h]; rfl
  | .tup cs, h => by simp only [reifyF, reify_closedL cs h]; rfl
  | .ifc t v, h => by simp only [reifyF, reify_closedV v h]; rfl
  | .fn f a c, h => by
    simp only [Vl.closed, Bool.and_eq_true] at h
    simp only [reifyF, reify_closedL a h.1, reify_closedL c h.2, Option.bind_some, Option.map_some]
    rfl
  | .lst e xs x, h => by
    have h : closedL xs = true := h
    simp only [reifyF, if_pos h]
  | .fp c o, h => by
    have h : c.closed = true := h
    simp only [reifyF, if_pos h]
  | .own .., h | .ep .., h | .bp .., h | .mp _, h | .yld _, h | .loc _, h => by cases h
theorem reify_closedL {inn : Vl → Option (Vl × List Nat)} {hp : Nat → Ob} : ∀ xs : List Vl, closedL xs = true → reifyL inn hp xs = some (xs, [])
  | [], _ => rfl
  | x :: xs, h => by
    simp only [closedL, Bool.and_eq_true] at h
    simp only [reifyL, reify_closedV x h.1, reify_closedL xs h.2, Option.bind_some, Option.map_some]
    rfl
end
theorem rfC {hp : Nat → Ob} {x : Vl} (h : x.closed = true) : reify hp x = some (x, []) := reify_closedV x h
theorem rfAs {m : Mem} : ∀ {xs : List Vl}, closedL xs = true → reifyAs m (xs.map .v) = some (xs, [], false)
  | [], _ => rfl
  | x :: xs, h => by
    simp only [closedL, Bool.and_eq_true] at h
    simp only [List.map_cons, reifyAs_v, rfC h.1, rfAs h.2, Option.bind_some, Option.map_some]
    rfl
theorem closedL_map {α : Type} {f : α → Vl} (h : ∀ x, (f x).closed = true) : ∀ l : List α, closedL (l.map f) = true
  | [] => rfl
  | x :: l => by simp only [List.map_cons, closedL, h x, closedL_map h l, Bool.and_self]
theorem reify_fnbp {hp : Nat → Ob} {f : Fn} {id : Nat} {c : Vl} (h : hp id = .box c) (hc : c.closed = true) : reify hp (.fn f [] [.bp id 0]) = some (.fn f [] [.fp c 0], [id]) := by
  unfold reify
  simp only [reifyF, reifyL, h, reify_closedV c hc, Option.bind_some, Option.map_some]
  rfl
theorem reify_fp0 {f : Fn} {c : Vl} (hc : c.closed = true) : (Vl.fn f [] [.fp c 0]).closed = true := by simp only [Vl.closed, closedL, hc, Bool.and_self]
theorem get!_snoc_lt {α : Type} [Inhabited α] {xs : List α} {a : α} {j : Nat} (h : j < xs.length) : (xs ++ [a])[j]! = xs[j]! := by
  rw [getElem!_pos (xs ++ [a]) j (by simp; omega), getElem!_pos xs j h, List.getElem_append_left h]
theorem get!_snoc_eq {α : Type} [Inhabited α] {xs : List α} {a : α} {n : Nat} (h : xs.length = n) : (xs ++ [a])[n]! = a := by
  subst h
  rw [getElem!_pos (xs ++ [a]) xs.length (by simp)]
  simp
theorem prod_eta {s : Int × Int} : (s.1, s.2) = s := rfl
theorem take_snoc {α : Type} [Inhabited α] {L : List α} {j : Nat} (h : j < L.length) : L.take (j + 1) = L.take j ++ [L[j]!] := by
  rw [get!_eq h]; exact List.take_succ_eq_append_getElem h
def mkIfcV (k : TK) (t : TypeId) (x : Vl) (m : Mem) : Option (Arg × Mem) := match k with
  | .iface | .other => none
  | _ => if x.undef? then none else some (.v (.ifc t x), m)
theorem op0_makeInterface {P : Program} {L : List Nat} {d : Option Nat} {ρ : Operand → Arg} {m : Mem} {t : TypeId} {x : Operand} : op0 P L d (.makeInterface t x) ρ m = mkIfcV (tdOf P t).k t (ρ x).vl m := rfl
theorem mkIfcV_agg {t : TypeId} {fs : List (Nat × Bool × Nat)} {cs : List Vl} {m : Mem} : mkIfcV (.struct fs) t (.agg cs) m = some (.v (.ifc t (.agg cs)), m) := rfl
theorem slotV_ifc' {t : TypeId} {v : Vl} {x : Nat} : slotV x (.ifc t v) = .v (.ifc t v) := rfl
attribute [go_sem] op0_makeInterface mkIfcV_agg
theorem inT {x lo hi : Int} (h : lo ≤ x ∧ x ≤ hi) : (decide (lo ≤ x) && decide (x ≤ hi)) = true := by rw [decide_eq_true h.1, decide_eq_true h.2]; rfl
end Go.Proofs
namespace Go.Proofs
open Go Go.Idl
set_option linter.unusedSimpArgs false
variable {b : Nat}
@[reducible] def I (n : Int) : Vl := .int .i64 n
@[reducible] def Sp (lo hi : Int) : Vl := .agg [I lo, I hi]
@[reducible] def U (n : Int) : Vl := .int .u64 n
theorem wrap_u64 (n : Int) : 0 ≤ IntKind.wrap .u64 n ∧ IntKind.wrap .u64 n < 18446744073709551616 := by
  show 0 ≤ (if (false && decide (n % 18446744073709551616 ≥ 2 ^ 63)) = true then n % 18446744073709551616 - 18446744073709551616 else n % 18446744073709551616) ∧ (if (false && decide (n % 18446744073709551616 ≥ 2 ^ 63)) = true then n % 18446744073709551616 - 18446744073709551616 else n % 18446744073709551616) < 18446744073709551616
  simp only [Bool.false_and, Bool.false_eq_true, if_false]
  omega
theorem conv_n {n : Int} (h1 : 0 ≤ n) (h2 : n < 9223372036854775808) : IntKind.wrap .u64 n = n := by
  show (if (false && decide (n % 18446744073709551616 ≥ 2 ^ 63)) = true then n % 18446744073709551616 - 18446744073709551616 else n % 18446744073709551616) = n
  simp only [Bool.false_and, Bool.false_eq_true, if_false]
  omega
def urnAt (u : Nat) (hp : Nat → Ob) : Int × Int := match hp u with
  | .box (.agg [.int .u64 x, .int .u64 y]) => (x, y)
  | _ => (0, 0)
def UrnOk (u : Nat) (hp : Nat → Ob) : Prop := hp u = .box (.agg [U (urnAt u hp).1, U (urnAt u hp).2])
@[reducible] def urnO (s : Int × Int) : Ob := .box (.agg [U s.1, U s.2])
theorem urnAt_upd {u : Nat} {hp : Nat → Ob} {x y : Int} : urnAt u (upd hp u (.box (.agg [.int .u64 x, .int .u64 y]))) = (x, y) := by unfold urnAt; rw [upd_same]
theorem UrnOk_upd {u : Nat} {hp : Nat → Ob} {x y : Int} : UrnOk u (upd hp u (.box (.agg [.int .u64 x, .int .u64 y]))) := by unfold UrnOk; rw [urnAt_upd, upd_same]
theorem UrnOk_is {u : Nat} {hp : Nat → Ob} (h : UrnOk u hp) : hp u = .box (.agg [U (urnAt u hp).1, U (urnAt u hp).2]) := h
theorem upd_self {hp : Nat → Ob} {u : Nat} {o : Ob} (h : hp u = o) : upd hp u o = hp := by
  funext j
  unfold upd
  split
  · rename_i e; rw [e, h]
  · rfl
def turnZ (s : Int × Int) : Int := xorI .u64 (xorI .u64 (xorI .u64 (xorI .u64 s.1 (shlI .u64 s.1 23)) s.2) (shrI .u64 (xorI .u64 s.1 (shlI .u64 s.1 23)) 17)) (shrI .u64 s.2 26)
def turnS (s : Int × Int) : Int × Int := (s.2, if orI .u64 s.2 (turnZ s) = 0 then 1 else turnZ s)
def turnR (s : Int × Int) : Int := IntKind.wrap .u64 ((turnS s).2 + s.2)
theorem turn_x {u nx : Nat} {hp : Nat → Ob} (h : UrnOk u hp) : HAns Try.prog (AA b) 56 [.bp u 0] hp nx fun v h' n => v = U (turnR (urnAt u hp)) ∧ h' = upd hp u (.box (.agg [U (turnS (urnAt u hp)).1, U (turnS (urnAt u hp)).2])) ∧ n = nx := by
  have h := UrnOk_is h
  generalize urnAt u hp = s at h
  refine HAns_of Try.func56 rfl ?_
  simp +contextual (maxSteps := 1000000) (disch := first | omega | (with_reducible first | refine krN ?_ | refine krS ?_ | refine krP ?_ | refine krG ?_); kernel_rfl | refine kr ?_; simp only [go_sem, reduceCtorEq, h]; done | fail) only [go_sem, seval, -List.reduceReplicate, h]
  refine WI_of (fun c => ?_) (fun c => ?_)
  · have c : orI .u64 s.2 (turnZ s) = 0 := c
    simp [turnR, turnS, c]
  · have c : ¬ orI .u64 s.2 (turnZ s) = 0 := c
    simp only [turnR, turnS, if_neg c]
    repeat' (first | exact trivial | rfl | apply And.intro)
section
variable {u : Nat} {m : Mem} {K : Vl → Mem → Prop}
theorem wc56 (h : UrnOk u m.hp) : WC Try.prog (AA b) (.fn (.func 56) [] []) [.v (.bp u 0)] m K = K (U (turnR (urnAt u m.hp))) { m with hp := upd m.hp u (.box (.agg [U (turnS (urnAt u m.hp)).1, U (turnS (urnAt u m.hp)).2])) } :=
  WC_heap (by simp only [mkAnn, K56]) rfl (turn_x h)
end
attribute [go_sem] UrnOk_upd urnAt_upd wc56
def upS (s : Int × Int) (n : Int) : Int × Int := if n < 2 then s else turnS s
def upR (s : Int × Int) (n : Int) : Int := if n < 2 then 0 else IntKind.wrap .i64 ((shrI .u64 (turnR s) 11).tmod (IntKind.wrap .u64 n))
theorem conv_n' {n : Int} (h1 : 0 ≤ n) (h2 : n < 9223372036854775808) : IntKind.wrap .u64 n = n := conv_n h1 h2
theorem u64_ne {n : Int} (h1 : ¬ n < 2) (h2 : n < 9223372036854775808) : IntKind.wrap .u64 n ≠ 0 := by rw [conv_n (by omega) h2]; omega
theorem up_x {u nx : Nat} {hp : Nat → Ob} {n : Int} (h : UrnOk u hp) (hn : n < 9223372036854775808) : HAns Try.prog (AA b) 30 [.bp u 0, I n] hp nx fun v h' n' => v = I (upR (urnAt u hp) n) ∧ h' = upd hp u (.box (.agg [U (upS (urnAt u hp) n).1, U (upS (urnAt u hp) n).2])) ∧ n' = nx := by
  refine HAns_of Try.func30 rfl ?_
  have hz : ¬ n < 2 → binOpV (tdOf Try.prog 77) .rem (.int .u64 (shrI .u64 (turnR (urnAt u hp)) 11)) (.int .u64 (IntKind.wrap .u64 n)) = some (.int .u64 ((shrI .u64 (turnR (urnAt u hp)) 11).tmod (IntKind.wrap .u64 n))) := fun c => bin_rem (u64_ne c hn)
  rw [td77] at hz
  simp +contextual (maxSteps := 1000000) (disch := first | omega | (with_reducible first | refine krN ?_ | refine krS ?_ | refine krP ?_ | refine krG ?_); kernel_rfl | refine kr ?_; simp only [go_sem, reduceCtorEq, h, hz]; done | fail) only [go_sem, seval, -List.reduceReplicate, h, hz]
  refine WI_of (fun c => ?_) (fun c => ?_)
  · simp only [upR, upS, if_pos c]
    repeat' (first | exact trivial | rfl | exact (upd_self h).symm | apply And.intro)
  · simp only [upR, upS, if_neg c]
    repeat' (first | exact trivial | rfl | apply And.intro)
theorem upR_b (s : Int × Int) {n : Int} (hn : n < 1000000) : 0 ≤ upR s n ∧ upR s n < max 1 n := by
  unfold upR
  split
  · omega
  · have hw : IntKind.wrap .u64 n = n := conv_n (by omega) (by omega)
    have hz : n ≠ 0 := by omega
    have hs : 0 ≤ shrI .u64 (turnR s) 11 := by
      have := wrap_u64 ((turnS s).2 + s.2)
      show 0 ≤ (IntKind.wrap .u64 ((turnS s).2 + s.2)).fdiv (2 ^ 11)
      rw [Int.fdiv_eq_ediv_of_nonneg _ (by decide)]
      omega
    have hm : (shrI .u64 (turnR s) 11).tmod n = shrI .u64 (turnR s) 11 % n := Int.tmod_eq_emod_of_nonneg hs
    have hm1 := Int.emod_nonneg (shrI .u64 (turnR s) 11) hz
    have hm2 := Int.emod_lt_of_pos (shrI .u64 (turnR s) 11) (b := n) (by omega)
    rw [hw, hm, wrap_i64 (by omega) (by omega)]
    omega
section
variable {u : Nat} {m : Mem} {K : Vl → Mem → Prop}
theorem wc30 {n : Int} (h : UrnOk u m.hp) (hn : n < 9223372036854775808) : WC Try.prog (AA b) (.fn (.func 30) [] []) [.v (.bp u 0), .v (.int .i64 n)] m K = K (I (upR (urnAt u m.hp) n)) { m with hp := upd m.hp u (.box (.agg [U (upS (urnAt u m.hp) n).1, U (upS (urnAt u m.hp) n).2])) } :=
  WC_heap (by simp only [mkAnn, K30]) rfl (up_x h hn)
end
attribute [go_sem] wc30
def w64 (n : Int) : Int := IntKind.wrap .i64 n
theorem w64_lt (n : Int) : w64 n < 9223372036854775808 := by
  show (if (true && decide (n % 18446744073709551616 ≥ 2 ^ 63)) = true then n % 18446744073709551616 - 18446744073709551616 else n % 18446744073709551616) < 9223372036854775808
  simp only [Bool.true_and, decide_eq_true_eq]
  split <;> omega
def fromS (s : Int × Int) (lo hi : Int) : Int × Int := upS s (w64 (w64 (hi - lo) + 1))
def fromR (s : Int × Int) (lo hi : Int) : Int := w64 (lo + upR s (w64 (w64 (hi - lo) + 1)))
theorem from_x {u nx : Nat} {hp : Nat → Ob} {lo hi : Int} (h : UrnOk u hp) : HAns Try.prog (AA b) 20 [.bp u 0, I lo, I hi] hp nx fun v h' n' => v = I (fromR (urnAt u hp) lo hi) ∧ h' = upd hp u (.box (.agg [U (fromS (urnAt u hp) lo hi).1, U (fromS (urnAt u hp) lo hi).2])) ∧ n' = nx := by
  refine HAns_of Try.func20 rfl ?_
  have hl : IntKind.wrap .i64 (IntKind.wrap .i64 (hi - lo) + 1) < 9223372036854775808 := w64_lt _
  simp +contextual (maxSteps := 1000000) (disch := first | omega | (with_reducible first | refine krN ?_ | refine krS ?_ | refine krP ?_ | refine krG ?_); kernel_rfl | refine kr ?_; simp only [go_sem, reduceCtorEq, h, hl]; done | fail) only [go_sem, seval, -List.reduceReplicate, h, hl]
  repeat' (first | exact trivial | rfl | apply And.intro)
theorem fromR_b (s : Int × Int) {lo hi : Int} (h1 : -100000 ≤ lo) (h2 : lo ≤ 100000) (h3 : -100000 ≤ hi) (h4 : hi ≤ 100000) : lo ≤ fromR s lo hi ∧ fromR s lo hi ≤ max lo hi := by
  unfold fromR w64
  have hw : IntKind.wrap .i64 (hi - lo) = hi - lo := wrap_i64 (by omega) (by omega)
  have hw2 : IntKind.wrap .i64 (hi - lo + 1) = hi - lo + 1 := wrap_i64 (by omega) (by omega)
  rw [hw, hw2]
  have := upR_b s (n := hi - lo + 1) (by omega)
  rw [wrap_i64 (by omega) (by omega)]
  omega
section
variable {u : Nat} {m : Mem} {K : Vl → Mem → Prop}
theorem wc20 {lo hi : Int} (h : UrnOk u m.hp) : WC Try.prog (AA b) (.fn (.func 20) [] []) [.v (.bp u 0), .v (.int .i64 lo), .v (.int .i64 hi)] m K = K (I (fromR (urnAt u m.hp) lo hi)) { m with hp := upd m.hp u (.box (.agg [U (fromS (urnAt u m.hp) lo hi).1, U (fromS (urnAt u m.hp) lo hi).2])) } :=
  WC_heap (by simp only [mkAnn, K20]) rfl (from_x h)
end
attribute [go_sem] wc20
def oddsR (s : Int × Int) (n d : Int) : Bool := decide (upR s d < n)
theorem odds_x {u nx : Nat} {hp : Nat → Ob} {n d : Int} (h : UrnOk u hp) (hd : d < 9223372036854775808) : HAns Try.prog (AA b) 19 [.bp u 0, I n, I d] hp nx fun v h' n' => v = .bool (oddsR (urnAt u hp) n d) ∧ h' = upd hp u (.box (.agg [U (upS (urnAt u hp) d).1, U (upS (urnAt u hp) d).2])) ∧ n' = nx := by
  refine HAns_of Try.func19 rfl ?_
  simp +contextual (maxSteps := 1000000) (disch := first | omega | (with_reducible first | refine krN ?_ | refine krS ?_ | refine krP ?_ | refine krG ?_); kernel_rfl | refine kr ?_; simp only [go_sem, reduceCtorEq, h, hd]; done | fail) only [go_sem, seval, -List.reduceReplicate, h, hd]
  repeat' (first | exact trivial | rfl | apply And.intro)
section
variable {u : Nat} {m : Mem} {K : Vl → Mem → Prop}
theorem wc19 {n d : Int} (h : UrnOk u m.hp) (hd : d < 9223372036854775808) : WC Try.prog (AA b) (.fn (.func 19) [] []) [.v (.bp u 0), .v (.int .i64 n), .v (.int .i64 d)] m K = K (.bool (oddsR (urnAt u m.hp) n d)) { m with hp := upd m.hp u (.box (.agg [U (upS (urnAt u m.hp) d).1, U (upS (urnAt u m.hp) d).2])) } :=
  WC_heap (by simp only [mkAnn, K19]) rfl (odds_x h hd)
end
attribute [go_sem] wc19
def anyR (s : Int × Int) (l : List Int) : Int := if l.length = 0 then 0 else l[(upR s l.length).toNat]!
def anyS (s : Int × Int) (l : List Int) : Int × Int := if l.length = 0 then s else upS s l.length
theorem any_x {u nx : Nat} {hp : Nat → Ob} {l : List Int} {o : Bool} (h : UrnOk u hp) (hl : l.length < 1000) : HAns Try.prog (AA b) 32 [.bp u 0, .lst 1 (l.map I) o] hp nx fun v h' n' => v = I (anyR (urnAt u hp) l) ∧ h' = upd hp u (.box (.agg [U (anyS (urnAt u hp) l).1, U (anyS (urnAt u hp) l).2])) ∧ n' = nx := by
  refine HAns_of Try.func32 rfl ?_
  have hb := upR_b (urnAt u hp) (n := l.length) (by omega)
  have e0 : ((l.length : Int) = 0) = (l.length = 0) := propext (by omega)
  simp +contextual (maxSteps := 1000000) (disch := first | omega | (with_reducible first | refine krN ?_ | refine krS ?_ | refine krP ?_ | refine krG ?_); kernel_rfl | refine kr ?_; simp only [go_sem, reduceCtorEq, h, ix_lst, List.length_map, Int.natCast_inj, e0]; done | fail) only [go_sem, seval, -List.reduceReplicate, h, ix_lst, List.length_map, Int.natCast_inj, e0]
  refine WI_of (fun c => ?_) (fun c => ?_)
  · simp only [anyR, anyS, if_pos c]
    repeat' (first | exact trivial | rfl | exact (upd_self h).symm | apply And.intro)
  · simp only [anyR, anyS, if_neg c]
    repeat' (first | exact trivial | rfl | apply And.intro)
section
variable {u : Nat} {m : Mem} {K : Vl → Mem → Prop} {o : Bool}
theorem wc32_2 {x y : Int} (h : UrnOk u m.hp) : WC Try.prog (AA b) (.fn (.func 32) [] []) [.v (.bp u 0), .v (.lst 1 [.int .i64 x, .int .i64 y] o)] m K = K (I (anyR (urnAt u m.hp) [x, y])) { m with hp := upd m.hp u (.box (.agg [U (anyS (urnAt u m.hp) [x, y]).1, U (anyS (urnAt u m.hp) [x, y]).2])) } :=
  WC_heap (by simp only [mkAnn, K32]) rfl (any_x (l := [x, y]) h (by simp))
theorem wc32_3 {x y z : Int} (h : UrnOk u m.hp) : WC Try.prog (AA b) (.fn (.func 32) [] []) [.v (.bp u 0), .v (.lst 1 [.int .i64 x, .int .i64 y, .int .i64 z] o)] m K = K (I (anyR (urnAt u m.hp) [x, y, z])) { m with hp := upd m.hp u (.box (.agg [U (anyS (urnAt u m.hp) [x, y, z]).1, U (anyS (urnAt u m.hp) [x, y, z]).2])) } :=
  WC_heap (by simp only [mkAnn, K32]) rfl (any_x (l := [x, y, z]) h (by simp))
theorem wc32_4 {x y z t : Int} (h : UrnOk u m.hp) : WC Try.prog (AA b) (.fn (.func 32) [] []) [.v (.bp u 0), .v (.lst 1 [.int .i64 x, .int .i64 y, .int .i64 z, .int .i64 t] o)] m K = K (I (anyR (urnAt u m.hp) [x, y, z, t])) { m with hp := upd m.hp u (.box (.agg [U (anyS (urnAt u m.hp) [x, y, z, t]).1, U (anyS (urnAt u m.hp) [x, y, z, t]).2])) } :=
  WC_heap (by simp only [mkAnn, K32]) rfl (any_x (l := [x, y, z, t]) h (by simp))
end
theorem anyR_mem (s : Int × Int) {l : List Int} (h : l ≠ []) (hl : l.length < 1000) : anyR s l ∈ l := by
  have h0 : 0 < l.length := List.length_pos_iff.2 h
  unfold anyR
  rw [if_neg (by omega)]
  have := upR_b s (n := l.length) (by omega)
  exact get!_mem (by omega)
attribute [go_sem] wc32_2 wc32_3 wc32_4
end Go.Proofs
namespace Go.Proofs
open Go Go.Idl Go.Dt
set_option linter.unusedSimpArgs false
variable {b : Nat}
attribute [go_sem low] upd_ne
attribute [go_sem] endSt_normal endSt_ret endSt_exit
attribute [go_sem] Int.toNat_natCast
theorem wr_pred {i : Nat} (h : 0 < (i : Int)) (h2 : (i : Int) < 4000000000) : IntKind.wrap .i64 ((i : Int) - 1) = ((i - 1 : Nat) : Int) := by rw [wrap_i64 (by omega) (by omega)]; omega
theorem wr_succ {i : Nat} (h2 : (i : Int) < 4000000000) : IntKind.wrap .i64 ((i : Int) + 1) = ((i + 1 : Nat) : Int) := by rw [wrap_i64 (by omega) (by omega)]; omega
attribute [go_sem high] wr_pred wr_succ
attribute [go_sem low] wrap_i64
theorem in_to (n lo hi : Int) : Ans Try.prog (AA b) 72 [I n, I lo, I hi] (fun v => v = .bool (decide (lo ≤ n) && decide (n ≤ hi))) := by
  refine Ans_of Try.func72 rfl rfl ?_
  by_cases h : lo ≤ n
  · simp +contextual (maxSteps := 1000000) (disch := first | omega | (with_reducible first | refine krN ?_ | refine krS ?_ | refine krP ?_ | refine krG ?_); kernel_rfl | refine kr ?_; simp only [go_sem, reduceCtorEq, h]; done | fail) only [go_sem, seval, -List.reduceReplicate, h]
  · simp +contextual (maxSteps := 1000000) (disch := first | omega | (with_reducible first | refine krN ?_ | refine krS ?_ | refine krP ?_ | refine krG ?_); kernel_rfl | refine kr ?_; simp only [go_sem, reduceCtorEq, h]; done | fail) only [go_sem, seval, -List.reduceReplicate, h]
section
variable {m : Mem} {K : Vl → Mem → Prop}
theorem wc72 (n lo hi : Int) : WC Try.prog (AA b) (.fn (.func 72) [] []) [.v (I n), .v (I lo), .v (I hi)] m K = K (.bool (decide (lo ≤ n) && decide (n ≤ hi))) m := WC_flat rfl rfl (in_to n lo hi) rfl
end
attribute [go_sem] wc72
theorem stone_to (n : Int) : Ans Try.prog (AA b) 71 [I n] (fun v => v = I (IntKind.wrap .i64 (1 + n))) := by
  refine Ans_of Try.func71 rfl rfl ?_
  simp +contextual (maxSteps := 1000000) (disch := first | omega | (with_reducible first | refine krN ?_ | refine krS ?_ | refine krP ?_ | refine krG ?_); kernel_rfl | refine kr ?_; simp only [go_sem, reduceCtorEq]; done | fail) only [go_sem, seval, -List.reduceReplicate]
theorem era_to (n : Int) : Ans Try.prog (AA b) 78 [I n] (fun v => v = I (IntKind.wrap .i64 (7 + n))) := by
  refine Ans_of Try.func78 rfl rfl ?_
  simp +contextual (maxSteps := 1000000) (disch := first | omega | (with_reducible first | refine krN ?_ | refine krS ?_ | refine krP ?_ | refine krG ?_); kernel_rfl | refine kr ?_; simp only [go_sem, reduceCtorEq]; done | fail) only [go_sem, seval, -List.reduceReplicate]
theorem has_to (lo hi n : Int) : Ans Try.prog (AA b) 44 [Sp lo hi, I n] (fun v => v = .bool (decide (lo ≤ n) && decide (n ≤ hi))) := by
  refine Ans_of Try.func44 rfl rfl ?_
  by_cases h : lo ≤ n
  · simp +contextual (maxSteps := 1000000) (disch := first | omega | (with_reducible first | refine krN ?_ | refine krS ?_ | refine krP ?_ | refine krG ?_); kernel_rfl | refine kr ?_; simp only [go_sem, reduceCtorEq, h]; done | fail) only [go_sem, seval, -List.reduceReplicate, h]
  · simp +contextual (maxSteps := 1000000) (disch := first | omega | (with_reducible first | refine krN ?_ | refine krS ?_ | refine krP ?_ | refine krG ?_); kernel_rfl | refine kr ?_; simp only [go_sem, reduceCtorEq, h]; done | fail) only [go_sem, seval, -List.reduceReplicate, h]
def fitsV (v : Int) (so : Bool) : Bool := (decide (v = 1) && so) || (decide (v = 2) && !so) || decide (v = 3)
theorem fits_to (v : Int) (so : Bool) : Ans Try.prog (AA b) 45 [I v, .bool so] (fun r => r = .bool (fitsV v so)) := by
  refine Ans_of Try.func45 rfl rfl ?_
  by_cases h1 : v = 1
  · subst h1
    cases so <;> simp +contextual (maxSteps := 1000000) (disch := first | omega | (with_reducible first | refine krN ?_ | refine krS ?_ | refine krP ?_ | refine krG ?_); kernel_rfl | refine kr ?_; simp only [go_sem, reduceCtorEq]; done | fail) only [go_sem, seval, -List.reduceReplicate] <;> rfl
  · by_cases h2 : v = 2
    · subst h2
      cases so <;> simp +contextual (maxSteps := 1000000) (disch := first | omega | (with_reducible first | refine krN ?_ | refine krS ?_ | refine krP ?_ | refine krG ?_); kernel_rfl | refine kr ?_; simp only [go_sem, reduceCtorEq]; done | fail) only [go_sem, seval, -List.reduceReplicate] <;> rfl
    · by_cases h3 : v = 3
      · subst h3
        simp +contextual (maxSteps := 1000000) (disch := first | omega | (with_reducible first | refine krN ?_ | refine krS ?_ | refine krP ?_ | refine krG ?_); kernel_rfl | refine kr ?_; simp only [go_sem, reduceCtorEq]; done | fail) only [go_sem, seval, -List.reduceReplicate]
        simp [fitsV]
      · simp +contextual (maxSteps := 1000000) (disch := first | omega | (with_reducible first | refine krN ?_ | refine krS ?_ | refine krP ?_ | refine krG ?_); kernel_rfl | refine kr ?_; simp only [go_sem, reduceCtorEq, h1, h2, h3]; done | fail) only [go_sem, seval, -List.reduceReplicate, h1, h2, h3]
        simp [fitsV, h1, h2, h3]
theorem verdict_to (a n : Bool) : Ans Try.prog (AA b) 73 [.bool a, .bool n] (fun r => r = I (verdT a n)) := by
  refine Ans_of Try.func73 rfl rfl ?_
  cases a <;> cases n <;> simp +contextual (maxSteps := 1000000) (disch := first | omega | (with_reducible first | refine krN ?_ | refine krS ?_ | refine krP ?_ | refine krG ?_); kernel_rfl | refine kr ?_; simp only [go_sem, reduceCtorEq]; done | fail) only [go_sem, seval, -List.reduceReplicate] <;> rfl
def spanE (lo hi : Int) : Int := if ¬ (-3000 ≤ lo ∧ lo ≤ 3000) ∨ ¬ (-3000 ≤ hi ∧ hi ≤ 3000) then 1 else if lo > hi then 5 else 0
theorem span_to (lo hi : Int) : Ans Try.prog (AA b) 80 [Sp lo hi] (fun v => v = I (spanE lo hi)) := by
  refine Ans_of Try.func80 rfl rfl ?_
  by_cases h1 : -3000 ≤ lo ∧ lo ≤ 3000
  · by_cases h2 : -3000 ≤ hi ∧ hi ≤ 3000
    · by_cases h3 : lo > hi
      · simp +contextual (maxSteps := 1000000) (disch := first | omega | (with_reducible first | refine krN ?_ | refine krS ?_ | refine krP ?_ | refine krG ?_); kernel_rfl | refine kr ?_; simp only [go_sem, reduceCtorEq, h1, h2, h3]; done | fail) only [go_sem, seval, -List.reduceReplicate, h1, h2, h3]
        rw [spanE, if_neg (by omega), if_pos h3]
      · simp +contextual (maxSteps := 1000000) (disch := first | omega | (with_reducible first | refine krN ?_ | refine krS ?_ | refine krP ?_ | refine krG ?_); kernel_rfl | refine kr ?_; simp only [go_sem, reduceCtorEq, h1, h2, h3]; done | fail) only [go_sem, seval, -List.reduceReplicate, h1, h2, h3]
        rw [spanE, if_neg (by omega), if_neg h3]
    · have h2' : -3000 ≤ hi → ¬ hi ≤ 3000 := fun a c => h2 ⟨a, c⟩
      by_cases h4 : -3000 ≤ hi
      · simp +contextual (maxSteps := 1000000) (disch := first | omega | (with_reducible first | refine krN ?_ | refine krS ?_ | refine krP ?_ | refine krG ?_); kernel_rfl | refine kr ?_; simp only [go_sem, reduceCtorEq, h1, h4, h2' h4]; done | fail) only [go_sem, seval, -List.reduceReplicate, h1, h4, h2' h4]
        rw [spanE, if_pos (.inr h2)]
      · simp +contextual (maxSteps := 1000000) (disch := first | omega | (with_reducible first | refine krN ?_ | refine krS ?_ | refine krP ?_ | refine krG ?_); kernel_rfl | refine kr ?_; simp only [go_sem, reduceCtorEq, h1, h4]; done | fail) only [go_sem, seval, -List.reduceReplicate, h1, h4]
        rw [spanE, if_pos (.inr h2)]
  · by_cases h4 : -3000 ≤ lo
    · have h5 : ¬ lo ≤ 3000 := fun c => h1 ⟨h4, c⟩
      simp +contextual (maxSteps := 1000000) (disch := first | omega | (with_reducible first | refine krN ?_ | refine krS ?_ | refine krP ?_ | refine krG ?_); kernel_rfl | refine kr ?_; simp only [go_sem, reduceCtorEq, h4, h5]; done | fail) only [go_sem, seval, -List.reduceReplicate, h4, h5]
      rw [spanE, if_pos (.inl h1)]
    · simp +contextual (maxSteps := 1000000) (disch := first | omega | (with_reducible first | refine krN ?_ | refine krS ?_ | refine krP ?_ | refine krG ?_); kernel_rfl | refine kr ?_; simp only [go_sem, reduceCtorEq, h4]; done | fail) only [go_sem, seval, -List.reduceReplicate, h4]
      rw [spanE, if_pos (.inl h1)]
section
variable {m : Mem} {K : Vl → Mem → Prop}
theorem wc71 (n : Int) : WC Try.prog (AA b) (.fn (.func 71) [] []) [.v (.int .i64 n)] m K = K (I (IntKind.wrap .i64 (1 + n))) m := WC_flat rfl rfl (stone_to n) rfl
theorem wc78 (n : Int) : WC Try.prog (AA b) (.fn (.func 78) [] []) [.v (.int .i64 n)] m K = K (I (IntKind.wrap .i64 (7 + n))) m := WC_flat rfl rfl (era_to n) rfl
theorem wc44 (lo hi n : Int) : WC Try.prog (AA b) (.fn (.func 44) [] []) [.v (.agg [.int .i64 lo, .int .i64 hi]), .v (.int .i64 n)] m K = K (.bool (decide (lo ≤ n) && decide (n ≤ hi))) m := WC_flat rfl rfl (has_to lo hi n) rfl
theorem wc45 (v : Int) (so : Bool) : WC Try.prog (AA b) (.fn (.func 45) [] []) [.v (.int .i64 v), .v (.bool so)] m K = K (.bool (fitsV v so)) m := WC_flat rfl rfl (fits_to v so) rfl
theorem wc73 (a n : Bool) : WC Try.prog (AA b) (.fn (.func 73) [] []) [.v (.bool a), .v (.bool n)] m K = K (I (verdT a n)) m := WC_flat rfl rfl (verdict_to a n) rfl
theorem wc80 (lo hi : Int) : WC Try.prog (AA b) (.fn (.func 80) [] []) [.v (.agg [.int .i64 lo, .int .i64 hi])] m K = K (I (spanE lo hi)) m := WC_flat rfl rfl (span_to lo hi) rfl
end
attribute [go_sem] wc71 wc78 wc44 wc45 wc73 wc80
end Go.Proofs
