/- The statement DateCutsSaid holds: the Go function DateCuts returns true for every input and leaves its arguments as they were; no conditions. -/
import Derived.Test.YtoamjmokonnglaaRows
import Derived.Test.YtoamjmokonnglaaJv
import Derived.Test.YtoamjmokonnglaaN
import Derived.Test.YtoamjmokonnglaaJk
import Derived.WalkKit
import Derived.ProofKit
import Derived.OpenShut
import Derived.ShutString
import Derived.ChangeOld
import Derived.Below
import Derived.SizedLaws
set_option linter.all false
set_option linter.unusedSectionVars false
set_option linter.unusedSimpArgs false
set_option linter.unusedVariables false
namespace Go.Proofs.Ytoamjmokonnglaa.dateCuts
open Go.ChangeShapes Go.WideShapes Go.ChangeAt Go.RowKit Go.Idl
open Go.ChangeMaps (open_string shut_string)
set_option linter.unusedVariables false
theorem own : ownKnob Try.prog.godebug = none := by kernel_rfl
theorem laidOut : laidOutB Try.prog = true := by kernel_rfl
theorem noTabs : (tabList.all fun x => (Try.prog.globalNamed x.1).isNone) = true := by kernel_rfl
theorem tabs (K : Nat → Prop) (W : World) : Tabs Try.prog K W := fun x hx g hg => by
  have := List.all_eq_true.1 noTabs x hx
  rw [hg] at this
  cases this
set_option maxRecDepth 100000 in
theorem lifted (os : Os) (started : os.Started) (H : Type) (enc : TypeId × Value → H) :
    ReturnsInHanded {} Try.checked os 8 .any (Rows.dateCutsSpec.pre6 enc Try.prog Try.f8 Rows.dateCutsRow.domain false) (Rows.dateCutsSpec.post enc Try.prog Try.f8 false true false false) := by
  refine returnsInHanded_of_change_sized (C := Try.checked) own started (by kernel_rfl) Try.func8
    (ChangeSpec.witness6 (enc := enc) (C := Try.checked) false ⟨#[], #[.agg #[.int .i64 0, .slice none 0 0, .slice none 0 0], .int .i64 0, .int .i64 0, .int .i64 0, .int .i64 0, .slice none 0 0], []⟩ 8 (by kernel_rfl) (by kernel_rfl) (by kernel_rfl) (by kernel_rfl)) ?_
  intro W base args ds gs before hval0 hW hcnd hsz0 _
  have hval : ∀ (j : Nat) t v, Try.f8.params[j]? = some t → args[j]? = some v → Value.okWide Try.prog W .any base t v := hval0
  have hW' := hW
  obtain ⟨p, q, hA0, hV, rfl, hfz, hnd⟩ := hW
  have hA : DataW.TrodAll enc Try.prog W 0 (fun _ => true) true Try.f8.params.toList args.toList ds p := hA0
  rw [Try.params8] at hA hval
  obtain ⟨v0, vs0, d0, ds0, p0, q0, hargs0, rfl, rfl, h0, r0'⟩ := trodAll_cons hA
  obtain ⟨v1, vs1, d1, ds1, p1, q1, hargs1, rfl, rfl, h1, r1'⟩ := trodAll_cons r0'
  obtain ⟨v2, vs2, d2, ds2, p2, q2, hargs2, rfl, rfl, h2, r2'⟩ := trodAll_cons r1'
  obtain ⟨v3, vs3, d3, ds3, p3, q3, hargs3, rfl, rfl, h3, r3'⟩ := trodAll_cons r2'
  obtain ⟨v4, vs4, d4, ds4, p4, q4, hargs4, rfl, rfl, h4, r4'⟩ := trodAll_cons r3'
  obtain ⟨v5, vs5, d5, ds5, p5, q5, hargs5, rfl, rfl, h5, r5'⟩ := trodAll_cons r4'
  obtain ⟨rfl, rfl, rfl⟩ := trodAll_nil r5'
  obtain rfl : args = #[v0, v1, v2, v3, v4, v5] := by cases args; simp_all
  obtain ⟨rfl, rfl⟩ := trodVars_none hV
  obtain ⟨c0, rfl, _⟩ := okWide_struct Try.underlying25 (hval 0 25 v0 rfl rfl)
  have k0 := h0
  have lt0 : ∀ x ∈ p0, x.block < W.heap.size := by obtain ⟨m, hm⟩ := k0; exact DataW.trod_lt m _ _ _ hm
  obtain ⟨n1, rfl⟩ := okWide_int Try.underlying3 (hval 1 3 v1 rfl rfl)
  have k1 := h1
  have lt1 : ∀ x ∈ p1, x.block < W.heap.size := by obtain ⟨m, hm⟩ := k1; exact DataW.trod_lt m _ _ _ hm
  obtain ⟨n2, rfl⟩ := okWide_int Try.underlying3 (hval 2 3 v2 rfl rfl)
  have k2 := h2
  have lt2 : ∀ x ∈ p2, x.block < W.heap.size := by obtain ⟨m, hm⟩ := k2; exact DataW.trod_lt m _ _ _ hm
  obtain ⟨n3, rfl⟩ := okWide_int Try.underlying3 (hval 3 3 v3 rfl rfl)
  have k3 := h3
  have lt3 : ∀ x ∈ p3, x.block < W.heap.size := by obtain ⟨m, hm⟩ := k3; exact DataW.trod_lt m _ _ _ hm
  obtain ⟨n4, rfl⟩ := okWide_int Try.underlying3 (hval 4 3 v4 rfl rfl)
  have k4 := h4
  have lt4 : ∀ x ∈ p4, x.block < W.heap.size := by obtain ⟨m, hm⟩ := k4; exact DataW.trod_lt m _ _ _ hm
  obtain ⟨a5, l5, k5c, rfl⟩ := okWide_slice Try.underlying26 (hval 5 26 v5 rfl rfl)
  have k5 := h5
  have lt5 : ∀ x ∈ p5, x.block < W.heap.size := by obtain ⟨m, hm⟩ := k5; exact DataW.trod_lt m _ _ _ hm
  clear hA0 hval0 hsz0
  obtain ⟨r0, w0⟩ : ∃ r0 : Go.Dt.Dt, VR (gOf fun b => b < W.heap.size) noHeap 0 W (encD (some false) (some false) r0) (.agg c0) := by
    obtain ⟨m, hm⟩ := h0
    obtain ⟨xs, hv, ht⟩ := openL 6 m 25 c0.toList _ (by kernel_rfl) hm
    obtain ⟨r, he⟩ := ty25 UT_try ht
    refine ⟨r, ?_⟩
    rw [← he]
    have := VR.agg hv
    rwa [Array.toArray_toList] at this
  have w1 : VR (gOf fun b => b < W.heap.size) noHeap 0 W (.int .i64 n1) (.int .i64 n1) := .int _ _
  have w2 : VR (gOf fun b => b < W.heap.size) noHeap 0 W (.int .i64 n2) (.int .i64 n2) := .int _ _
  have w3 : VR (gOf fun b => b < W.heap.size) noHeap 0 W (.int .i64 n3) (.int .i64 n3) := .int _ _
  have w4 : VR (gOf fun b => b < W.heap.size) noHeap 0 W (.int .i64 n4) (.int .i64 n4) := .int _ _
  obtain ⟨r5, w5, b5⟩ : ∃ r : List Int, VR (gOf fun b => b < W.heap.size) noHeap 0 W (SL 1 (r.map I) (some false)) (.slice a5 l5 k5c) ∧ r.length ≤ maxLen := by
    obtain ⟨m, hm⟩ := h5
    obtain ⟨xs, hv, ht⟩ := openL 6 m 26 [.slice a5 l5 k5c] _ (by kernel_rfl) hm
    obtain ⟨r, he, hl⟩ := ty26 UT_try ht
    subst he
    refine ⟨r, ?_, hl⟩
    cases hv with | cons h _ _ => exact h
  have hcalled : Calls Try.prog 8 #[.agg c0, .int .i64 n1, .int .i64 n2, .int .i64 n3, .int .i64 n4, .slice a5 l5 k5c] W (fun e W' => e = .returned (.bool true) ∧ Below W.heap.size W W') := by
    obtain ⟨v, ⟨k, hk⟩, rfl⟩ := cuts8_to      b5
    exact law_true prog_ok ext_2 (k := k) hk (vs := [.agg c0, .int .i64 n1, .int .i64 n2, .int .i64 n3, .int .i64 n4, .slice a5 l5 k5c]) (tabs _ W) (.cons w0 (.cons w1 (.cons w2 (.cons w3 (.cons w4 (.cons w5 .nil))))))
  refine hcalled.mono fun e W' ⟨he, bel⟩ => ?_
  subst he
  exact ⟨_, rfl, _, _, _, [], _, [], hW', trodAll_mk1 (shut_bool Try.underlying4 _), (trodAll_cons_mk (Below.trod laidOut (by kernel_rfl) (of_decide_eq_true (by kernel_rfl)) k0 bel lt0) (trodAll_cons_mk (Below.trod laidOut (by kernel_rfl) (of_decide_eq_true (by kernel_rfl)) k1 bel lt1) (trodAll_cons_mk (Below.trod laidOut (by kernel_rfl) (of_decide_eq_true (by kernel_rfl)) k2 bel lt2) (trodAll_cons_mk (Below.trod laidOut (by kernel_rfl) (of_decide_eq_true (by kernel_rfl)) k3 bel lt3) (trodAll_cons_mk (Below.trod laidOut (by kernel_rfl) (of_decide_eq_true (by kernel_rfl)) k4 bel lt4) (trodAll_cons_mk (Below.trod laidOut (by kernel_rfl) (of_decide_eq_true (by kernel_rfl)) k5 bel lt5) trodAll_mk0)))))), rfl, bel.frame _, fun h => by cases h⟩
theorem over : Rows.dateCutsRow.holds Try.pinned (OpenSpec.ofChange Rows.dateCutsSpec) :=
  OpenClaim.holds_of_wide 8 Try.f8 rfl rfl rfl rfl rfl rfl rfl ⟨rfl, rfl, rfl, rfl, rfl⟩ rfl rfl rfl rfl rfl (by kernel_rfl) Try.func8 (by kernel_rfl)
    (of_decide_eq_true (by kernel_rfl)) (by unfold Func.isWrapper; first | (rw [if_pos (by decide +kernel)]; kernel_rfl) | (rw [if_neg (by decide +kernel)]; exact ⟨rfl, rfl⟩))
    (fun os started H enc _ => lifted os started H enc)
theorem proved : Rows.DateCutsSaid := over
end Go.Proofs.Ytoamjmokonnglaa.dateCuts
namespace Go.Proofs.Ytoamjmokonnglaa
theorem dateCuts_holds : Rows.DateCutsSaid := dateCuts.proved
#print axioms dateCuts_holds
end Go.Proofs.Ytoamjmokonnglaa
