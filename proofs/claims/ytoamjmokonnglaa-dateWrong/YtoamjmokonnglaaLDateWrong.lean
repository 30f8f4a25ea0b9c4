/- The statement DateWrongSaid holds: the Go function DateWrong returns true for every input and leaves its arguments as they were; no conditions. -/
import Derived.Test.YtoamjmokonnglaaRows
import Derived.Test.YtoamjmokonnglaaJy
import Derived.Test.YtoamjmokonnglaaN
import Derived.Test.YtoamjmokonnglaaJk
import Derived.WalkKit
import Derived.ProofKit
import Derived.OpenShut
import Derived.ShutString
import Derived.ChangeOld
import Derived.Below
import Derived.SizedLaws
set_option linter.all false
set_option linter.unusedSectionVars false
set_option linter.unusedSimpArgs false
set_option linter.unusedVariables false
namespace Go.Proofs.Ytoamjmokonnglaa.dateWrong
open Go.ChangeShapes Go.WideShapes Go.ChangeAt Go.RowKit Go.Idl
open Go.ChangeMaps (open_string shut_string)
set_option linter.unusedVariables false
theorem own : ownKnob Try.prog.godebug = none := by kernel_rfl
theorem laidOut : laidOutB Try.prog = true := by kernel_rfl
theorem noTabs : (tabList.all fun x => (Try.prog.globalNamed x.1).isNone) = true := by kernel_rfl
theorem tabs (K : Nat → Prop) (W : World) : Tabs Try.prog K W := fun x hx g hg => by
  have := List.all_eq_true.1 noTabs x hx
  rw [hg] at this
  cases this
set_option maxRecDepth 100000 in
theorem lifted (os : Os) (started : os.Started) (H : Type) (enc : TypeId × Value → H) :
    ReturnsInHanded {} Try.checked os 3 .any (Rows.dateWrongSpec.pre6 enc Try.prog Try.f3 Rows.dateWrongRow.domain false) (Rows.dateWrongSpec.post enc Try.prog Try.f3 false true false false) := by
  refine returnsInHanded_of_change_sized (C := Try.checked) own started (by kernel_rfl) Try.func3
    (ChangeSpec.witness6 (enc := enc) (C := Try.checked) false ⟨#[], #[.agg #[.int .i64 0, .slice none 0 0, .slice none 0 0], .agg #[.int .i64 0, .int .i64 0, .int .i64 0, .slice none 0 0, .int .i64 0, .int .i64 0], .slice none 0 0], []⟩ 8 (by kernel_rfl) (by kernel_rfl) (by kernel_rfl) (by kernel_rfl)) ?_
  intro W base args ds gs before hval0 hW hcnd hsz0 _
  have hval : ∀ (j : Nat) t v, Try.f3.params[j]? = some t → args[j]? = some v → Value.okWide Try.prog W .any base t v := hval0
  have hW' := hW
  obtain ⟨p, q, hA0, hV, rfl, hfz, hnd⟩ := hW
  have hA : DataW.TrodAll enc Try.prog W 0 (fun _ => true) true Try.f3.params.toList args.toList ds p := hA0
  rw [Try.params3] at hA hval
  obtain ⟨v0, vs0, d0, ds0, p0, q0, hargs0, rfl, rfl, h0, r0'⟩ := trodAll_cons hA
  obtain ⟨v1, vs1, d1, ds1, p1, q1, hargs1, rfl, rfl, h1, r1'⟩ := trodAll_cons r0'
  obtain ⟨v2, vs2, d2, ds2, p2, q2, hargs2, rfl, rfl, h2, r2'⟩ := trodAll_cons r1'
  obtain ⟨rfl, rfl, rfl⟩ := trodAll_nil r2'
  obtain rfl : args = #[v0, v1, v2] := by cases args; simp_all
  obtain ⟨rfl, rfl⟩ := trodVars_none hV
  obtain ⟨c0, rfl, _⟩ := okWide_struct Try.underlying25 (hval 0 25 v0 rfl rfl)
  have k0 := h0
  have lt0 : ∀ x ∈ p0, x.block < W.heap.size := by obtain ⟨m, hm⟩ := k0; exact DataW.trod_lt m _ _ _ hm
  obtain ⟨c1, rfl, _⟩ := okWide_struct Try.underlying30 (hval 1 30 v1 rfl rfl)
  have k1 := h1
  have lt1 : ∀ x ∈ p1, x.block < W.heap.size := by obtain ⟨m, hm⟩ := k1; exact DataW.trod_lt m _ _ _ hm
  obtain ⟨a2, l2, k2c, rfl⟩ := okWide_slice Try.underlying26 (hval 2 26 v2 rfl rfl)
  have k2 := h2
  have lt2 : ∀ x ∈ p2, x.block < W.heap.size := by obtain ⟨m, hm⟩ := k2; exact DataW.trod_lt m _ _ _ hm
  clear hA0 hval0 hsz0
  obtain ⟨r0, w0⟩ : ∃ r0 : Go.Dt.Dt, VR (gOf fun b => b < W.heap.size) noHeap 0 W (encD (some false) (some false) r0) (.agg c0) := by
    obtain ⟨m, hm⟩ := h0
    obtain ⟨xs, hv, ht⟩ := openL 6 m 25 c0.toList _ (by kernel_rfl) hm
    obtain ⟨r, he⟩ := ty25 UT_try ht
    refine ⟨r, ?_⟩
    rw [← he]
    have := VR.agg hv
    rwa [Array.toArray_toList] at this
  obtain ⟨r1, w1⟩ : ∃ r1 : Go.Dt.Nt, VR (gOf fun b => b < W.heap.size) noHeap 0 W (encN r1) (.agg c1) := by
    obtain ⟨m, hm⟩ := h1
    obtain ⟨xs, hv, ht⟩ := openL 6 m 30 c1.toList _ (by kernel_rfl) hm
    obtain ⟨r, he⟩ := ty30 UT_try ht
    refine ⟨r, ?_⟩
    rw [← he]
    have := VR.agg hv
    rwa [Array.toArray_toList] at this
  obtain ⟨r2, w2, b2⟩ : ∃ r : List Int, VR (gOf fun b => b < W.heap.size) noHeap 0 W (SL 1 (r.map I) (some false)) (.slice a2 l2 k2c) ∧ r.length ≤ maxLen := by
    obtain ⟨m, hm⟩ := h2
    obtain ⟨xs, hv, ht⟩ := openL 6 m 26 [.slice a2 l2 k2c] _ (by kernel_rfl) hm
    obtain ⟨r, he, hl⟩ := ty26 UT_try ht
    subst he
    refine ⟨r, ?_, hl⟩
    cases hv with | cons h _ _ => exact h
  have hcalled : Calls Try.prog 3 #[.agg c0, .agg c1, .slice a2 l2 k2c] W (fun e W' => e = .returned (.bool true) ∧ Below W.heap.size W W') := by
    obtain ⟨v, ⟨k, hk⟩, rfl⟩ := wrong3_to   b2
    exact law_true prog_ok ext_2 (k := k) hk (vs := [.agg c0, .agg c1, .slice a2 l2 k2c]) (tabs _ W) (.cons w0 (.cons w1 (.cons w2 .nil)))
  refine hcalled.mono fun e W' ⟨he, bel⟩ => ?_
  subst he
  exact ⟨_, rfl, _, _, _, [], _, [], hW', trodAll_mk1 (shut_bool Try.underlying4 _), (trodAll_cons_mk (Below.trod laidOut (by kernel_rfl) (of_decide_eq_true (by kernel_rfl)) k0 bel lt0) (trodAll_cons_mk (Below.trod laidOut (by kernel_rfl) (of_decide_eq_true (by kernel_rfl)) k1 bel lt1) (trodAll_cons_mk (Below.trod laidOut (by kernel_rfl) (of_decide_eq_true (by kernel_rfl)) k2 bel lt2) trodAll_mk0))), rfl, bel.frame _, fun h => by cases h⟩
theorem over : Rows.dateWrongRow.holds Try.pinned (OpenSpec.ofChange Rows.dateWrongSpec) :=
  OpenClaim.holds_of_wide 3 Try.f3 rfl rfl rfl rfl rfl rfl rfl ⟨rfl, rfl, rfl, rfl, rfl⟩ rfl rfl rfl rfl rfl (by kernel_rfl) Try.func3 (by kernel_rfl)
    (of_decide_eq_true (by kernel_rfl)) (by unfold Func.isWrapper; first | (rw [if_pos (by decide +kernel)]; kernel_rfl) | (rw [if_neg (by decide +kernel)]; exact ⟨rfl, rfl⟩))
    (fun os started H enc _ => lifted os started H enc)
theorem proved : Rows.DateWrongSaid := over
end Go.Proofs.Ytoamjmokonnglaa.dateWrong
namespace Go.Proofs.Ytoamjmokonnglaa
theorem dateWrong_holds : Rows.DateWrongSaid := dateWrong.proved
#print axioms dateWrong_holds
end Go.Proofs.Ytoamjmokonnglaa
