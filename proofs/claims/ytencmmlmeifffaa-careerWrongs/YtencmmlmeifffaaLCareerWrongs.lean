/- The statement CareerWrongsSaid holds: the Go function CareerWrongs returns true for every input and leaves its arguments as they were; no conditions. -/
import Derived.Test.YtencmmlmeifffaaRows
import Derived.Test.YtencmmlmeifffaaGr
import Derived.Test.YtencmmlmeifffaaGq
import Derived.WalkKit
import Derived.ProofKit
import Derived.OpenShut
import Derived.ShutString
import Derived.ChangeOld
import Derived.Below
import Derived.SizedLaws
set_option linter.all false
set_option linter.unusedSectionVars false
set_option linter.unusedSimpArgs false
set_option linter.unusedVariables false
namespace Go.Proofs.Ytencmmlmeifffaa.careerWrongs
open Go.ChangeShapes Go.WideShapes Go.ChangeAt Go.RowKit Go.Idl
open Go.ChangeMaps (open_string shut_string)
set_option linter.unusedVariables false
theorem own : ownKnob Try.prog.godebug = none := by kernel_rfl
theorem laidOut : laidOutB Try.prog = true := by kernel_rfl
theorem noTabs : (tabList.all fun x => (Try.prog.globalNamed x.1).isNone) = true := by kernel_rfl
theorem tabs (K : Nat → Prop) (W : World) : Tabs Try.prog K W := fun x hx g hg => by
  have := List.all_eq_true.1 noTabs x hx
  rw [hg] at this
  cases this
set_option maxRecDepth 100000 in
theorem lifted (os : Os) (started : os.Started) (H : Type) (enc : TypeId × Value → H) :
    ReturnsInHanded {} Try.checked os 5 .any (Rows.careerWrongsSpec.pre6 enc Try.prog Try.f5 Rows.careerWrongsRow.domain false) (Rows.careerWrongsSpec.post enc Try.prog Try.f5 false true false false) := by
  refine returnsInHanded_of_change_sized (C := Try.checked) own started (by kernel_rfl) Try.func5
    (ChangeSpec.witness6 (enc := enc) (C := Try.checked) false ⟨#[], #[.agg #[.slice none 0 0, .int .i64 0, .int .i64 0, .int .i64 0, .slice none 0 0, .slice none 0 0, .slice none 0 0], .slice none 0 0], []⟩ 8 (by kernel_rfl) (by kernel_rfl) (by kernel_rfl) (by kernel_rfl)) ?_
  intro W base args ds gs before hval0 hW hcnd hsz0 _
  have hval : ∀ (j : Nat) t v, Try.f5.params[j]? = some t → args[j]? = some v → Value.okWide Try.prog W .any base t v := hval0
  have hW' := hW
  obtain ⟨p, q, hA0, hV, rfl, hfz, hnd⟩ := hW
  have hA : DataW.TrodAll enc Try.prog W 0 (fun _ => true) true Try.f5.params.toList args.toList ds p := hA0
  rw [Try.params5] at hA hval
  obtain ⟨v0, vs0, d0, ds0, p0, q0, hargs0, rfl, rfl, h0, r0'⟩ := trodAll_cons hA
  obtain ⟨v1, vs1, d1, ds1, p1, q1, hargs1, rfl, rfl, h1, r1'⟩ := trodAll_cons r0'
  obtain ⟨rfl, rfl, rfl⟩ := trodAll_nil r1'
  obtain rfl : args = #[v0, v1] := by cases args; simp_all
  obtain ⟨rfl, rfl⟩ := trodVars_none hV
  obtain ⟨c0, rfl, _⟩ := okWide_struct Try.underlying29 (hval 0 29 v0 rfl rfl)
  have k0 := h0
  have lt0 : ∀ x ∈ p0, x.block < W.heap.size := by obtain ⟨m, hm⟩ := k0; exact DataW.trod_lt m _ _ _ hm
  obtain ⟨a1, l1, k1c, rfl⟩ := okWide_slice Try.underlying32 (hval 1 32 v1 rfl rfl)
  have k1 := h1
  have lt1 : ∀ x ∈ p1, x.block < W.heap.size := by obtain ⟨m, hm⟩ := k1; exact DataW.trod_lt m _ _ _ hm
  clear hA0 hval0 hsz0
  obtain ⟨r0, w0, b0⟩ : ∃ r : Roll, VR (gOf fun b => b < W.heap.size) noHeap 0 W (encRoll (some false) (some false) (some false) (some false) r) (.agg c0) ∧ r.fs.length ≤ maxLen := by
    obtain ⟨m, hm⟩ := h0
    obtain ⟨xs, hv, ht⟩ := openL 6 m 29 c0.toList _ (by kernel_rfl) hm
    obtain ⟨r, he, hl⟩ := ty29 UT_try ht
    refine ⟨r, ?_, hl⟩
    rw [← he]
    have := VR.agg hv
    rwa [Array.toArray_toList] at this
  obtain ⟨r1, w1, b1⟩ : ∃ r : List Int, VR (gOf fun b => b < W.heap.size) noHeap 0 W (SL 1 (r.map I) (some false)) (.slice a1 l1 k1c) ∧ r.length ≤ maxLen := by
    obtain ⟨m, hm⟩ := h1
    obtain ⟨xs, hv, ht⟩ := openL 6 m 32 [.slice a1 l1 k1c] _ (by kernel_rfl) hm
    obtain ⟨r, he, hl⟩ := ty32 UT_try ht
    subst he
    refine ⟨r, ?_, hl⟩
    cases hv with | cons h _ _ => exact h
  have hcalled : Calls Try.prog 5 #[.agg c0, .slice a1 l1 k1c] W (fun e W' => e = .returned (.bool true) ∧ Below W.heap.size W W') := by
    obtain ⟨v, ⟨k, hk⟩, rfl⟩ := wrongs5_to b0 b1
    exact law_true prog_ok ext_true (k := k) hk (vs := [.agg c0, .slice a1 l1 k1c]) (tabs _ W) (.cons w0 (.cons w1 .nil))
  refine hcalled.mono fun e W' ⟨he, bel⟩ => ?_
  subst he
  exact ⟨_, rfl, _, _, _, [], _, [], hW', trodAll_mk1 (shut_bool Try.underlying4 _), (trodAll_cons_mk (Below.trod laidOut (by kernel_rfl) (of_decide_eq_true (by kernel_rfl)) k0 bel lt0) (trodAll_cons_mk (Below.trod laidOut (by kernel_rfl) (of_decide_eq_true (by kernel_rfl)) k1 bel lt1) trodAll_mk0)), rfl, bel.frame _, fun h => by cases h⟩
theorem over : Rows.careerWrongsRow.holds Try.pinned (OpenSpec.ofChange Rows.careerWrongsSpec) :=
  OpenClaim.holds_of_wide 5 Try.f5 rfl rfl rfl rfl rfl rfl rfl ⟨rfl, rfl, rfl, rfl, rfl⟩ rfl rfl rfl rfl rfl (by kernel_rfl) Try.func5 (by kernel_rfl)
    (of_decide_eq_true (by kernel_rfl)) (by unfold Func.isWrapper; first | (rw [if_pos (by decide +kernel)]; kernel_rfl) | (rw [if_neg (by decide +kernel)]; exact ⟨rfl, rfl⟩))
    (fun os started H enc _ => lifted os started H enc)
theorem proved : Rows.CareerWrongsSaid := over
end Go.Proofs.Ytencmmlmeifffaa.careerWrongs
namespace Go.Proofs.Ytencmmlmeifffaa
theorem careerWrongs_holds : Rows.CareerWrongsSaid := careerWrongs.proved
#print axioms careerWrongs_holds
end Go.Proofs.Ytencmmlmeifffaa
