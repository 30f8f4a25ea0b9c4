/- The statement DateShiftedSaid holds: the Go function DateShifted returns true for every input and leaves its arguments as they were; no conditions. -/
import Derived.Test.YtoamjmokonnglaaRows
import Derived.Test.YtoamjmokonnglaaKc
import Derived.Test.YtoamjmokonnglaaJk
import Derived.WalkKit
import Derived.ProofKit
import Derived.OpenShut
import Derived.ShutString
import Derived.ChangeOld
import Derived.Below
import Derived.SizedLaws
set_option linter.all false
set_option linter.unusedSectionVars false
set_option linter.unusedSimpArgs false
set_option linter.unusedVariables false
namespace Go.Proofs.Ytoamjmokonnglaa.dateShifted
open Go.ChangeShapes Go.WideShapes Go.ChangeAt Go.RowKit Go.Idl
open Go.ChangeMaps (open_string shut_string)
set_option linter.unusedVariables false
theorem own : ownKnob Try.prog.godebug = none := by kernel_rfl
theorem laidOut : laidOutB Try.prog = true := by kernel_rfl
theorem noTabs : (tabList.all fun x => (Try.prog.globalNamed x.1).isNone) = true := by kernel_rfl
theorem tabs (K : Nat → Prop) (W : World) : Tabs Try.prog K W := fun x hx g hg => by
  have := List.all_eq_true.1 noTabs x hx
  rw [hg] at this
  cases this
def IsRow (k : IntKind) (w : World) (a : Option Addr) (len cap : Nat) (zs : List Int) : Prop :=
  (a = none ∧ len = 0 ∧ cap = 0 ∧ zs = []) ∨
  ∃ x, a = some x ∧ len ≤ cap ∧ cap ≤ maxLen ∧ zs.length = cap ∧ (∀ i, i < zs.length → w.cell? (x.add i) = some (.int k (zs.getD i 0))) ∧ ∀ n ∈ zs, (Lit.int k n).wf = true
theorem cell_lt {w : World} {a : Addr} {v : Value} (h : w.cell? a = some v) : a.block < w.heap.size := by
  unfold World.cell? at h
  cases e : w.heap[a.block]? with
  | none => rw [e] at h; cases h
  | some c => exact (Array.getElem?_eq_some_iff.1 e).1
theorem called {W : World} {a : Option Addr} {len cap : Nat} {zs : List Int} (h : IsRow .i64 W a len cap zs) : Calls Try.prog 4 #[.slice a len cap] W (fun e W' => e = .returned (.bool true) ∧ Below W.heap.size W W') := by
  have hlc : len ≤ cap := by
    rcases h with ⟨_, rfl, rfl, _⟩ | ⟨x, _, hl, _⟩
    · exact Nat.le_refl _
    · exact hl
  have hz : (zs.take len).length = len := by
    rw [List.length_take]
    rcases h with ⟨_, rfl, rfl, rfl⟩ | ⟨x, _, hl, _, hz, _⟩
    · rfl
    · omega
  have hm : (zs.take len).length ≤ 9223372036854775807 := by
    rw [hz]
    rcases h with ⟨_, rfl, rfl, rfl⟩ | ⟨x, _, hl, hm, _⟩
    · decide
    · have : maxLen = 9223372036854775807 := by decide
      omega
  have hv : VR (gOf fun b => b < W.heap.size) noHeap 0 W (.lst 1 ((zs.take len).map (.int .i64)) false) (.slice a len cap) := by
    refine vr_slice hlc hz ?_
    rcases h with ⟨_, rfl, _, _⟩ | ⟨x, hx, hl, _, hzl, hc, _⟩
    · exact .inl (by simp)
    · by_cases h0 : len = 0
      · exact .inl (by rw [h0]; rfl)
      · refine .inr ⟨x, hx, fun i hi => ?_, ?_⟩
        · rw [hz] at hi
          rw [hc i (by omega)]
          rw [List.getD_eq_getElem?_getD, List.getD_eq_getElem?_getD, List.getElem?_take_of_lt hi]
        · have := cell_lt (hc 0 (by omega))
          rw [add_block] at this
          exact this
  obtain ⟨v, ⟨k, hk⟩, rfl⟩ := shift4_to (xs := zs.take len) hm (o := some false)
  exact law_true prog_ok ext_2 (k := k) hk (vs := [.slice a len cap]) (tabs _ W) (.cons hv .nil)
set_option maxRecDepth 100000 in
theorem lifted (os : Os) (started : os.Started) (H : Type) (enc : TypeId × Value → H) :
    ReturnsInHanded {} Try.checked os 4 .any (Rows.dateShiftedSpec.pre6 enc Try.prog Try.f4 Rows.dateShiftedRow.domain false) (Rows.dateShiftedSpec.post enc Try.prog Try.f4 false true false false) := by
  refine returnsInHanded_of_change_sized (C := Try.checked) own started (by kernel_rfl) Try.func4
    (ChangeSpec.witness6 (enc := enc) (C := Try.checked) false ⟨#[], #[.slice none 0 0], []⟩ 8 (by kernel_rfl) (by kernel_rfl) (by kernel_rfl) (by kernel_rfl)) ?_
  intro W base args ds gs before hval0 hW hcnd hsz0 _
  have hval : ∀ (j : Nat) t v, Try.f4.params[j]? = some t → args[j]? = some v → Value.okWide Try.prog W .any base t v := hval0
  have hW' := hW
  obtain ⟨p, q, hA0, hV, rfl, hfz, hnd⟩ := hW
  have hA : DataW.TrodAll enc Try.prog W 0 (fun _ => true) true Try.f4.params.toList args.toList ds p := hA0
  rw [Try.params4] at hA hval
  obtain ⟨v0, vs0, d0, ds0, p0, q0, hargs, rfl, rfl, h0, r0⟩ := trodAll_cons hA
  obtain ⟨rfl, rfl, rfl⟩ := trodAll_nil r0
  obtain rfl : args = #[v0] := by cases args; simp_all
  obtain ⟨rfl, rfl⟩ := trodVars_none hV
  obtain ⟨a0, len0, cap0, rfl⟩ := okWide_slice Try.underlying26 (hval 0 26 v0 rfl rfl)
  have k0 := h0
  have lt0 : ∀ x ∈ p0, x.block < W.heap.size := by obtain ⟨m, hm⟩ := k0; exact DataW.trod_lt m _ _ _ hm
  obtain ⟨z0, w0⟩ : ∃ zs, IsRow .i64 W a0 len0 cap0 zs := by
    obtain ⟨fuel, hf⟩ := h0
    rcases open_ints Try.underlying26 Try.underlying3 (by kernel_rfl) hf with ⟨hcs, _⟩ | ⟨x, l, c, zs, hcs, _, hl, hm, hz, _, hcell, hwz⟩
    · simp [Value.cells] at hcs
      obtain ⟨rfl, rfl, rfl⟩ := hcs
      exact ⟨[], .inl ⟨rfl, rfl, rfl, rfl⟩⟩
    · simp [Value.cells] at hcs
      obtain ⟨rfl, rfl, rfl⟩ := hcs
      exact ⟨zs, .inr ⟨_, rfl, hl, hm, by simpa using hz, hcell, hwz⟩⟩
  clear hA0 hval0 hsz0
  refine (called w0).mono fun e W' ⟨he, bel⟩ => ?_
  subst he
  exact ⟨_, rfl, _, _, _, [], _, [], hW', trodAll_mk1 (shut_bool Try.underlying4 _), (trodAll_cons_mk (Below.trod laidOut (by kernel_rfl) (of_decide_eq_true (by kernel_rfl)) k0 bel lt0) trodAll_mk0), rfl, bel.frame _, fun h => by cases h⟩
theorem over : Rows.dateShiftedRow.holds Try.pinned (OpenSpec.ofChange Rows.dateShiftedSpec) :=
  OpenClaim.holds_of_wide 4 Try.f4 rfl rfl rfl rfl rfl rfl rfl ⟨rfl, rfl, rfl, rfl, rfl⟩ rfl rfl rfl rfl rfl (by kernel_rfl) Try.func4 (by kernel_rfl)
    (of_decide_eq_true (by kernel_rfl)) (by unfold Func.isWrapper; first | (rw [if_pos (by decide +kernel)]; kernel_rfl) | (rw [if_neg (by decide +kernel)]; exact ⟨rfl, rfl⟩))
    (fun os started H enc _ => lifted os started H enc)
theorem proved : Rows.DateShiftedSaid := over
end Go.Proofs.Ytoamjmokonnglaa.dateShifted
namespace Go.Proofs.Ytoamjmokonnglaa
theorem dateShifted_holds : Rows.DateShiftedSaid := dateShifted.proved
#print axioms dateShifted_holds
end Go.Proofs.Ytoamjmokonnglaa
