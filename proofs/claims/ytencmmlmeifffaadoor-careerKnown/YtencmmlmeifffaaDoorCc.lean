/- What functions of the given program do in the ideal machine (C5, C5x), and the plain laws of what they answer; the conditions stand in each theorem. -/
import Derived.Test.YtencmmlmeifffaaDoorCa
import Derived.Test.YtencmmlmeifffaaDoorCb
set_option linter.all false
set_option linter.unusedSectionVars false
set_option linter.unusedSimpArgs false
set_option linter.unusedVariables false
namespace Go.Proofs
open Go Go.Idl
set_option linter.unusedSimpArgs false
def funcOk (fn : Func) : Bool := (fn.name != "runtime.NumGoroutine") && (match fn.body with | some c => codeOk fn.ntmps c | none => true)
theorem funcs_ok : (Tryd.prog.funcs.toList.all funcOk) = true := by kernel_rfl
theorem prog_ok : ProgOk Tryd.prog where
  mixed := by kernel_rfl
  name g fn hg _ := by
    have := List.all_eq_true.1 funcs_ok fn (by rw [Array.mem_toList_iff]; exact Array.mem_of_getElem? hg)
    simp only [funcOk, Bool.and_eq_true, bne_iff_ne, ne_eq] at this
    exact this.1
  slots g fn c hg hb := by
    have := List.all_eq_true.1 funcs_ok fn (by rw [Array.mem_toList_iff]; exact Array.mem_of_getElem? hg)
    simp only [funcOk, hb, Bool.and_eq_true] at this
    exact this.2
theorem ext_false : ExtOk Tryd.prog (AA false) := .mk (fun g h args r hg => by
  have : extT false g = some h := hg
  unfold extT at this
  simp only [Bool.false_eq_true, if_false, ite_self, reduceCtorEq] at this) (fun g k h => nomatch h)
theorem pcall_of {A : Ann} (hA : ExtOk Tryd.prog A) {g : FuncId} {args : List Vl} {v : Vl} (h : Pures Tryd.prog A g args v) : PCall Tryd.prog g args v := by
  obtain ⟨k, h⟩ := h
  exact pure_calls prog_ok hA (exec_ok prog_ok hA k) h
theorem unkc_kc : ∀ {cs : List Vl} {k : List (Int × Int)}, unkc cs = some k → cs = kc k
  | [], k, h => by cases h; rfl
  | x :: [], k, h => by unfold unkc at h; split at h <;> simp_all
  | x :: y :: r, k, h => by
    unfold unkc at h
    split at h
    · simp_all
    · rename_i a b r' he
      obtain ⟨k', h1, rfl⟩ := Option.map_eq_some_iff.1 h
      simp only [List.cons.injEq] at he
      obtain ⟨rfl, rfl, rfl⟩ := he
      rw [unkc_kc h1]; rfl
    · cases h
theorem unR_encR {v : Vl} {r : Rule} (h : unR v = some r) : v = encR r ∧ RB r := by
  unfold unR at h
  split at h
  · rename_i a b n
    split at h
    · rename_i hc
      cases h
      obtain ⟨A, rfl⟩ := Int.eq_ofNat_of_zero_le hc.1
      obtain ⟨B, rfl⟩ := Int.eq_ofNat_of_zero_le hc.2.2.1
      exact ⟨rfl, by simp only [RB, Int.toNat_natCast]; omega⟩
    · cases h
  · cases h
theorem mapO_unR : ∀ {ls : List Vl} {rs : List Rule}, mapO unR ls = some rs → ls = rs.map encR ∧ ∀ r ∈ rs, RB r
  | [], rs, h => by cases h; exact ⟨rfl, by simp⟩
  | x :: ls, rs, h => by
    unfold mapO at h
    obtain ⟨r, h1, h⟩ := Option.bind_eq_some_iff.1 h
    obtain ⟨rs', h2, rfl⟩ := Option.map_eq_some_iff.1 h
    obtain ⟨e1, e2⟩ := unR_encR h1
    obtain ⟨e3, e4⟩ := mapO_unR h2
    refine ⟨by rw [e1, e3]; rfl, fun q hq => ?_⟩
    rcases List.mem_cons.1 hq with rfl | hq
    · exact e2
    · exact e4 q hq
theorem nar_call (args : List Vl) (r : Vl) (hr : narV args = some r) : PCall Tryd.prog 36 args r := by
  unfold narV at hr
  split at hr
  case h_2 => cases hr
  rename_i cs v
  obtain ⟨k, h1, hr⟩ := Option.bind_eq_some_iff.1 hr
  obtain ⟨ls, h2, hr⟩ := Option.bind_eq_some_iff.1 hr
  obtain ⟨rs, h3, hr⟩ := Option.bind_eq_some_iff.1 hr
  split at hr
  case isFalse => cases hr
  rename_i hc
  obtain ⟨c1, c2, c3⟩ := hc
  cases hr
  obtain ⟨rfl, hrb⟩ := mapO_unR h3
  have hk : InB k := ⟨c1, fun p hp => by simpa using List.all_eq_true.1 c2 p hp⟩
  rw [unkc_kc h1]
  have hv : ∃ o, v = SL 3 (rs.map encR) o := by
    unfold slEls at h2
    split at h2
    · cases hrs : rs.map encR with
      | nil => exact ⟨none, rfl⟩
      | cons a l => rw [hrs] at h2; cases h2
    · split at h2
      · rename_i he; cases h2; subst he; exact ⟨some _, rfl⟩
      · cases h2
    · cases h2
  obtain ⟨o, rfl⟩ := hv
  obtain ⟨v, h5, rfl⟩ := narrowed_to (b := false) hk hrb (by omega) (o := o)
  exact pcall_of ext_false h5
theorem ext_nar : ExtOk Tryd.prog AN := .mk (fun g h args r hg hr => by
  have hg : extN g = some h := hg
  unfold extN at hg
  split at hg
  case isFalse => cases hg
  rename_i e
  subst e
  cases hg
  exact nar_call args r hr) (fun g k h => nomatch h)
end Go.Proofs
namespace Go.Proofs
open Go Go.Idl
theorem awake_call : PCall Tryd.prog 7 [] (.bool true) := pure_calls prog_ok ext_nar (exec_ok prog_ok ext_nar 1000) aw7
end Go.Proofs
