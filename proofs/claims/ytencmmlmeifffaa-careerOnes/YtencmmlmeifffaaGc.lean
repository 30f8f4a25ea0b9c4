/- What functions of the given program do in the ideal machine (G8, G9, G10), and the plain laws of what they answer; the conditions stand in each theorem. -/
import Derived.Test.YtencmmlmeifffaaGb
set_option linter.all false
set_option linter.unusedSectionVars false
set_option linter.unusedSimpArgs false
set_option linter.unusedVariables false
namespace Go.Proofs
open Go Go.Idl
set_option linter.unusedSimpArgs false
variable {b : Bool}
def LV (hp : Nat → Ob) (lo nx : Nat) (l : List Nat) (v : Vl) : Prop := (l = [] ∧ v = .nils) ∨ ∃ id, l ≠ [] ∧ lo ≤ id ∧ id < nx ∧ v = .own id l.length ∧ (hp id = .arr 1 (l.map IN) ∨ hp id = .fro 1 (l.map IN))
def FrzR (kk nx : Nat) (hp hp' : Nat → Ob) : Prop := ∀ i, i < nx → i ≠ kk → hp' i = hp i ∨ ∃ e xs, hp i = .arr e xs ∧ hp' i = .fro e xs
theorem FrzR.refl {kk nx : Nat} {hp : Nat → Ob} : FrzR kk nx hp hp := fun _ _ _ => .inl rfl
theorem FrzR.trans {kk nx nx' : Nat} {hp hp' hp'' : Nat → Ob} (h : FrzR kk nx hp hp') (h' : FrzR kk nx' hp' hp'') (hn : nx ≤ nx') : FrzR kk nx hp hp'' := by
  intro i hi hk
  rcases h i hi hk with e | ⟨a, xs, e1, e2⟩
  · rcases h' i (by omega) hk with e' | ⟨a, xs, e1, e2⟩
    · exact .inl (by rw [e', e])
    · exact .inr ⟨a, xs, by rw [← e, e1], e2⟩
  · rcases h' i (by omega) hk with e' | ⟨a', xs', e1', e2'⟩
    · exact .inr ⟨a, xs, e1, by rw [e', e2]⟩
    · rw [e2] at e1'; cases e1'
theorem FrzR.box {kk nx : Nat} {hp hp' : Nat → Ob} (h : FrzR kk nx hp hp') {i : Nat} (hi : i < nx) (hk : i ≠ kk) {v : Vl} (hb : hp i = .box v) : hp' i = .box v := by
  rcases h i hi hk with e | ⟨a, xs, e1, e2⟩
  · rw [e, hb]
  · rw [hb] at e1; cases e1
theorem LV.frz {kk lo nx nx' : Nat} {hp hp' : Nat → Ob} {l : List Nat} {v : Vl} (h : LV hp lo nx l v) (hf : FrzR kk nx hp hp') (hk : kk < lo) (hn : nx ≤ nx') : LV hp' lo nx' l v := by
  rcases h with h | ⟨id, h0, h1, h2, h3, h4⟩
  · exact .inl h
  · refine .inr ⟨id, h0, h1, by omega, h3, ?_⟩
    rcases hf id h2 (by omega) with e | ⟨a, xs, e1, e2⟩
    · rw [e]; exact h4
    · rcases h4 with h4 | h4
      · rw [h4] at e1; cases e1; exact .inr e2
      · rw [h4] at e1; cases e1
end Go.Proofs
namespace Go.Proofs
open Go Go.Idl
set_option linter.unusedSimpArgs false
variable {b : Bool}
end Go.Proofs
namespace Go.Proofs
open Go Go.Idl
set_option linter.unusedSimpArgs false
variable {b : Bool}
section
variable {m : Mem} {K : Vl → Mem → Prop}
end
def keptTo (r : Roll) (l : List Nat) (n : Nat) : List Rec := ((List.range n).filter fun i => !l.contains i).map fun i => r.cs[i]!
def dropF (r : Roll) (l : List Nat) : Roll := { r with cs := keptTo r l r.cs.length }
theorem keptTo_len {r : Roll} {l : List Nat} {n : Nat} : (keptTo r l n).length ≤ n := by
  unfold keptTo
  rw [List.length_map]
  exact Nat.le_trans (List.length_filter_le _ _) (by simp)
theorem keptTo_mem {r : Roll} {l : List Nat} {n : Nat} (hn : n ≤ r.cs.length) {c : Rec} (h : c ∈ keptTo r l n) : c ∈ r.cs := by
  unfold keptTo at h
  obtain ⟨i, hi, rfl⟩ := List.mem_map.1 h
  have := List.mem_range.1 (List.mem_filter.1 hi).1
  exact get!_mem (by omega)
theorem Val.drop {r : Roll} (hv : Val r) (l : List Nat) : Val (dropF r l) :=
  { os_l := hv.os_l, os_ok := hv.os_ok, life := hv.life, par := hv.par, fs_l := hv.fs_l, fs_ok := hv.fs_ok, ms_l := hv.ms_l, ms_ok := hv.ms_ok
    cs_l := Nat.le_trans keptTo_len hv.cs_l
    cs_ok := fun c h => hv.cs_ok c (keptTo_mem (Nat.le_refl _) h) }
def CV (hp : Nat → Ob) (lo nx : Nat) (cs : List Rec) (v : Vl) : Prop := (cs = [] ∧ v = .nils) ∨ ∃ id, cs ≠ [] ∧ lo ≤ id ∧ id < nx ∧ v = .own id cs.length ∧ hp id = .arr 7 (cs.map encC)
theorem CV.other {hp : Nat → Ob} {lo nx nx' i : Nat} {cs : List Rec} {v : Vl} {o : Ob} (h : CV hp lo nx cs v) (hi : nx ≤ i ∨ i < lo) (hn : nx ≤ nx') : CV (upd hp i o) lo nx' cs v := by
  rcases h with h | ⟨id, h0, h1, h2, h3, h4⟩
  · exact .inl h
  · exact .inr ⟨id, h0, h1, by omega, h3, by rw [upd_ne _ _ (by omega)]; exact h4⟩
theorem clSL (e : Nat) {α : Type} (f : α → Vl) (h : ∀ x, (f x).closed = true) (l : List α) (o : Option Bool) : (SL e (l.map f) o).closed = true := closed_SL (closedL_map h l)
end Go.Proofs
