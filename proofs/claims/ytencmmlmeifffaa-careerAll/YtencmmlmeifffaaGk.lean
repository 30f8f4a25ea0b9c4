/- What functions of the given program do in the ideal machine (G36), and the plain laws of what they answer; the conditions stand in each theorem. -/
import Derived.Test.YtencmmlmeifffaaGi
import Derived.Test.YtencmmlmeifffaaGg
set_option linter.all false
set_option linter.unusedSectionVars false
set_option linter.unusedSimpArgs false
set_option linter.unusedVariables false
namespace Go.Proofs
open Go Go.Idl
set_option linter.unusedSimpArgs false
variable {b : Bool}
def HD (h : Nat → Ob) (n : Nat) (due : List (Int × Int)) (l : List Int) : Nat → Ob := fun i => if i = n then .arr 2 (due.map encS) else if i = n + 1 then .arr 1 (l.map I) else h i
section
variable {h : Nat → Ob} {n nx : Nat} {due : List (Int × Int)} {l : List Int} {lc : List (Nat × Vl)}
theorem HD_0 : HD h n due l n = .arr 2 (due.map encS) := by unfold HD; rw [if_pos rfl]
theorem HD_1 : HD h n due l (n + 1) = .arr 1 (l.map I) := by unfold HD; rw [if_neg (by omega), if_pos rfl]
theorem HD_due {due' : List (Int × Int)} : upd (HD h n due l) n (.arr 2 (due'.map encS)) = HD h n due' l := by
  funext i; by_cases e : i = n
  · subst e; rw [upd_same, HD_0]
  · rw [upd_ne _ _ e]; unfold HD; simp only [e, if_false]
theorem HD_l {l' : List Int} : upd (HD h n due l) (n + 1) (.arr 1 (l'.map I)) = HD h n due l' := by
  funext i; by_cases e : i = n + 1
  · subst e; rw [upd_same, HD_1]
  · rw [upd_ne _ _ e]; unfold HD; simp only [e, if_false]
theorem HD_mk {k : Nat} : upd (upd h n (.arr 2 (List.replicate k (.agg [.int .i64 0, .int .i64 0])))) (n + 1) (.arr 1 (List.replicate k (.int .i64 0))) = HD h n (List.replicate k (0, 0)) (List.replicate k 0) := by
  have e1 : List.replicate k (Vl.agg [.int .i64 0, .int .i64 0]) = (List.replicate k ((0 : Int), (0 : Int))).map encS := by rw [List.map_replicate]; rfl
  have e2 : List.replicate k (Vl.int .i64 0) = (List.replicate k (0 : Int)).map I := by rw [List.map_replicate]
  rw [e1, e2]
  funext i
  unfold HD
  by_cases h1 : i = n + 1
  · subst h1; rw [upd_same, if_neg (by omega), if_pos rfl]
  · rw [upd_ne _ _ h1]
    by_cases h2 : i = n
    · subst h2; rw [upd_same, if_pos rfl]
    · rw [upd_ne _ _ h2, if_neg h2, if_neg h1]
theorem ixD0 {k eb : Nat} {ez : Vl} {i : Int} (hn : due.length = k) (h0 : 0 ≤ i) (hi : i < k) : indexAddrV (.slice 2 eb ez) (.v (.own n k)) (.int .i64 i) { lc := lc, hp := HD h n due l, nx := nx } = some (.v (.ep n k i.toNat 0), { lc := lc, hp := HD h n due l, nx := nx }) :=
  indexAddr_own HD_0 (by rw [List.length_map]; exact hn) ⟨h0, hi⟩ (by decide)
theorem rdD0 {k j off sz : Nat} {ag : Bool} (hn : due.length = k) (hj : j < k) : Mem.read { lc := lc, hp := HD h n due l, nx := nx } ag sz (.v (.ep n k j off)) = sub ag sz off (encS due[j]!) := by
  have hl : (due.map encS).length = k := by rw [List.length_map]; exact hn
  simp only [Mem.read, HD_0, hl, if_true]
  rw [List.getElem?_eq_getElem (by rw [hl]; exact hj), List.getElem_map, get!_eq (by omega)]
  rfl
theorem wrD0 {k j off : Nat} {v : Vl} (hn : due.length = k) (hj : j < k) : Mem.write { lc := lc, hp := HD h n due l, nx := nx } v (.v (.ep n k j off)) = (put off v (encS due[j]!)).map fun c => { lc := lc, hp := upd (HD h n due l) n (.arr 2 ((due.map encS).set j c)), nx := nx } := by
  have hl : (due.map encS).length = k := by rw [List.length_map]; exact hn
  simp only [Mem.write, HD_0, hl, if_true]
  rw [List.getElem?_eq_getElem (by rw [hl]; exact hj), List.getElem_map, get!_eq (by omega)]
  rfl
theorem HD_setD0 {j : Nat} {p q : Int} : upd (HD h n due l) n (.arr 2 ((due.map encS).set j (.agg [.int .i64 p, .int .i64 q]))) = HD h n (due.set j (p, q)) l := by
  have e : (due.map encS).set j (.agg [.int .i64 p, .int .i64 q]) = (due.set j (p, q)).map encS := by rw [List.map_set]; rfl
  rw [e, HD_due]
theorem ixD1 {k eb : Nat} {ez : Vl} {i : Int} (hn : l.length = k) (h0 : 0 ≤ i) (hi : i < k) : indexAddrV (.slice 1 eb ez) (.v (.own (n + 1) k)) (.int .i64 i) { lc := lc, hp := HD h n due l, nx := nx } = some (.v (.ep (n + 1) k i.toNat 0), { lc := lc, hp := HD h n due l, nx := nx }) :=
  indexAddr_own HD_1 (by rw [List.length_map]; exact hn) ⟨h0, hi⟩ (by decide)
theorem rdD1 {k j off sz : Nat} {ag : Bool} (hn : l.length = k) (hj : j < k) : Mem.read { lc := lc, hp := HD h n due l, nx := nx } ag sz (.v (.ep (n + 1) k j off)) = sub ag sz off (I l[j]!) := by
  have hl : (l.map I).length = k := by rw [List.length_map]; exact hn
  simp only [Mem.read, HD_1, hl, if_true]
  rw [List.getElem?_eq_getElem (by rw [hl]; exact hj), List.getElem_map, get!_eq (by omega)]
  rfl
theorem wrD1 {k j off : Nat} {v : Vl} (hn : l.length = k) (hj : j < k) : Mem.write { lc := lc, hp := HD h n due l, nx := nx } v (.v (.ep (n + 1) k j off)) = (put off v (I l[j]!)).map fun c => { lc := lc, hp := upd (HD h n due l) (n + 1) (.arr 1 ((l.map I).set j c)), nx := nx } := by
  have hl : (l.map I).length = k := by rw [List.length_map]; exact hn
  simp only [Mem.write, HD_1, hl, if_true]
  rw [List.getElem?_eq_getElem (by rw [hl]; exact hj), List.getElem_map, get!_eq (by omega)]
  rfl
theorem HD_setD1 {j : Nat} {p : Int} : upd (HD h n due l) (n + 1) (.arr 1 ((l.map I).set j (.int .i64 p))) = HD h n due (l.set j p) := by
  have e : (l.map I).set j (.int .i64 p) = (l.set j p).map I := by rw [List.map_set]
  rw [e, HD_l]
theorem wc37 {R : Roll} (hv : Val R) (hl : l.length = 2 * R.ms.length + R.cs.length) (hb : ∀ i, i < l.length → -4000 ≤ l[i]! ∧ l[i]! ≤ 4000) {D : Bool} (hD : D = true ↔ LivedL R l) {o1 o2 o3 o4 : Option Bool} {k : Nat} (hk : l.length = k) {K : Vl → Mem → Prop} :
    WC Try.prog (AA b) (.fn (.func 37) [] []) [.v (encRoll o1 o2 o3 o4 R), .v (.own (n + 1) k)] ⟨lc, HD h n due l, nx⟩ K = K (.bool D) ⟨lc, HD h n due l, nx⟩ :=
  WC_flat (vs := [encRoll o1 o2 o3 o4 R, SL 1 (l.map I) (some false)]) (ks := [n + 1]) (p := false) (by simp only [mkAnn, K37]) (by
    have h1 : reify (HD h n due l) (.own (n + 1) k) = some (.lst 1 (l.map I) false, [n + 1]) := reify_flat (.inl HD_1) hk fun _ => rfl
    have h2 : reify (HD h n due l) (encRoll o1 o2 o3 o4 R) = some (encRoll o1 o2 o3 o4 R, []) := rfC (clRoll o1 o2 o3 o4 R)
    simp only [reifyAs_v, reifyAs_nil, h1, h2, Option.bind_some, Option.map_some, List.append_nil, List.nil_append, Bool.or_false]
    rfl) (lived_to hv hl hb hD) rfl
theorem rfD0 {k : Nat} (hk : due.length = k) : reify (HD h n due l) (.own n k) = some (.lst 2 (due.map encS) false, [n]) := reify_flat (.inl HD_0) hk fun _ => rfl
theorem slice_midM {α : Type} {f : α → Vl} {e eb : Nat} {ez : Vl} {xs : List α} {x : Bool} {k k' : IntKind} {l l' : Int} {m : Mem} (he : e ≠ 0) (h0 : 0 ≤ l) (h1 : l ≤ l') (h2 : l' ≤ xs.length) : sliceV (.slice e eb ez) (.lst e (xs.map f) x) (some (.int k l)) (some (.int k' l')) none m = some (.v (.lst e (((xs.take l'.toNat).drop l.toNat).map f) false), m) := by
  have h3 : 0 ≤ l' := Int.le_trans h0 h1
  have h4 : l ≤ ((l'.toNat : Nat) : Int) := by omega
  have h5 : (l' : Int) ≤ ((xs.map f).length : Nat) := by rw [List.length_map]; exact h2
  simp only [sliceV, he, if_false, if_true, Option.bind_some, cutV, intOf?, h0, h4, h3, h5, and_self, Option.map_some, List.map_take, List.map_drop]
end
end Go.Proofs
