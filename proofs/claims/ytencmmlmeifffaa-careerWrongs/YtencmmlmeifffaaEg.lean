/- What functions of the given program do in the ideal machine (E13), and the plain laws of what they answer; the conditions stand in each theorem. -/
import Derived.Test.YtencmmlmeifffaaEf
import Derived.Test.YtencmmlmeifffaaEe
set_option linter.all false
set_option linter.unusedSectionVars false
set_option linter.unusedSimpArgs false
set_option linter.unusedVariables false
namespace Go.Proofs
open Go Go.Idl
set_option linter.unusedSimpArgs false
variable {b : Bool}
def encAlt (rs : List Rule) : Vl := .lst 3 (rs.map encR) true
def apart (i k : Nat) (n : Int) : List (List Rule) := [[⟨12 + i, 12 + k, n⟩], [⟨12 + k, 12 + i, n⟩]]
theorem wrap12 {i : Nat} (h : i < 8) : IntKind.wrap .i64 (12 + (i : Int)) = ((12 + i : Nat) : Int) := by rw [wrap_i64 (by omega) (by omega)]; omega
theorem apart_to {p q nx i k : Nat} {hp : Nat → Ob} {n : Int} (h1 : hp p = .box (I i)) (h2 : hp q = .box (I k)) (hi : i < 8) (hk : k < 8) :
    HAns Try.prog (AA b) 100 [I n, .bp p 0, .bp q 0] hp nx (fun v hp' nx' => v = .lst 1 ((apart i k n).map encAlt) true ∧ hp' = hp ∧ nx' = nx) := by
  refine HAns_of Try.func100 rfl ?_
  simp only [go_sem, seval, -List.reduceReplicate]
  refine wp_draw (ps := [(2, 1), (7, 1), (7, 3), (9, 1), (9, 3), (9, 8)]) (by kernel_rfl) (by kernel_rfl) rfl ?_
  simp only [go_sem, seval, -List.reduceReplicate, h1, h2, wrap12 hi, wrap12 hk]
  rfl
theorem closed_R (rs : List Rule) : closedL (rs.map encR) = true := by
  induction rs with
  | nil => rfl
  | cons r rs ih => simp [closedL, Vl.closed, encR, ih]
theorem closed_alts (l : List (List Rule)) : closedL (l.map encAlt) = true := by
  induction l with
  | nil => rfl
  | cons r l ih => simp [closedL, Vl.closed, encAlt, ih, closed_R]
theorem mapR_alts {inn : Vl → Option (Vl × List Nat)} {hp : Nat → Ob} (l : List (List Rule)) : mapR (reifyF inn hp) (l.map encAlt) = some (l.map encAlt, []) := by
  induction l with
  | nil => rfl
  | cons r l ih =>
    simp only [List.map_cons, mapR]
    rw [ih]
    have : reifyF inn hp (encAlt r) = some (encAlt r, []) := by
      show (if closedL (r.map encR) then some (Vl.lst 3 (r.map encR) true, []) else none) = _
      rw [if_pos (closed_R r)]; rfl
    rw [this]; rfl
theorem reify_own {hp : Nat → Ob} {id n e : Nat} {l : List (List Rule)} (h : hp id = .arr e (l.map encAlt)) (hn : l.length = n) : reify hp (.own id n) = some (.lst e (l.map encAlt) false, [id]) := by
  unfold reify
  simp only [reifyF, h]
  rw [if_pos (by rw [List.length_map]; exact hn), mapR_alts]
  rfl
theorem ap128 {m : Mem} {xs : List Vl} {x : Vl} {t : Bool} (hs : xs.length < 1000) : isAppend Try.prog 128 128 (.lst 1 xs true) (.lst 1 [x] t) m = some (.own m.nx (xs.length + 1), { m with hp := upd m.hp m.nx (.arr 1 (xs ++ [x])), nx := m.nx + 1 }) := by
  unfold isAppend appendV
  rw [td128]
  simp only [Mem.elems, if_true, Option.bind_some, List.length_cons, List.length_nil, Nat.zero_add]
  have hg : okGrow 24 1 .nils (xs.length + 1) = true := grow_ok rfl rfl (by decide) (by decide) (by omega)
  rw [hg]
  simp
def pairF (os : List Office) (fs : List (List Bool)) (a c : Rec) (i k : Nat) : Option (List (List Rule)) :=
  if a.office = c.office ∧ 0 ≤ a.office then some (apart i k (offAt os a.office).again ++ (if farAt fs a.town c.town then [] else [[⟨12 + i, 12 + k, 0⟩, ⟨12 + k, 12 + i, 0⟩]]))
  else if a.office < 0 ∨ c.office < 0 then (if farAt fs a.town c.town then some (apart i k 1) else none)
  else
    let n := (offAt os (max a.office c.office)).gap
    let n := if farAt fs a.town c.town then max 1 n else n
    if c.office < a.office then some [[⟨12 + k, 12 + i, n⟩]] else some [[⟨12 + i, 12 + k, n⟩]]
def pairV (w : Option (List (List Rule))) (v : Vl) : Prop := match w with
  | none => v = .nils
  | some l => ∃ o, v = .lst 1 (l.map encAlt) o
theorem pair_to {os : List Office} {fs : List (List Bool)} {cs : List Rec} {a c : Rec} {i k : Nat} {life plo phi : Int} {oo of oc : Option Bool} {mv : Vl}
    (hfs : ∀ r ∈ fs, r.length = fs.length) (ha : cs[i]? = some a) (hc : cs[k]? = some c) (hcs : cs.length ≤ 8)
    (hak : a.kin = false) (hck : c.kin = false) (hd : ∀ d ∈ cs, d.kin = false → -1 ≤ d.office ∧ d.office < os.length ∧ 0 ≤ d.town ∧ d.town < fs.length) (hmv : mv.cells = [mv] ∧ mv.undef? = false) :
    Ans Try.prog (AA b) 99 [.agg [SL 3 (os.map encO) oo, I life, I plo, I phi, SL 1 (fs.map encRow) of, mv, SL 7 (cs.map encC) oc], I i, I k] (pairV (pairF os fs a c i k)) := by
  refine Ans_of Try.func99 rfl rfl ?_
  have hi : i < cs.length := (List.getElem?_eq_some_iff.1 ha).1
  have hk : k < cs.length := (List.getElem?_eq_some_iff.1 hc).1
  have ica := ixSL (e := 7) (f := encC) (xs := cs) (o := oc) (i := (i : Int)) c0 (by omega) (by omega) (by decide)
  have icc := ixSL (e := 7) (f := encC) (xs := cs) (o := oc) (i := (k : Int)) c0 (by omega) (by omega) (by decide)
  rw [show cs.getD (i : Int).toNat c0 = a by rw [Int.toNat_natCast, List.getD_eq_getElem?_getD, ha]; rfl] at ica
  rw [show cs.getD (k : Int).toNat c0 = c by rw [Int.toNat_natCast, List.getD_eq_getElem?_getD, hc]; rfl] at icc
  obtain ⟨a1, a2, a3, a4⟩ := hd a (List.mem_of_getElem? ha) hak
  obtain ⟨e1, e2, e3, e4⟩ := hd c (List.mem_of_getElem? hc) hck
  have idt := ixSL (e := 1) (f := encRow) (xs := fs) (o := of) (i := a.town) [] a3 a4 (by decide)
  have hrow : (fs.getD a.town.toNat []).length = fs.length := by
    have hl : a.town.toNat < fs.length := by omega
    rw [List.getD_eq_getElem?_getD, List.getElem?_eq_getElem hl]
    exact hfs _ (List.getElem_mem hl)
  have idf := ixSL (e := 1) (f := Vl.bool) (xs := fs.getD a.town.toNat []) (o := some false) (i := c.town) false e3 (by rw [hrow]; exact e4) (by decide)
  have hu0 : ∀ (f : Nat → Ob) (x : Ob), upd f 1 x 0 = f 0 := fun f x => upd_ne _ _ (by decide)
  have hu1 : ∀ (f : Nat → Ob) (x : Ob), upd f 0 x 1 = f 1 := fun f x => upd_ne _ _ (by decide)
  simp only [go_sem, seval, -List.reduceReplicate, newBox]
  refine wp_draw (ps := [(6, 12), (7, 12), (8, 12), (9, 12)]) (by kernel_rfl) (by kernel_rfl) rfl ?_
  simp only [go_sem, seval, -List.reduceReplicate, hu0, ica, icc, encC]
  refine wp_draw (ps := []) (by kernel_rfl) (by kernel_rfl) rfl ?_
  have hc8 : i < 8 := by omega
  have hk8 : k < 8 := by omega
  by_cases eo : a.office = c.office
  · have eo' : (a.office = c.office) = True := eq_true eo
    by_cases co : 0 ≤ a.office
    · have io := ixSL (e := 3) (f := encO) (xs := os) (o := oo) (i := a.office) o0 co a2 (by decide)
      have hA := apart_to (b := b) (p := 0) (q := 1) (nx := 2) (i := i) (k := k) (hp := upd (upd noHeap 0 (.box (I i))) 1 (.box (I k))) (n := (os.getD a.office.toNat o0).again) (by rw [upd_ne _ _ (by decide), upd_same]) (upd_same _ _ _) hc8 hk8
      cases hfr : (fs.getD a.town.toNat []).getD c.town.toNat false with
      | true =>
        simp only [go_sem, seval, -List.reduceReplicate, encRow, idt, idf, hfr, eo', co, io, encO]
        refine wc_heap (by simp only [mkAnn, K100]) rfl hA ?_
        rintro v hp' nx' ⟨rfl, rfl, rfl⟩
        simp only [go_sem, seval, -List.reduceReplicate, reify_lst (closed_alts _)]
        unfold pairF farAt
        rw [if_pos ⟨eo, co⟩, hfr]
        exact ⟨true, by simp [offAt]⟩
      | false =>
        simp only [go_sem, seval, -List.reduceReplicate, encRow, idt, idf, hfr, eo', co, io, encO]
        refine wc_heap (by simp only [mkAnn, K100]) rfl hA ?_
        rintro v hp' nx' ⟨rfl, rfl, rfl⟩
        simp only [go_sem, seval, -List.reduceReplicate]
        refine wp_draw (ps := [(3, 2), (6, 2), (6, 4), (8, 2), (8, 4), (8, 7)]) (by kernel_rfl) (by kernel_rfl) rfl ?_
        simp only [go_sem, seval, -List.reduceReplicate, hu0, wrap12 hc8, wrap12 hk8]
        have e2 : Vl.lst 3 [.agg [I ((12 + i : Nat) : Int), I ((12 + k : Nat) : Int), .int .i64 0], .agg [I ((12 + k : Nat) : Int), I ((12 + i : Nat) : Int), .int .i64 0]] true = encAlt [(⟨12 + i, 12 + k, 0⟩ : Rule), ⟨12 + k, 12 + i, 0⟩] := by simp only [encAlt, encR, List.map_cons, List.map_nil]
        rw [e2]
        have h128 := fun (t : Bool) (m : Mem) => ap128 (m := m) (xs := (apart i k (os.getD a.office.toNat o0).again).map encAlt) (x := encAlt [(⟨12 + i, 12 + k, 0⟩ : Rule), ⟨12 + k, 12 + i, 0⟩]) (t := t) (by simp [apart])
        simp only [h128, Od_some, OB_some]
        simp only [go_sem, List.length_map]
        refine OB_intro (reify_own (l := apart i k (os.getD a.office.toNat o0).again ++ [[⟨12 + i, 12 + k, 0⟩, ⟨12 + k, 12 + i, 0⟩]]) (e := 1) (by rw [upd_same, List.map_append]; rfl) rfl) ?_
        unfold pairF farAt
        rw [if_pos ⟨eo, co⟩, hfr]
        exact ⟨false, rfl⟩
    · have hlt : a.office < 0 := by omega
      have co' : ¬ (0 ≤ a.office) := co
      have hA := apart_to (b := b) (p := 0) (q := 1) (nx := 2) (i := i) (k := k) (hp := upd (upd noHeap 0 (.box (I i))) 1 (.box (I k))) (n := 1) (by rw [upd_ne _ _ (by decide), upd_same]) (upd_same _ _ _) hc8 hk8
      have hn : ¬ (a.office = c.office ∧ 0 ≤ a.office) := fun h => co h.2
      cases hfr : (fs.getD a.town.toNat []).getD c.town.toNat false with
      | true =>
        simp only [go_sem, seval, -List.reduceReplicate, encRow, idt, idf, hfr, eo', co', hlt]
        refine wc_heap (by simp only [mkAnn, K100]) rfl hA ?_
        rintro v hp' nx' ⟨rfl, rfl, rfl⟩
        simp only [go_sem, seval, -List.reduceReplicate, reify_lst (closed_alts _)]
        unfold pairF farAt
        rw [if_neg hn, if_pos (.inl hlt), hfr]
        exact ⟨true, rfl⟩
      | false =>
        simp only [go_sem, seval, -List.reduceReplicate, encRow, idt, idf, hfr, eo', co', hlt]
        unfold pairF farAt
        rw [if_neg hn, if_pos (.inl hlt), hfr]
        rfl
  · have hn : ¬ (a.office = c.office ∧ 0 ≤ a.office) := fun h => eo h.1
    have hA := apart_to (b := b) (p := 0) (q := 1) (nx := 2) (i := i) (k := k) (hp := upd (upd noHeap 0 (.box (I i))) 1 (.box (I k))) (n := 1) (by rw [upd_ne _ _ (by decide), upd_same]) (upd_same _ _ _) hc8 hk8
    by_cases neg : a.office < 0 ∨ c.office < 0
    · have hfin : ∀ (f : Bool), (fs.getD a.town.toNat []).getD c.town.toNat false = f → pairF os fs a c i k = if f then some (apart i k 1) else none := fun f hf => by
        unfold pairF farAt
        rw [if_neg hn, if_pos neg, hf]
      cases hfr : (fs.getD a.town.toNat []).getD c.town.toNat false with
      | true =>
        have hp := hfin true hfr
        by_cases an : a.office < 0
        · simp only [go_sem, seval, -List.reduceReplicate, encRow, idt, idf, hfr, eo, an]
          refine wc_heap (by simp only [mkAnn, K100]) rfl hA ?_
          rintro v hp' nx' ⟨rfl, rfl, rfl⟩
          simp only [go_sem, seval, -List.reduceReplicate, reify_lst (closed_alts _)]
          rw [hp]; exact ⟨true, rfl⟩
        · have cn : c.office < 0 := by omega
          simp only [go_sem, seval, -List.reduceReplicate, encRow, idt, idf, hfr, eo, an, cn]
          refine wc_heap (by simp only [mkAnn, K100]) rfl hA ?_
          rintro v hp' nx' ⟨rfl, rfl, rfl⟩
          simp only [go_sem, seval, -List.reduceReplicate, reify_lst (closed_alts _)]
          rw [hp]; exact ⟨true, rfl⟩
      | false =>
        have hp := hfin false hfr
        by_cases an : a.office < 0
        · simp only [go_sem, seval, -List.reduceReplicate, encRow, idt, idf, hfr, eo, an]
          rw [hp]; rfl
        · have cn : c.office < 0 := by omega
          simp only [go_sem, seval, -List.reduceReplicate, encRow, idt, idf, hfr, eo, an, cn]
          rw [hp]; rfl
    · have an : ¬ a.office < 0 := fun h => neg (.inl h)
      have cn : ¬ c.office < 0 := fun h => neg (.inr h)
      have io := ixSL (e := 3) (f := encO) (xs := os) (o := oo) (i := max a.office c.office) o0 (by omega) (by omega) (by decide)
      have hfin : ∀ (f : Bool), (fs.getD a.town.toNat []).getD c.town.toNat false = f → pairF os fs a c i k = if c.office < a.office then some [[⟨12 + k, 12 + i, if f then max 1 (offAt os (max a.office c.office)).gap else (offAt os (max a.office c.office)).gap⟩]] else some [[⟨12 + i, 12 + k, if f then max 1 (offAt os (max a.office c.office)).gap else (offAt os (max a.office c.office)).gap⟩]] := fun f hf => by
        unfold pairF farAt
        rw [if_neg hn, if_neg neg, hf]
      cases hfr : (fs.getD a.town.toNat []).getD c.town.toNat false with
      | true =>
        have hp := hfin true hfr
        have hm1 : max 1 (os.getD (max a.office c.office).toNat o0).gap = max 1 (offAt os (max a.office c.office)).gap := rfl
        by_cases gt : c.office < a.office
        · simp only [go_sem, seval, -List.reduceReplicate, encRow, idt, idf, hfr, eo, an, cn, gt, hu0, hu1, io, encO]
          refine wp_draw (ps := [(2, 1)]) (by kernel_rfl) (by kernel_rfl) rfl ?_
          simp only [go_sem, seval, -List.reduceReplicate, hu0, hu1, wrap12 hc8, wrap12 hk8]
          rw [hp, if_pos gt]
          refine OB_intro (reify_lst (by rfl)) ⟨true, rfl⟩
        · simp only [go_sem, seval, -List.reduceReplicate, encRow, idt, idf, hfr, eo, an, cn, gt, hu0, hu1, io, encO]
          refine wp_draw (ps := [(2, 1)]) (by kernel_rfl) (by kernel_rfl) rfl ?_
          simp only [go_sem, seval, -List.reduceReplicate, hu0, hu1, wrap12 hc8, wrap12 hk8]
          rw [hp, if_neg gt]
          refine OB_intro (reify_lst (by rfl)) ⟨true, rfl⟩
      | false =>
        have hp := hfin false hfr
        by_cases gt : c.office < a.office
        · simp only [go_sem, seval, -List.reduceReplicate, encRow, idt, idf, hfr, eo, an, cn, gt, hu0, hu1, io, encO]
          refine wp_draw (ps := [(2, 1)]) (by kernel_rfl) (by kernel_rfl) rfl ?_
          simp only [go_sem, seval, -List.reduceReplicate, hu0, hu1, wrap12 hc8, wrap12 hk8]
          rw [hp, if_pos gt]
          refine OB_intro (reify_lst (by rfl)) ⟨true, rfl⟩
        · simp only [go_sem, seval, -List.reduceReplicate, encRow, idt, idf, hfr, eo, an, cn, gt, hu0, hu1, io, encO]
          refine wp_draw (ps := [(2, 1)]) (by kernel_rfl) (by kernel_rfl) rfl ?_
          simp only [go_sem, seval, -List.reduceReplicate, hu0, hu1, wrap12 hc8, wrap12 hk8]
          rw [hp, if_neg gt]
          refine OB_intro (reify_lst (by rfl)) ⟨true, rfl⟩
end Go.Proofs
