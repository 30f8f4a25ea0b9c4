/- What functions of the given program do in the ideal machine (J21), and the plain laws of what they answer; the conditions stand in each theorem. -/
import Derived.Test.YtoamjmokonnglaaJl
import Derived.Test.YtoamjmokonnglaaTb
set_option linter.all false
set_option linter.unusedSectionVars false
set_option linter.unusedSimpArgs false
set_option linter.unusedVariables false
namespace Go.Proofs
open Go Go.Idl Go.Dt
set_option linter.unusedSimpArgs false
variable {b : Nat}
def wOf (ys fs : List Int) (v : Nat) : Int := if v = 0 then 0 else if v < 7 then ys.getD (v - 1) 0 else fs.getD (v - 7) 0
theorem getD_get! {l : List Int} {i : Nat} : l.getD i 0 = l[i]! := by
  rw [List.getD_eq_getElem?_getD, List.getElem!_eq_getElem?_getD]; rfl
theorem wOf_y {ys fs : List Int} {i : Nat} (h : i < 6) : wOf ys fs (1 + i) = ys[i]! := by
  unfold wOf
  rw [if_neg (by omega), if_pos (by omega), getD_get!, show 1 + i - 1 = i by omega]
theorem wOf_f {ys fs : List Int} {i : Nat} : wOf ys fs (7 + i) = fs[i]! := by
  unfold wOf
  rw [if_neg (by omega), if_neg (by omega), getD_get!, show 7 + i - 7 = i by omega]
theorem get!_none {l : List Int} {i : Nat} (h : l.length ≤ i) : l[i]! = 0 := by
  rw [List.getElem!_eq_getElem?_getD, List.getElem?_eq_none h]; rfl
variable {S N far base st : Int} {es : List (Int × Int)} {ns : List Nt} {ys fs : List Int}
theorem Made.dtok (h : Made S N far base st es ns ys fs) (hS : S ≤ 6) (hN : N ≤ 8) : DtOk ⟨st, es, ns⟩ where
  stones := by have := h.st_b; simp only; omega
  eras_l := by have := h.es_l; simp only; omega
  eras := h.es_ok
  notes_l := by have := h.ns_l; simp only; omega
  notes n hn := by
    have k := (h.ns_ok n hn).ok
    exact ⟨k.kind, k.stone, k.years, k.span, k.plain, k.era, k.after⟩
theorem NMade.right {n : Nt} (k : NMade st es ys fs n) (h6 : st ≤ 6) : n.right (wOf ys fs) := by
  have hk := k.ok.kind
  have hs := k.ok.stone
  have hs' : 0 ≤ n.stone ∧ n.stone < st := hs
  have ey : wOf ys fs (1 + n.stone.toNat) = ys[n.stone.toNat]! := wOf_y (by omega)
  have e0 : wOf ys fs 0 = 0 := rfl
  unfold Nt.right Nt.wk Wk.right
  by_cases e1 : n.kind = 1
  · rw [if_pos e1]
    refine ⟨(ys[n.stone.toNat]!, ys[n.stone.toNat]!), List.mem_map_of_mem (f := fun y => (y, y)) (k.t1 e1), ?_⟩
    simp only
    rw [ey, e0]
    omega
  · rw [if_neg e1]
    by_cases e3 : n.kind = 3
    · have he := k.ok.era e3
      have ef : wOf ys fs (7 + n.other.toNat) = fs[n.other.toNat]! := wOf_f
      have := k.t3 e3
      rw [if_pos e3]
      refine ⟨_, List.mem_singleton.2 rfl, ?_⟩
      simp only
      rw [ey, ef]
      omega
    · rw [if_neg e3]
      by_cases e4 : n.kind = 4
      · have he := k.ok.after e4
        have he' : 0 ≤ n.other ∧ n.other < st ∧ n.other ≠ n.stone := he
        have ef : wOf ys fs (1 + n.other.toNat) = ys[n.other.toNat]! := wOf_y (by omega)
        have := k.t4 e4
        rw [if_pos e4]
        refine ⟨_, List.mem_singleton.2 rfl, ?_⟩
        simp only
        rw [ey, ef]
        exact this
      · have := k.t2 (by omega)
        rw [if_neg e4]
        refine ⟨_, List.mem_singleton.2 rfl, ?_⟩
        simp only
        rw [ey, e0]
        omega
theorem Made.truth (h : Made S N far base st es ns ys fs) (hS : S ≤ 6) (hf : 0 ≤ far ∧ far ≤ 1000) : TrD ⟨st, es, ns⟩ (wOf ys fs) where
  zero := rfl
  bnd v hv := by
    have hb := h.bs
    by_cases e : v = 0
    · subst e; show -3000 ≤ (0 : Int) ∧ (0 : Int) ≤ 3000; omega
    · by_cases e2 : v < 7
      · have e3 : v = 1 + (v - 1) := by omega
        rw [e3, wOf_y (by omega)]
        by_cases hl : v - 1 < ys.length
        · have := h.ys_b _ (get!_mem hl); omega
        · rw [get!_none (by omega)]; omega
      · have e3 : v = 7 + (v - 7) := by omega
        rw [e3, wOf_f]
        by_cases hl : v - 7 < fs.length
        · have := h.fs_b _ (get!_mem hl); omega
        · rw [get!_none (by omega)]; omega
  eras j hj := by
    rw [wOf_f]
    exact h.es_t j hj
  notes n hn := (h.ns_ok n hn).right (by have := h.st_b; omega)
theorem tabs_some {d : Dt} (h : DtOk d) {w : Nat → Int} (hw : TrD d w) : tabsL d ≠ [] ∧ foundV d = (.lst 100 ((tabsL d).map tV) false, 0) ∧ checkE d = 0 := by
  have h0 := checkE_ok.2 h
  have hne : tabsL d ≠ [] := fun e => (tabs_none h).1 e w hw
  refine ⟨hne, ?_, h0⟩
  unfold foundV
  rw [if_neg (fun k => k h0), if_neg (fun k => hne (List.length_eq_zero_iff.1 k))]
theorem cutV_ok {d : Dt} (h : DtOk d) {w : Nat → Int} (hw : TrD d w) {i y : Int} (hi : 0 ≤ i ∧ i < d.stones) (hy : -3000 ≤ y ∧ y ≤ 3000) :
    cutV d i y = (verdT ((tabsL d).all (alwT (1 + i.toNat) y)) ((tabsL d).all (nevT (1 + i.toNat) y)), 0) := by
  obtain ⟨h1, h2, h3⟩ := tabs_some h hw
  unfold cutV
  rw [if_neg (fun k => k h3), if_neg (by omega), if_neg (by omega), h2, if_neg (by simp)]
theorem earV_ok {d : Dt} (h : DtOk d) {w : Nat → Int} (hw : TrD d w) {a c : Int} (ha : 0 ≤ a ∧ a < d.stones) (hc : 0 ≤ c ∧ c < d.stones) :
    earV d a c = (verdT ((tabsL d).all (befT (1 + a.toNat) (1 + c.toNat))) ((tabsL d).all (notT (1 + a.toNat) (1 + c.toNat))), 0) := by
  obtain ⟨h1, h2, h3⟩ := tabs_some h hw
  unfold earV
  rw [if_neg (fun k => k h3), if_neg (by omega), h2, if_neg (by simp)]
theorem verdT_fits {A N so : Bool} (h1 : A = true → so = true) (h2 : N = true → so = false) : fitsV (verdT A N) so = true := by
  unfold verdT
  cases A with
  | true => rw [h1 rfl]; rfl
  | false =>
    cases N with
    | true => rw [h2 rfl]; rfl
    | false => cases so <;> rfl
theorem cut_fits {d : Dt} (h : DtOk d) {w : Nat → Int} (hw : TrD d w) {i : Nat} {y : Int} (hi : (i : Int) < d.stones) (hy : -3000 ≤ y ∧ y ≤ 3000) : (cutV d i y).2 = 0 ∧ fitsV (cutV d i y).1 (decide (y = w (1 + i))) = true := by
  have h6 := h.stones
  rw [cutV_ok h hw (by omega) hy]
  refine ⟨rfl, verdT_fits (fun k => ?_) (fun k => ?_)⟩
  · have := (alwT_all (tabs_GT h) (v := 1 + i) (by omega)).1 k w ((tabs_tr h w).2 hw)
    exact decide_eq_true this.symm
  · have := (nevT_all (tabs_GT h) (v := 1 + i) (by omega)).1 k w ((tabs_tr h w).2 hw)
    exact decide_eq_false fun e => this e.symm
theorem ear_fits {d : Dt} (h : DtOk d) {w : Nat → Int} (hw : TrD d w) {a c : Nat} (ha : (a : Int) < d.stones) (hc : (c : Int) < d.stones) : (earV d a c).2 = 0 ∧ fitsV (earV d a c).1 (decide (w (1 + a) < w (1 + c))) = true := by
  have h6 := h.stones
  rw [earV_ok h hw (by omega) (by omega)]
  refine ⟨rfl, verdT_fits (fun k => ?_) (fun k => ?_)⟩
  · have := (befT_all (tabs_GT h) (a := 1 + a) (b := 1 + c) (by omega) (by omega)).1 k w ((tabs_tr h w).2 hw)
    exact decide_eq_true this
  · have := (notT_all (tabs_GT h) (a := 1 + a) (b := 1 + c) (by omega) (by omega)).1 k w ((tabs_tr h w).2 hw)
    exact decide_eq_false this
theorem len_spans {l : List (List Int)} {k n : Nat} {m : Mem} : builtinV Try.prog .len [22] [spansV l k n] m = some (.int .i64 n, m) := by
  unfold spansV
  rw [len_SL (by rw [td22]; rfl), List.length_map, List.length_range]
theorem slot_spans {l : List (List Int)} {k n t : Nat} : slotV t (spansV l k n) = .v (spansV l k n) := SL_slot
theorem ix_spans {l : List (List Int)} {k n i eb : Nat} {ez : Vl} {kd : IntKind} {m : Mem} (h : i < n) : indexAddrV (.slice 2 eb ez) (.v (spansV l k n)) (.int kd (i : Int)) m = some (.v (.fp (encS (joinT l (k + i))) 0), m) := by
  unfold spansV
  have := ix_map (f := fun i => encS (joinT l (k + i))) (xs := List.range n) (o := none) (k := kd) (m := m) (e := 2) (eb := eb) (ez := ez) (Int.natCast_nonneg i) (by rw [List.length_range]; omega) (by decide)
  rw [this, Int.toNat_natCast, get!_eq (by rw [List.length_range]; exact h), List.getElem_range]
section
variable {m : Mem} {K : Vl → Mem → Prop}
theorem wc15 : WC Try.prog (AA 2) (.fn (.func 15) [] []) [] m K = K (.bool true) m := by
  refine WC_flat (vs := []) (ks := []) (p := false) (by rfl) rfl ⟨.bool true, ⟨0, ?_⟩, rfl⟩ rfl
  unfold pureI
  rfl
end
end Go.Proofs
