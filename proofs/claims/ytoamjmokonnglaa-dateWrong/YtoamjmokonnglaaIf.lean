/- Parts of the own ideal machine over the model (no addresses, no capacities, no tape) and of the proof that it is sound; generic in the program; no conditions. -/
import Derived.Test.YtoamjmokonnglaaIe
import Derived.Deep.Slices
import Derived.WideShapes
import Derived.Lib.AppendStr
import Derived.Laws.AppendOwn
set_option linter.all false
set_option linter.unusedSectionVars false
set_option linter.unusedSimpArgs false
set_option linter.unusedVariables false
namespace Go.Idl
def TyF (r : TypeId → List Vl → Prop) : List Field → List Vl → Prop
  | [], xs => xs = []
  | f :: fs, xs => ∃ ys zs, xs = ys ++ zs ∧ r f.type ys ∧ TyF r fs zs
def mkE (ag : Bool) (y : List Vl) : Vl := if ag then .agg y else y.headD .undef
def TyL (P : Program) : Nat → TypeId → List Vl → Prop
  | 0, _, _ => False
  | d + 1, t, xs => match P.underlying t with
    | some .bool => ∃ b, xs = [.bool b]
    | some (.int k) => ∃ n, xs = [.int k n] ∧ (Lit.int k n).wf = true
    | some .string => ∃ s : ByteArray, xs = [.str s] ∧ s.size ≤ maxLen
    | some (.struct fs) => TyF (TyL P d) fs.toList xs
    | some (.slice e) => ∃ ys : List (List Vl), xs = [.lst (P.cellsOf e) (ys.map (mkE (aggT P e))) false] ∧ ys.length ≤ maxLen ∧ ∀ y ∈ ys, TyL P d e y
    | _ => False
def tileB (P : Program) : List Field → Nat → Nat → Bool
  | [], off, tot => off == tot
  | f :: fs, off, tot => f.offset == off && tileB P fs (off + P.cellsOf f.type) tot
def okTy (P : Program) : Nat → TypeId → Bool
  | 0, _ => false
  | d + 1, t => match P.underlying t with
    | some .bool | some .string => true
    | some (.int _) => true
    | some (.struct fs) => tileB P fs.toList 0 (P.cellsOf t) && fs.toList.all fun f => okTy P d f.type
    | some (.slice e) => okTy P d e && decide (0 < P.cellsOf e) && (aggT P e || P.cellsOf e == 1)
    | _ => false
section
variable {G : Gh} {hp : Nat → Ob} {nx : Nat} {w : World}
theorem cells_cell {x : Vl} {v : Value} (h : VR G hp nx w x v) (hc : isCell v = true) : x.cells = [x] := by
  cases h <;> first | rfl | cases hc
theorem VRs_len {xs : List Vl} : ∀ {vs : List Value}, VRs G hp nx w xs vs → xs.length = vs.length := by
  induction xs with
  | nil => intro vs h; cases h; rfl
  | cons x xs ih => intro vs h; cases h with | cons _ _ h => simp [ih h]
theorem VRs_app {xs : List Vl} : ∀ {vs : List Value} {ys : List Vl} {us : List Value}, VRs G hp nx w xs vs → VRs G hp nx w ys us → VRs G hp nx w (xs ++ ys) (vs ++ us) := by
  induction xs with
  | nil => intro vs ys us h k; cases h; exact k
  | cons x xs ih => intro vs ys us h k; cases h with | cons h1 h2 h3 => exact .cons h1 h2 (ih h3 k)
theorem mkE_cells {ag : Bool} {y : List Vl} {vs : List Value} (h : VRs G hp nx w y vs) (hl : ag = true ∨ y.length = 1) : (mkE ag y).cells = y := by
  unfold mkE
  cases ag with
  | true => rfl
  | false =>
    rcases hl with hl | hl
    · cases hl
    · match y, hl with
      | [x], _ => cases h with | cons h1 h2 _ => exact cells_cell h1 h2
end
theorem cell_lt' {w : World} {a : Addr} {v : Value} (h : w.cell? a = some v) : a.block < w.heap.size := by
  unfold World.cell? at h
  cases e : w.heap[a.block]? with
  | none => rw [e] at h; cases h
  | some c => exact (Array.getElem?_eq_some_iff.1 e).1
theorem add_zero' (a : Addr) : a.add 0 = a := by unfold Addr.add; simp
section
variable {H : Type} {enc : TypeId × Value → H} {P : Program} {W : World}
abbrev GW (W : World) : Gh := gOf fun b => b < W.heap.size
theorem open_elems {ce d : Nat} {e : TypeId} {ag : Bool} (h0 : 0 < ce) (hag : ag = true ∨ ce = 1) : ∀ (n : Nat) (a : Addr), (∀ i, i < n → ∃ cs, W.cells? 0 (a.add (i * ce)) ce = some cs ∧ ∃ xs, VRs (GW W) noHeap 0 W xs cs ∧ TyL P d e xs) →
    ∃ ys : List (List Vl), ys.length = n ∧ (∀ y ∈ ys, TyL P d e y) ∧ ER (GW W) noHeap 0 W ce (ys.map (mkE ag)) (some a)
  | 0, a, _ => ⟨[], rfl, (fun y h => by cases h), ER.nil⟩
  | n + 1, a, h => by
    obtain ⟨cs, hcs, xs, hx, ht⟩ := h 0 (Nat.succ_pos n)
    obtain ⟨ys, hl, hy, he⟩ := open_elems h0 hag n (a.add ce) fun i hi => by
      rw [add_add, show ce + i * ce = (i + 1) * ce by rw [Nat.add_mul]; omega]
      exact h (i + 1) (by omega)
    rw [Nat.zero_mul, add_zero'] at hcs
    obtain ⟨_, hlen, hcell⟩ := World.cells?_some hcs
    have hxl : xs.length = ce := (VRs_len hx).trans hlen
    have hmk : (mkE ag xs).cells = xs := mkE_cells hx (hag.imp id fun h => hxl.trans h)
    refine ⟨xs :: ys, by simp [hl], fun y hy' => ?_, ?_⟩
    · rcases List.mem_cons.1 hy' with rfl | hy'
      · exact ht
      · exact hy y hy'
    · have hb : a.block < W.heap.size := by
        have h1 := hcell 0 h0
        rw [add_zero'] at h1
        have h2 : cs[0]? = some (cs[0]'(by omega)) := List.getElem?_eq_getElem (by omega)
        exact cell_lt' (h1.trans h2)
      refine .cons (vs := cs) (by rw [hmk]; exact hx) (by show (mkE ag xs).cells.length = ce; rw [hmk]; exact hxl) (fun j v hv => ?_) hb he
      have hj : j < cs.length := (List.getElem?_eq_some_iff.1 hv).1
      rw [hcell j (by omega)]; exact hv
theorem take_drop_split {α : Type} {cs : List α} {o k : Nat} (h : o + k ≤ cs.length) : cs.drop o = (cs.drop o).take k ++ cs.drop (o + k) := by
  rw [← List.drop_drop]; exact (List.take_append_drop k _).symm
theorem open_fields {d fuel : Nat} {spare : Nat → Bool} {held : Bool} {cs : List Value} (ih : ∀ t cs x, okTy P d t = true → DataW.trod enc P W 0 spare held fuel t cs = some x → ∃ xs, VRs (GW W) noHeap 0 W xs cs ∧ TyL P d t xs) :
    ∀ (fs : List Field) (off : Nat) (xs : List (DataW H × List MemPlace)), off ≤ cs.length → tileB P fs off cs.length = true → (fs.all fun f => okTy P d f.type) = true →
      fs.mapM (fun f => DataW.trod enc P W 0 spare held fuel f.type ((cs.drop f.offset).take (P.cellsOf f.type))) = some xs →
      ∃ ys, VRs (GW W) noHeap 0 W ys (cs.drop off) ∧ TyF (TyL P d) fs ys
  | [], off, xs, hoff, ht, _, _ => by
    have ht : (off == cs.length) = true := ht
    rw [beq_iff_eq] at ht
    subst ht
    rw [List.drop_length]
    exact ⟨[], .nil, rfl⟩
  | f :: fs, off, xs, hoff, ht, hok, hm => by
    have ht : (f.offset == off && tileB P fs (off + P.cellsOf f.type) cs.length) = true := ht
    rw [Bool.and_eq_true, beq_iff_eq] at ht
    obtain ⟨rfl, ht⟩ := ht
    have hok : (okTy P d f.type && fs.all fun f => okTy P d f.type) = true := hok
    rw [Bool.and_eq_true] at hok
    rw [List.mapM_cons] at hm
    cases h1 : DataW.trod enc P W 0 spare held fuel f.type ((cs.drop f.offset).take (P.cellsOf f.type)) with
    | none => rw [h1] at hm; simp at hm
    | some x =>
      cases h2 : fs.mapM (fun f => DataW.trod enc P W 0 spare held fuel f.type ((cs.drop f.offset).take (P.cellsOf f.type))) with
      | none => rw [h1, h2] at hm; simp at hm
      | some r =>
        have hle : ∀ (fs : List Field) (o : Nat), tileB P fs o cs.length = true → o ≤ cs.length := by
          intro fs
          induction fs with
          | nil => intro o h; have h : (o == cs.length) = true := h; rw [beq_iff_eq] at h; omega
          | cons g gs ih =>
            intro o h
            have h : (g.offset == o && tileB P gs (o + P.cellsOf g.type) cs.length) = true := h
            rw [Bool.and_eq_true] at h
            have := ih _ h.2; omega
        have hl := hle _ _ ht
        obtain ⟨ys, hy, hty⟩ := ih _ _ _ hok.1 h1
        obtain ⟨zs, hz, htz⟩ := open_fields ih fs _ r hl ht hok.2 h2
        rw [take_drop_split hl]
        exact ⟨ys ++ zs, VRs_app hy hz, ys, zs, rfl, hty, htz⟩
theorem cell_one {v : Value} {x : Vl} (h : VR (GW W) noHeap 0 W x v) (hc : isCell v = true) : VRs (GW W) noHeap 0 W [x] [v] := .cons h hc .nil
theorem openL {spare : Nat → Bool} {held : Bool} : ∀ (d fuel : Nat) (t : TypeId) (cs : List Value) (x : DataW H × List MemPlace), okTy P d t = true → DataW.trod enc P W 0 spare held fuel t cs = some x → ∃ xs, VRs (GW W) noHeap 0 W xs cs ∧ TyL P d t xs
  | 0, _, _, _, _, h, _ => by cases h
  | d + 1, 0, _, _, _, _, h => by cases h
  | d + 1, fuel + 1, t, cs, x, hok, h => by
    rw [DataW.trod_step] at h
    unfold okTy at hok
    cases hu : P.underlying t with
    | none => rw [hu] at hok; cases hok
    | some D =>
      rw [hu] at hok
      cases D <;> first | (cases hok; done) | skip
      case bool =>
        have : ∃ b, cs = [.bool b] := by
          simp only [DataW.trodStep, hu] at h
          split at h <;> simp_all
        obtain ⟨b, rfl⟩ := this
        exact ⟨[.bool b], cell_one (.bool b) rfl, by unfold TyL; rw [hu]; exact ⟨b, rfl⟩⟩
      case int k =>
        have : ∃ n, cs = [.int k n] ∧ (Lit.int k n).wf = true := by
          simp only [DataW.trodStep, hu] at h
          split at h <;> simp_all
        obtain ⟨n, rfl, hn⟩ := this
        exact ⟨[.int k n], cell_one (.int k n) rfl, by unfold TyL; rw [hu]; exact ⟨n, rfl, hn⟩⟩
      case string =>
        have : ∃ s, cs = [.string s] ∧ s.size ≤ maxLen := by
          simp only [DataW.trodStep, hu] at h
          split at h <;> simp_all
        obtain ⟨s, rfl, hs⟩ := this
        exact ⟨[.str s], cell_one (.str s) rfl, by unfold TyL; rw [hu]; exact ⟨s, rfl, hs⟩⟩
      case struct fs =>
        have : ∃ xs, cs.length = P.cellsOf t ∧ fs.toList.mapM (fun f => DataW.trod enc P W 0 spare held fuel f.type ((cs.drop f.offset).take (P.cellsOf f.type))) = some xs := by
          simp only [DataW.trodStep, hu] at h
          split at h <;> simp_all
          obtain ⟨xs, h1, _⟩ := h
          exact ⟨xs, h1⟩
        obtain ⟨xs, hl, hm⟩ := this
        simp only [Bool.and_eq_true] at hok
        obtain ⟨ys, hy, ht⟩ := open_fields (fun t cs x h1 h2 => openL d fuel t cs x h1 h2) fs.toList 0 xs (Nat.zero_le _) (by rw [hl]; exact hok.1) hok.2 hm
        exact ⟨ys, hy, by unfold TyL; rw [hu]; exact ht⟩
      case slice e =>
        simp only [Bool.and_eq_true, decide_eq_true_eq, Bool.or_eq_true, beq_iff_eq] at hok
        rcases Deep.open_slice hu (show DataW.trod enc P W 0 spare held (fuel + 1) t cs = some x from h) with ⟨rfl, _⟩ | ⟨a, len, cap, m, n, D, Pl, rfl, _, hlc, hcm, hmm, _, hx⟩
        · exact ⟨[.lst (P.cellsOf e) [] false], cell_one (.lst rfl (Nat.le_refl _) (fun h => by cases h) .nil) rfl, by unfold TyL; rw [hu]; exact ⟨[], rfl, Nat.zero_le _, fun y h => by cases h⟩⟩
        · have hlm : len ≤ m := by rw [hmm]; split <;> omega
          obtain ⟨ys, hl, hy, he⟩ := open_elems (P := P) (d := d) (e := e) (ag := aggT P e) hok.1.2 hok.2 len a fun i hi => by
            obtain ⟨cs', h1, h2⟩ := hx i (by omega)
            obtain ⟨xs, h3, h4⟩ := openL d n e cs' _ hok.1.1 h2
            exact ⟨cs', h1, xs, h3, h4⟩
          exact ⟨[.lst (P.cellsOf e) (ys.map (mkE (aggT P e))) false], cell_one (.lst (by rw [List.length_map, hl]) hlc (fun h => by cases h) he) rfl, by unfold TyL; rw [hu]; exact ⟨ys, rfl, by omega, hy⟩⟩
end
end Go.Idl
namespace Go.Idl
open Go.Lib
section
variable {P : Program} {w : World}
end
end Go.Idl
