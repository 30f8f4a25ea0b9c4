/- What functions of the given program do in the ideal machine (G12, G13), and the plain laws of what they answer; the conditions stand in each theorem. -/
import Derived.Test.YtencmmlmeifffaaHa
import Derived.Test.YtencmmlmeifffaaGc
import Derived.Test.YtencmmlmeifffaaGd
set_option linter.all false
set_option linter.unusedSectionVars false
set_option linter.unusedSimpArgs false
set_option linter.unusedVariables false
namespace Go.Proofs
open Go Go.Idl
set_option linter.unusedSimpArgs false
variable {b : Bool}
def rollD (life plo phi : Int) (T : Nat) (F : Nat → Nat → Bool) (os : List Office) (ms : List Man) (cs : List Rec) : Roll := ⟨os, life, plo, phi, rowsL T F, ms, cs⟩
def truthD (m q : Nat) (bs ds ys : List Int) : Nat → Int := fun i => if i < m then bs[i]! else if 6 ≤ i ∧ i < 6 + m then ds[i - 6]! else if 12 ≤ i ∧ i < 12 + q then ys[i - 12]! else 0
section
variable {m q : Nat} {bs ds ys : List Int} {i : Nat}
theorem truthD_b (h : i < m) : truthD m q bs ds ys i = bs[i]! := if_pos h
theorem truthD_d (hm : m ≤ 6) (h : i < m) : truthD m q bs ds ys (6 + i) = ds[i]! := by
  unfold truthD
  rw [if_neg (by omega), if_pos (by omega), show 6 + i - 6 = i by omega]
end
theorem map_get! {α β : Type} [Inhabited α] [Inhabited β] {f : α → β} {l : List α} {i : Nat} (h : i < l.length) : (l.map f)[i]! = f l[i]! := by
  rw [get!_eq (by rw [List.length_map]; exact h), get!_eq h, List.getElem_map]
theorem range_get! {n i : Nat} (h : i < n) : (List.range n)[i]! = i := by
  rw [get!_eq (by rw [List.length_range]; exact h), List.getElem_range]
theorem rowsL_get {T : Nat} {F : Nat → Nat → Bool} {i : Nat} (h : i < T) : (rowsL T F)[i]! = (List.range T).map (F i) := by
  unfold rowsL
  rw [map_get! (by rw [List.length_range]; exact h), range_get! h]
theorem rowsL_get2 {T : Nat} {F : Nat → Nat → Bool} {i k : Nat} (h : i < T) (hk : k < T) : (rowsL T F)[i]![k]! = F i k := by
  rw [rowsL_get h, map_get! (by rw [List.length_range]; exact hk), range_get! hk]
theorem getD_get! {α : Type} [Inhabited α] {l : List α} {i : Nat} {d : α} (h : i < l.length) : l.getD i d = l[i]! := by
  rw [List.getD_eq_getElem?_getD, List.getElem?_eq_getElem h, get!_eq h]; rfl
theorem farAt_get {fs : List (List Bool)} (hs : ∀ w ∈ fs, w.length = fs.length) {i k : Int} (h0 : 0 ≤ i) (h1 : i < fs.length) (h2 : 0 ≤ k) (h3 : k < fs.length) : farAt fs i k = (fs[i.toNat]!)[k.toNat]! := by
  unfold farAt
  have hl : i.toNat < fs.length := by omega
  rw [getD_get! hl, getD_get! (by rw [hs _ (get!_mem hl)]; omega)]
theorem WF.far_symm {r : Roll} (h : WF r) {i k : Int} (h0 : 0 ≤ i) (h1 : i < r.fs.length) (h2 : 0 ≤ k) (h3 : k < r.fs.length) : farAt r.fs i k = farAt r.fs k i := by
  rw [farAt_get h.fs_ok h0 h1 h2 h3, farAt_get h.fs_ok h2 h3 h0 h1]
  rcases Nat.lt_trichotomy i.toNat k.toNat with e | e | e
  · exact (h.symm _ _ e (by omega)).symm
  · rw [e]
  · exact h.symm _ _ e (by omega)
section
variable {men recs life plo phi : Int} {T : Nat} {F : Nat → Nat → Bool} {os : List Office} {ms : List Man} {cs : List Rec} {bs ds ys : List Int}
theorem Rolled.wf (h : Rolled men recs life plo phi T F os ms cs bs ds ys) (h1 : men ≤ 6) (h2 : recs ≤ 8) : WF (rollD life plo phi T F os ms cs) where
  os_l := by have := h.os_b; show os.length ≤ 5; omega
  os_ok o ho := by have := h.os_ok o ho; unfold OkO at this; unfold OffOk; omega
  life := by have := h.life_b; show 0 ≤ life ∧ life ≤ 100; omega
  par := by have := h.plo_b; have := h.phi_b; show 1 ≤ plo ∧ plo ≤ phi ∧ phi ≤ 100; omega
  fs_l := by have := h.T_b; show 1 ≤ (rowsL T F).length ∧ (rowsL T F).length ≤ 4; rw [rows_len]; omega
  fs_ok w hw := by
    show w.length = (rowsL T F).length
    rw [rows_len]
    obtain ⟨j, _, rfl⟩ := List.mem_map.1 hw
    simp
  ms_l := by have := h.ms_b; show 1 ≤ ms.length ∧ ms.length ≤ 6; omega
  ms_ok m hm := by
    have hm : m ∈ ms := hm
    obtain ⟨j, hj, rfl⟩ := List.getElem_of_mem hm
    have := h.man j hj
    have hl := h.life_b
    rw [get!_eq hj] at this
    unfold ManOk at this
    unfold YearsOk
    omega
  cs_l := by have := h.cs_b; show cs.length ≤ 8; omega
  cs_ok c hc := by
    have hc : c ∈ cs := hc
    obtain ⟨j, hj, rfl⟩ := List.getElem_of_mem hc
    obtain ⟨a1, a2, a3, a4⟩ := h.recs_ok.1 j hj
    rw [get!_eq hj] at a1 a2 a3 a4
    have hbl := h.bs_l
    have hm := h.man cs[j].man.toNat (by omega)
    have hl := h.life_b
    unfold ManOk at hm
    refine ⟨a1, by show _ < (ms.length : Int); omega, fun e => ?_, fun e => ?_⟩
    · obtain ⟨b1, b2, b3, b4, b5, b6, b7, _⟩ := a3 e
      exact ⟨b1, by show _ < (ms.length : Int); omega, b3, b4, b5, b6, b7⟩
    · obtain ⟨b1, b2, b3, b4, b5, b6, b7, b8, b9, b10, b11, _⟩ := a4 e
      exact ⟨b1, b2, b3, by show _ < ((rowsL T F).length : Int); rw [rows_len]; exact b4, b5, by unfold YearsOk; omega⟩
  names m hm := by
    have hm : m ∈ ms := hm
    obtain ⟨j, hj, rfl⟩ := List.getElem_of_mem hm
    have := h.man j hj
    rw [get!_eq hj] at this
    unfold ManOk at this
    omega
  diag i hi := by
    have hi : i < (rowsL T F).length := hi
    rw [rows_len] at hi
    show ((rowsL T F)[i]!)[i]! = false
    rw [rowsL_get2 hi hi]; exact h.irr i
  symm i k hk hi := by
    have hi : i < (rowsL T F).length := hi
    rw [rows_len] at hi
    show ((rowsL T F)[i]!)[k]! = ((rowsL T F)[k]!)[i]!
    rw [rowsL_get2 hi (by omega), rowsL_get2 (by omega) hi]; exact h.sym i k
end
theorem drop_nil {r : Roll} : dropF r [] = r := by
  have h : keptTo r [] r.cs.length = r.cs := by
    unfold keptTo
    have e : (List.range r.cs.length).filter (fun i => !([] : List Nat).contains i) = List.range r.cs.length := List.filter_eq_self.2 fun _ _ => rfl
    rw [e]
    apply List.ext_getElem (by simp)
    intro i h1 h2
    rw [List.getElem_map, List.getElem_range, get!_eq h2]
  unfold dropF
  rw [h]
theorem combs_zero {l : List Nat} : combs l 0 = [[]] := by cases l <;> rfl
end Go.Proofs
namespace Go.Proofs
open Go Go.Idl
set_option linter.unusedSimpArgs false
variable {b : Bool}
theorem killHp_ne {ks : List Nat} {i : Nat} (h : i ∉ ks) : ∀ {hp : Nat → Ob}, killHp ks hp i = hp i := by
  induction ks with
  | nil => intro hp; rfl
  | cons k ks ih =>
    intro hp
    simp only [List.mem_cons, not_or] at h
    show killHp ks (upd hp k (froOb (hp k))) i = hp i
    rw [ih h.2, upd_ne _ _ h.1]
theorem awake_ans : Ans Try.prog (AA true) 16 [] (fun v => v = .bool true) := ⟨.bool true, ⟨0, rfl⟩, rfl⟩
section
variable {m : Mem} {K : Vl → Mem → Prop}
theorem wc16 : WC Try.prog (AA true) (.fn (.func 16) [] []) [] m K = K (.bool true) m := WC_flat (ks := []) (p := false) (vs := []) (by simp only [mkAnn, K16]) rfl awake_ans rfl
end
end Go.Proofs
