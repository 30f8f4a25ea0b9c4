/- What functions of the given program do in the ideal machine (F3, F4), and the plain laws of what they answer; the conditions stand in each theorem. -/
import Derived.Test.YtencmmlmeifffaaFa
import Derived.Test.YtencmmlmeifffaaEe
set_option linter.all false
set_option linter.unusedSectionVars false
set_option linter.unusedSimpArgs false
set_option linter.unusedVariables false
namespace Go.Proofs
open Go Go.Idl
set_option linter.unusedSimpArgs false
variable {b : Bool}
instance : Inhabited Office := ⟨⟨0, 0, 1⟩⟩
instance : Inhabited Man := ⟨⟨0, 0, 0, 0, 0⟩⟩
instance : Inhabited Rec := ⟨⟨false, 0, 0, 0, 0, 0, 0⟩⟩
structure RD where
  s : Int × Int
  os : List Office
  ms : List Man
  cs : List Rec
  T : Nat
  t : Nat
  F : Nat → Nat → Bool
  x : Bool
  bs : List Int
  ds : List Int
  ys : List Int
def HPr (d : RD) : Nat → Ob := fun i =>
  if i = 0 then urnO d.s else if i = 1 then .arr 3 (d.os.map encO) else if i = 2 then .arr 1 ((List.range d.t).map fun j => .own (5 + j) d.T)
  else if i = 3 then .arr 5 (d.ms.map encM) else if i = 4 then .arr 7 (d.cs.map encC)
  else if i < 5 + d.t then .arr 1 (rowB d.T d.F (i - 5))
  else if d.x then (if i = 5 + d.t then .arr 1 (d.bs.map I) else if i = 5 + d.t + 1 then .arr 1 (d.ds.map I) else if i = 5 + d.t + 2 then .arr 1 (d.ys.map I) else .dead)
  else .dead
variable {d : RD}
theorem HPr_0 : HPr d 0 = urnO d.s := rfl
theorem HPr_1 : HPr d 1 = .arr 3 (d.os.map encO) := rfl
theorem HPr_2 : HPr d 2 = .arr 1 ((List.range d.t).map fun j => .own (5 + j) d.T) := rfl
theorem HPr_3 : HPr d 3 = .arr 5 (d.ms.map encM) := rfl
theorem HPr_4 : HPr d 4 = .arr 7 (d.cs.map encC) := rfl
theorem HPr_row {j : Nat} (h : j < d.t) : HPr d (5 + j) = .arr 1 (rowB d.T d.F j) := by
  unfold HPr
  rw [if_neg (by omega), if_neg (by omega), if_neg (by omega), if_neg (by omega), if_neg (by omega), if_pos (by omega)]
  congr 2; omega
theorem HPr_b (h : d.x = true) : HPr d (5 + d.t) = .arr 1 (d.bs.map I) := by
  unfold HPr
  rw [if_neg (by omega), if_neg (by omega), if_neg (by omega), if_neg (by omega), if_neg (by omega), if_neg (by omega), if_pos h, if_pos rfl]
theorem HPr_d (h : d.x = true) : HPr d (5 + d.t + 1) = .arr 1 (d.ds.map I) := by
  unfold HPr
  rw [if_neg (by omega), if_neg (by omega), if_neg (by omega), if_neg (by omega), if_neg (by omega), if_neg (by omega), if_pos h, if_neg (by omega), if_pos rfl]
theorem HPr_y (h : d.x = true) : HPr d (5 + d.t + 2) = .arr 1 (d.ys.map I) := by
  unfold HPr
  rw [if_neg (by omega), if_neg (by omega), if_neg (by omega), if_neg (by omega), if_neg (by omega), if_neg (by omega), if_pos h, if_neg (by omega), if_neg (by omega), if_pos rfl]
theorem UrnOk_HPr : UrnOk 0 (HPr d) := rfl
theorem urnAt_HPr : urnAt 0 (HPr d) = d.s := rfl
theorem HPr_s {x y : Int} : upd (HPr d) 0 (.box (.agg [.int .u64 x, .int .u64 y])) = HPr { d with s := (x, y) } := by
  funext i; by_cases h : i = 0 <;> simp [upd, HPr, h, urnO]
theorem HPr_os {os : List Office} : upd (HPr d) 1 (.arr 3 (os.map encO)) = HPr { d with os := os } := by
  funext i; by_cases h : i = 1 <;> simp [upd, HPr, h]
theorem HPr_ms {ms : List Man} : upd (HPr d) 3 (.arr 5 (ms.map encM)) = HPr { d with ms := ms } := by
  funext i; by_cases h : i = 3 <;> simp [upd, HPr, h]
theorem HPr_cs {cs : List Rec} : upd (HPr d) 4 (.arr 7 (cs.map encC)) = HPr { d with cs := cs } := by
  funext i; by_cases h : i = 4 <;> simp [upd, HPr, h]
theorem HPr_bs {bs : List Int} (h : d.x = true) : upd (HPr d) (5 + d.t) (.arr 1 (bs.map I)) = HPr { d with bs := bs } := by
  funext i; by_cases e : i = 5 + d.t
  · subst e; rw [upd_same, HPr_b (d := { d with bs := bs }) h]
  · rw [upd_ne _ _ e]; simp [HPr, e]
theorem HPr_ds {ds : List Int} (h : d.x = true) : upd (HPr d) (5 + d.t + 1) (.arr 1 (ds.map I)) = HPr { d with ds := ds } := by
  funext i; by_cases e : i = 5 + d.t + 1
  · subst e; rw [upd_same, HPr_d (d := { d with ds := ds }) h]
  · rw [upd_ne _ _ e]; simp [HPr, e]
theorem HPr_ys {ys : List Int} (h : d.x = true) : upd (HPr d) (5 + d.t + 2) (.arr 1 (ys.map I)) = HPr { d with ys := ys } := by
  funext i; by_cases e : i = 5 + d.t + 2
  · subst e; rw [upd_same, HPr_y (d := { d with ys := ys }) h]
  · rw [upd_ne _ _ e]; simp [HPr, e]
theorem HPr_new {s : Int × Int} : upd (upd (upd (upd (upd noHeap 0 (.box (.agg [.int .u64 s.1, .int .u64 s.2]))) 1 (.arr 3 [])) 2 (.arr 1 [])) 3 (.arr 5 [])) 4 (.arr 7 []) = HPr ⟨s, [], [], [], 0, 0, fun _ _ => false, false, [], [], []⟩ := by
  funext i
  unfold upd HPr
  by_cases h0 : i = 0
  · subst h0; rfl
  by_cases h1 : i = 1
  · subst h1; rfl
  by_cases h2 : i = 2
  · subst h2; rfl
  by_cases h3 : i = 3
  · subst h3; rfl
  by_cases h4 : i = 4
  · subst h4; rfl
  rw [if_neg h4, if_neg h3, if_neg h2, if_neg h1, if_neg h0, if_neg h0, if_neg h1, if_neg h2, if_neg h3, if_neg h4]
  simp only [Nat.add_zero]
  split <;> first | omega | rfl
theorem HPr_T0 {s : Int × Int} {os : List Office} {T T' : Nat} {F : Nat → Nat → Bool} : HPr ⟨s, os, [], [], T, 0, F, false, [], [], []⟩ = HPr ⟨s, os, [], [], T', 0, F, false, [], [], []⟩ := by
  funext i
  unfold HPr
  simp only [List.range_zero, List.map_nil]
  by_cases h0 : i < 5
  · repeat' split
    all_goals first | rfl | omega
  · have e1 : ¬ i < 5 + 0 := by omega
    simp only [e1, if_false]
theorem HPr_x (h : d.x = false) : upd (upd (upd (HPr d) (5 + d.t) (.arr 1 [])) (5 + d.t + 1) (.arr 1 [])) (5 + d.t + 2) (.arr 1 []) = HPr { d with x := true, bs := [], ds := [], ys := [] } := by
  funext i
  by_cases e : i = 5 + d.t
  · subst e; rw [upd_ne _ _ (by omega), upd_ne _ _ (by omega), upd_same, HPr_b (d := { d with x := true, bs := [], ds := [], ys := [] }) rfl]; rfl
  by_cases e1 : i = 5 + d.t + 1
  · subst e1; rw [upd_ne _ _ (by omega), upd_same, HPr_d (d := { d with x := true, bs := [], ds := [], ys := [] }) rfl]; rfl
  by_cases e2 : i = 5 + d.t + 2
  · subst e2; rw [upd_same, HPr_y (d := { d with x := true, bs := [], ds := [], ys := [] }) rfl]; rfl
  rw [upd_ne _ _ e2, upd_ne _ _ e1, upd_ne _ _ e]
  simp [HPr, h, e, e1, e2]
def setB (F : Nat → Nat → Bool) (j k : Nat) (x : Bool) : Nat → Nat → Bool := fun a b => if a = j ∧ b = k then x else F a b
theorem HPr_F {j k : Nat} {x : Bool} (h : j < d.t) : upd (HPr d) (5 + j) (.arr 1 ((rowB d.T d.F j).set k (.bool x))) = HPr { d with F := setB d.F j k x } := by
  funext i
  by_cases e : i = 5 + j
  · subst e
    rw [upd_same, HPr_row (d := { d with F := setB d.F j k x }) h]
    congr 1
    refine rowB_set (F' := setB d.F j k x) (by simp [setB]) (fun l hl => ?_)
    simp only [setB]
    rw [if_neg (fun h => hl h.2)]
  · rw [upd_ne _ _ e]
    unfold HPr
    by_cases h0 : i = 0
    · simp [h0]
    by_cases h1 : i = 1
    · simp [h1]
    by_cases h2 : i = 2
    · simp [h2]
    by_cases h3 : i = 3
    · simp [h3]
    by_cases h4 : i = 4
    · simp [h4]
    simp only [h0, h1, h2, h3, h4, if_false]
    by_cases hl : i < 5 + d.t
    · rw [if_pos hl, if_pos hl]
      congr 1
      refine (rowB_congr fun l => ?_).symm
      simp only [setB]
      rw [if_neg (by omega)]
    · rw [if_neg hl, if_neg hl]
theorem HPr_more (hx : d.x = false) (hF : ∀ k, d.F d.t k = false) : upd (upd (HPr d) (5 + d.t) (.arr 1 (List.replicate d.T (.bool false)))) 2 (.arr 1 (((List.range d.t).map fun j => Vl.own (5 + j) d.T) ++ [.own (5 + d.t) d.T])) = HPr { d with t := d.t + 1 } := by
  funext i
  by_cases e2 : i = 2
  · subst e2
    rw [upd_same, HPr_2]
    simp [List.range_succ]
  rw [upd_ne _ _ e2]
  by_cases e : i = 5 + d.t
  · subst e
    rw [upd_same, HPr_row (d := { d with t := d.t + 1 }) (Nat.lt_succ_self _)]
    congr 1
    show List.replicate d.T (Vl.bool false) = (List.range d.T).map fun k => Vl.bool (d.F d.t k)
    simp only [hF]
    rw [List.map_const']; simp
  · rw [upd_ne _ _ e]
    unfold HPr
    by_cases h0 : i = 0
    · simp [h0]
    by_cases h1 : i = 1
    · simp [h1]
    by_cases h3 : i = 3
    · simp [h3]
    by_cases h4 : i = 4
    · simp [h4]
    simp only [h0, h1, e2, h3, h4, if_false]
    by_cases hl : i < 5 + d.t
    · rw [if_pos hl, if_pos (by omega)]
    · have h6 : ¬ i < 5 + (d.t + 1) := by omega
      simp [hl, h6, hx]
section
variable {lc : List (Nat × Vl)} {nx : Nat} {s : Int × Int} {os : List Office} {ms : List Man} {cs : List Rec} {T t : Nat} {F : Nat → Nat → Bool} {x : Bool} {bs ds ys : List Int}
theorem apR1 {n : Nat} {v : Vl} {o : Bool} (hn : os.length = n) (hs : n < 100000) : isAppend Try.prog 22 22 (.own 1 n) (.lst 3 [v] o) { lc := lc, hp := HPr ⟨s, os, ms, cs, T, t, F, x, bs, ds, ys⟩, nx := nx } = some (.own 1 (n + 1), { lc := lc, hp := upd (HPr ⟨s, os, ms, cs, T, t, F, x, bs, ds, ys⟩) 1 (.arr 3 (os.map encO ++ [v])), nx := nx }) :=
  app1_own (by rw [td22]) HPr_1 (by rw [List.length_map]; exact hn) (grow_ok rfl rfl (by decide) (by decide) (by omega))
theorem apR3 {n : Nat} {v : Vl} {o : Bool} (hn : ms.length = n) (hs : n < 100000) : isAppend Try.prog 26 26 (.own 3 n) (.lst 5 [v] o) { lc := lc, hp := HPr ⟨s, os, ms, cs, T, t, F, x, bs, ds, ys⟩, nx := nx } = some (.own 3 (n + 1), { lc := lc, hp := upd (HPr ⟨s, os, ms, cs, T, t, F, x, bs, ds, ys⟩) 3 (.arr 5 (ms.map encM ++ [v])), nx := nx }) :=
  app1_own (by rw [td26]) HPr_3 (by rw [List.length_map]; exact hn) (grow_ok rfl rfl (by decide) (by decide) (by omega))
theorem apR4 {n : Nat} {v : Vl} {o : Bool} (hn : cs.length = n) (hs : n < 100000) : isAppend Try.prog 27 27 (.own 4 n) (.lst 7 [v] o) { lc := lc, hp := HPr ⟨s, os, ms, cs, T, t, F, x, bs, ds, ys⟩, nx := nx } = some (.own 4 (n + 1), { lc := lc, hp := upd (HPr ⟨s, os, ms, cs, T, t, F, x, bs, ds, ys⟩) 4 (.arr 7 (cs.map encC ++ [v])), nx := nx }) :=
  app1_own (by rw [td27]) HPr_4 (by rw [List.length_map]; exact hn) (grow_ok rfl rfl (by decide) (by decide) (by omega))
theorem apRb {n : Nat} {v : Vl} {o : Bool} (hn : bs.length = n) (hs : n < 100000) : isAppend Try.prog 32 32 (.own (5 + t) n) (.lst 1 [v] o) { lc := lc, hp := HPr ⟨s, os, ms, cs, T, t, F, true, bs, ds, ys⟩, nx := nx } = some (.own (5 + t) (n + 1), { lc := lc, hp := upd (HPr ⟨s, os, ms, cs, T, t, F, true, bs, ds, ys⟩) (5 + t) (.arr 1 (bs.map I ++ [v])), nx := nx }) :=
  app1_own (by rw [td32]) (HPr_b (d := ⟨s, os, ms, cs, T, t, F, true, bs, ds, ys⟩) rfl) (by rw [List.length_map]; exact hn) (grow_ok rfl rfl (by decide) (by decide) (by omega))
theorem apRd {n : Nat} {v : Vl} {o : Bool} (hn : ds.length = n) (hs : n < 100000) : isAppend Try.prog 32 32 (.own (5 + t + 1) n) (.lst 1 [v] o) { lc := lc, hp := HPr ⟨s, os, ms, cs, T, t, F, true, bs, ds, ys⟩, nx := nx } = some (.own (5 + t + 1) (n + 1), { lc := lc, hp := upd (HPr ⟨s, os, ms, cs, T, t, F, true, bs, ds, ys⟩) (5 + t + 1) (.arr 1 (ds.map I ++ [v])), nx := nx }) :=
  app1_own (by rw [td32]) (HPr_d (d := ⟨s, os, ms, cs, T, t, F, true, bs, ds, ys⟩) rfl) (by rw [List.length_map]; exact hn) (grow_ok rfl rfl (by decide) (by decide) (by omega))
theorem apRy {n : Nat} {v : Vl} {o : Bool} (hn : ys.length = n) (hs : n < 100000) : isAppend Try.prog 32 32 (.own (5 + t + 1 + 1) n) (.lst 1 [v] o) { lc := lc, hp := HPr ⟨s, os, ms, cs, T, t, F, true, bs, ds, ys⟩, nx := nx } = some (.own (5 + t + 1 + 1) (n + 1), { lc := lc, hp := upd (HPr ⟨s, os, ms, cs, T, t, F, true, bs, ds, ys⟩) (5 + t + 1 + 1) (.arr 1 (ys.map I ++ [v])), nx := nx }) :=
  app1_own (by rw [td32]) (HPr_y (d := ⟨s, os, ms, cs, T, t, F, true, bs, ds, ys⟩) rfl) (by rw [List.length_map]; exact hn) (grow_ok rfl rfl (by decide) (by decide) (by omega))
theorem HPr_bs' {l : List Int} : upd (HPr ⟨s, os, ms, cs, T, t, F, true, bs, ds, ys⟩) (5 + t) (.arr 1 (l.map I)) = HPr ⟨s, os, ms, cs, T, t, F, true, l, ds, ys⟩ := HPr_bs (d := ⟨s, os, ms, cs, T, t, F, true, bs, ds, ys⟩) rfl
theorem HPr_ds' {l : List Int} : upd (HPr ⟨s, os, ms, cs, T, t, F, true, bs, ds, ys⟩) (5 + t + 1) (.arr 1 (l.map I)) = HPr ⟨s, os, ms, cs, T, t, F, true, bs, l, ys⟩ := HPr_ds (d := ⟨s, os, ms, cs, T, t, F, true, bs, ds, ys⟩) rfl
theorem HPr_ys' {l : List Int} : upd (HPr ⟨s, os, ms, cs, T, t, F, true, bs, ds, ys⟩) (5 + t + 1 + 1) (.arr 1 (l.map I)) = HPr ⟨s, os, ms, cs, T, t, F, true, bs, ds, l⟩ := HPr_ys (d := ⟨s, os, ms, cs, T, t, F, true, bs, ds, ys⟩) rfl
theorem HPr_x' : upd (upd (upd (HPr ⟨s, os, ms, cs, T, t, F, false, bs, ds, ys⟩) (5 + t) (.arr 1 [])) (5 + t + 1) (.arr 1 [])) (5 + t + 1 + 1) (.arr 1 []) = HPr ⟨s, os, ms, cs, T, t, F, true, [], [], []⟩ := HPr_x (d := ⟨s, os, ms, cs, T, t, F, false, bs, ds, ys⟩) rfl
theorem ixRf {n j : Nat} (hn : t = n) (hj : j < n) : indexAddrV (.slice 1 24 .nils) (.v (.own 2 n)) (.int .i64 (j : Int)) { lc := lc, hp := HPr ⟨s, os, ms, cs, T, t, F, x, bs, ds, ys⟩, nx := nx } = some (.v (.ep 2 n j 0), { lc := lc, hp := HPr ⟨s, os, ms, cs, T, t, F, x, bs, ds, ys⟩, nx := nx }) := by
  subst hn
  rw [indexAddr_own HPr_2 (by simp) (by omega) (by decide)]; rfl
theorem rdRf {n j : Nat} (hn : t = n) (hj : j < n) : Mem.read { lc := lc, hp := HPr ⟨s, os, ms, cs, T, t, F, x, bs, ds, ys⟩, nx := nx } false 1 (.v (.ep 2 n j 0)) = some (.own (5 + j) T) := by
  subst hn
  rw [mread_ep HPr_2 (by simp) (x := .own (5 + j) T) (by simp [hj])]; rfl
theorem ixRr {n j k : Nat} (hn : T = n) (hj : j < t) (hk : k < n) : indexAddrV (.slice 1 1 (.bool false)) (.v (.own (5 + j) n)) (.int .i64 (k : Int)) { lc := lc, hp := HPr ⟨s, os, ms, cs, T, t, F, x, bs, ds, ys⟩, nx := nx } = some (.v (.ep (5 + j) n k 0), { lc := lc, hp := HPr ⟨s, os, ms, cs, T, t, F, x, bs, ds, ys⟩, nx := nx }) := by
  subst hn
  rw [indexAddr_own (HPr_row (d := ⟨s, os, ms, cs, T, t, F, x, bs, ds, ys⟩) hj) rowB_len (by omega) (by decide)]; rfl
theorem rdRr {n j k : Nat} (hn : T = n) (hj : j < t) (hk : k < n) : Mem.read { lc := lc, hp := HPr ⟨s, os, ms, cs, T, t, F, x, bs, ds, ys⟩, nx := nx } false 1 (.v (.ep (5 + j) n k 0)) = some (.bool (F j k)) := by
  subst hn
  rw [mread_ep (HPr_row (d := ⟨s, os, ms, cs, T, t, F, x, bs, ds, ys⟩) hj) rowB_len (rowB_get hk)]; rfl
theorem wrRr {n j k : Nat} {y : Bool} (hn : T = n) (hj : j < t) (hk : k < n) : Mem.write { lc := lc, hp := HPr ⟨s, os, ms, cs, T, t, F, x, bs, ds, ys⟩, nx := nx } (.bool y) (.v (.ep (5 + j) n k 0)) = some { lc := lc, hp := HPr ⟨s, os, ms, cs, T, t, setB F j k y, x, bs, ds, ys⟩, nx := nx } := by
  subst hn
  rw [mwrite_ep (HPr_row (d := ⟨s, os, ms, cs, T, t, F, x, bs, ds, ys⟩) hj) rowB_len (rowB_get hk)]
  rw [put_1 rfl rfl, Option.map_some, HPr_F hj]
theorem ixRb {n : Nat} {i : Int} (hn : bs.length = n) (h0 : 0 ≤ i) (hi : i < n) : indexAddrV (.slice 1 8 (.int .i64 0)) (.v (.own (5 + t) n)) (.int .i64 i) { lc := lc, hp := HPr ⟨s, os, ms, cs, T, t, F, true, bs, ds, ys⟩, nx := nx } = some (.v (.ep (5 + t) n i.toNat 0), { lc := lc, hp := HPr ⟨s, os, ms, cs, T, t, F, true, bs, ds, ys⟩, nx := nx }) := by
  subst hn
  rw [indexAddr_own (HPr_b (d := ⟨s, os, ms, cs, T, t, F, true, bs, ds, ys⟩) rfl) (by simp) ⟨h0, hi⟩ (by decide)]
theorem rdRb {n j : Nat} (hn : bs.length = n) (hj : j < n) : Mem.read { lc := lc, hp := HPr ⟨s, os, ms, cs, T, t, F, true, bs, ds, ys⟩, nx := nx } false 1 (.v (.ep (5 + t) n j 0)) = some (.int .i64 bs[j]!) := by
  subst hn
  rw [mread_ep (HPr_b (d := ⟨s, os, ms, cs, T, t, F, true, bs, ds, ys⟩) rfl) (by simp) (x := I bs[j]!) (by simp [hj])]; rfl
theorem ixRd {n : Nat} {i : Int} (hn : ds.length = n) (h0 : 0 ≤ i) (hi : i < n) : indexAddrV (.slice 1 8 (.int .i64 0)) (.v (.own (5 + t + 1) n)) (.int .i64 i) { lc := lc, hp := HPr ⟨s, os, ms, cs, T, t, F, true, bs, ds, ys⟩, nx := nx } = some (.v (.ep (5 + t + 1) n i.toNat 0), { lc := lc, hp := HPr ⟨s, os, ms, cs, T, t, F, true, bs, ds, ys⟩, nx := nx }) := by
  subst hn
  rw [indexAddr_own (HPr_d (d := ⟨s, os, ms, cs, T, t, F, true, bs, ds, ys⟩) rfl) (by simp) ⟨h0, hi⟩ (by decide)]
theorem rdRd {n j : Nat} (hn : ds.length = n) (hj : j < n) : Mem.read { lc := lc, hp := HPr ⟨s, os, ms, cs, T, t, F, true, bs, ds, ys⟩, nx := nx } false 1 (.v (.ep (5 + t + 1) n j 0)) = some (.int .i64 ds[j]!) := by
  subst hn
  rw [mread_ep (HPr_d (d := ⟨s, os, ms, cs, T, t, F, true, bs, ds, ys⟩) rfl) (by simp) (x := I ds[j]!) (by simp [hj])]; rfl
end
theorem get!_snoc_lt {α : Type} [Inhabited α] {xs : List α} {a : α} {j : Nat} (h : j < xs.length) : (xs ++ [a])[j]! = xs[j]! := by
  rw [getElem!_pos (xs ++ [a]) j (by simp; omega), getElem!_pos xs j h, List.getElem_append_left h]
theorem get!_snoc_eq {α : Type} [Inhabited α] {xs : List α} {a : α} {n : Nat} (h : xs.length = n) : (xs ++ [a])[n]! = a := by
  subst h
  rw [getElem!_pos (xs ++ [a]) xs.length (by simp)]
  simp
theorem wr_pred {i : Nat} (h : 0 < (i : Int)) (h2 : (i : Int) < 4000000000) : IntKind.wrap .i64 ((i : Int) - 1) = ((i - 1 : Nat) : Int) := by rw [wrap_i64 (by omega) (by omega)]; omega
theorem wr_succ {i : Nat} (h2 : (i : Int) < 4000000000) : IntKind.wrap .i64 ((i : Int) + 1) = ((i + 1 : Nat) : Int) := by rw [wrap_i64 (by omega) (by omega)]; omega
theorem prod_eta {s : Int × Int} : (s.1, s.2) = s := rfl
theorem snocO {xs : List Office} {a g n : Int} : xs.map encO ++ [.agg [.int .i64 a, .int .i64 g, .int .i64 n]] = (xs ++ [(⟨a, g, n⟩ : Office)]).map encO := by simp [encO]
theorem snocM {xs : List Man} {a p q r s : Int} : xs.map encM ++ [.agg [.int .i64 a, .int .i64 p, .int .i64 q, .int .i64 r, .int .i64 s]] = (xs ++ [(⟨a, p, q, r, s⟩ : Man)]).map encM := by simp [encM]
theorem snocC {xs : List Rec} {k : Bool} {m o t c l h : Int} : xs.map encC ++ [.agg [.bool k, .int .i64 m, .int .i64 o, .int .i64 t, .int .i64 c, .int .i64 l, .int .i64 h]] = (xs ++ [(⟨k, m, o, t, c, l, h⟩ : Rec)]).map encC := by simp [encC]
theorem snocI {xs : List Int} {a : Int} : xs.map I ++ [.int .i64 a] = (xs ++ [a]).map I := by simp
attribute [go_sem] Int.toNat_natCast
attribute [go_sem high] wr_pred wr_succ
attribute [go_sem low] wrap_i64
attribute [go_sem] UrnOk_HPr urnAt_HPr HPr_s HPr_os HPr_ms HPr_cs HPr_bs' HPr_ds' HPr_ys' HPr_x' ixRf rdRf ixRr rdRr wrRr ixRb rdRb ixRd rdRd apR1 apR3 apR4 apRb apRd apRy snocO snocM snocC snocI HPr_new prod_eta
end Go.Proofs
namespace Go.Proofs
open Go Go.Idl
set_option linter.unusedSimpArgs false
variable {b : Bool}
def ManOk (life : Int) (m : Man) (b d : Int) : Prop := 0 ≤ m.name ∧ m.name ≤ 1 ∧ -20 ≤ b ∧ b ≤ 20 ∧ b + 20 ≤ d ∧ d ≤ b + life ∧ b - 19 ≤ m.blo ∧ m.blo ≤ b ∧ b ≤ m.bhi ∧ m.bhi ≤ b + 19 ∧ d - 19 ≤ m.dlo ∧ m.dlo ≤ d ∧ d ≤ m.dhi ∧ m.dhi ≤ d + 19
def rowsL (T : Nat) (F : Nat → Nat → Bool) : List (List Bool) := (List.range T).map fun j => (List.range T).map (F j)
def RecOk (os : List Office) (T : Nat) (plo phi : Int) (bs ds : List Int) (c : Rec) (y : Int) : Prop :=
  0 ≤ c.man ∧ c.man < bs.length ∧
  (c.kin = true → 0 ≤ c.child ∧ c.child < bs.length ∧ c.child ≠ c.man ∧ c.office = 0 ∧ c.town = 0 ∧ c.lo = 0 ∧ c.hi = 0 ∧ y = 0 ∧ plo ≤ bs[c.child.toNat]! - bs[c.man.toNat]! ∧ bs[c.child.toNat]! - bs[c.man.toNat]! ≤ phi ∧ bs[c.child.toNat]! ≤ ds[c.man.toNat]! + 1) ∧
  (c.kin = false → -1 ≤ c.office ∧ c.office < os.length ∧ 0 ≤ c.town ∧ c.town < T ∧ c.child = 0 ∧ c.lo ≤ y ∧ y ≤ c.hi ∧ y - 19 ≤ c.lo ∧ c.hi ≤ y + 19 ∧ bs[c.man.toNat]! ≤ y ∧ y ≤ ds[c.man.toNat]! ∧ (0 ≤ c.office → (offAt os c.office).age ≤ y - bs[c.man.toNat]!))
def RecsOk (os : List Office) (T : Nat) (F : Nat → Nat → Bool) (plo phi : Int) (bs ds : List Int) (cs : List Rec) (ys : List Int) : Prop :=
  (∀ j, j < cs.length → RecOk os T plo phi bs ds cs[j]! ys[j]!) ∧
  ∀ i j, i < j → j < cs.length → cs[i]!.kin = false → cs[j]!.kin = false → cs[i]!.man = cs[j]!.man → Fits os (rowsL T F) cs[j]! ys[j]! cs[i]! ys[i]!
theorem getD_0 {xs : List Int} {i : Nat} : xs.getD i 0 = xs[i]! := by
  rw [List.getD_eq_getElem?_getD, List.getElem!_eq_getElem?_getD]; rfl
theorem mapR_map {α : Type} {inn : Vl → Option (Vl × List Nat)} {f g : α → Vl} {k : α → List Nat} : ∀ {l : List α}, (∀ x ∈ l, inn (f x) = some (g x, k x)) → mapR inn (l.map f) = some (l.map g, (l.map k).flatten)
  | [], _ => rfl
  | x :: l, h => by
    simp only [List.map_cons, mapR, h x List.mem_cons_self, Option.bind_some, mapR_map (l := l) fun y hy => h y (List.mem_cons_of_mem _ hy), Option.map_some, List.flatten_cons]
theorem reify_arrM {α : Type} {hp : Nat → Ob} {id n e : Nat} {f g : α → Vl} {k : α → List Nat} {l : List α} (h : hp id = .arr e (l.map f) ∨ hp id = .fro e (l.map f)) (hn : l.length = n) (hf : ∀ x ∈ l, reifyF (reifyF closedV hp) hp (f x) = some (g x, k x)) :
    reify hp (.own id n) = some (.lst e (l.map g) false, id :: (l.map k).flatten) := by
  unfold reify
  rcases h with h | h
  all_goals
    simp only [reifyF, h]
    rw [if_pos (by rw [List.length_map]; exact hn), mapR_map hf]
    rfl
theorem flat_nil {α : Type} {l : List α} : (l.map fun _ => ([] : List Nat)).flatten = [] := by induction l <;> simp_all
theorem reify_flat {α : Type} {hp : Nat → Ob} {id n e : Nat} {f : α → Vl} {l : List α} (h : hp id = .arr e (l.map f) ∨ hp id = .fro e (l.map f)) (hn : l.length = n) (hf : ∀ x, reifyF (reifyF closedV hp) hp (f x) = some (f x, [])) :
    reify hp (.own id n) = some (.lst e (l.map f) false, [id]) := by
  rw [reify_arrM (k := fun _ => []) h hn fun x _ => hf x, flat_nil]
theorem encRow_eq {T : Nat} {F : Nat → Nat → Bool} : (List.range T).map (fun j => Vl.lst 1 (rowB T F j) false) = (rowsL T F).map encRow := by
  simp [rowsL, encRow, SL, rowB, Function.comp_def]
section
variable {lc : List (Nat × Vl)} {nx : Nat} {s : Int × Int} {os : List Office} {ms : List Man} {cs : List Rec} {T t : Nat} {F : Nat → Nat → Bool} {x : Bool} {bs ds ys : List Int}
theorem rfR1 {n : Nat} (h : os.length = n) : reify (HPr ⟨s, os, ms, cs, T, t, F, x, bs, ds, ys⟩) (.own 1 n) = some (.lst 3 (os.map encO) false, [1]) := reify_flat (.inl HPr_1) h fun _ => rfl
theorem rfR3 {n : Nat} (h : ms.length = n) : reify (HPr ⟨s, os, ms, cs, T, t, F, x, bs, ds, ys⟩) (.own 3 n) = some (.lst 5 (ms.map encM) false, [3]) := reify_flat (.inl HPr_3) h fun _ => rfl
theorem rfR4 {n : Nat} (h : cs.length = n) : reify (HPr ⟨s, os, ms, cs, T, t, F, x, bs, ds, ys⟩) (.own 4 n) = some (.lst 7 (cs.map encC) false, [4]) := reify_flat (.inl HPr_4) h fun _ => rfl
theorem rfRb {n : Nat} (h : bs.length = n) : reify (HPr ⟨s, os, ms, cs, T, t, F, true, bs, ds, ys⟩) (.own (5 + t) n) = some (.lst 1 (bs.map I) false, [5 + t]) := reify_flat (.inl (HPr_b (d := ⟨s, os, ms, cs, T, t, F, true, bs, ds, ys⟩) rfl)) h fun _ => rfl
theorem rfRd {n : Nat} (h : ds.length = n) : reify (HPr ⟨s, os, ms, cs, T, t, F, true, bs, ds, ys⟩) (.own (5 + t + 1) n) = some (.lst 1 (ds.map I) false, [5 + t + 1]) := reify_flat (.inl (HPr_d (d := ⟨s, os, ms, cs, T, t, F, true, bs, ds, ys⟩) rfl)) h fun _ => rfl
theorem rfRy {n : Nat} (h : ys.length = n) : reify (HPr ⟨s, os, ms, cs, T, t, F, true, bs, ds, ys⟩) (.own (5 + t + 1 + 1) n) = some (.lst 1 (ys.map I) false, [5 + t + 1 + 1]) := reify_flat (.inl (HPr_y (d := ⟨s, os, ms, cs, T, t, F, true, bs, ds, ys⟩) rfl)) h fun _ => rfl
theorem rfR2 : reify (HPr ⟨s, os, ms, cs, T, T, F, x, bs, ds, ys⟩) (.own 2 T) = some (.lst 1 ((rowsL T F).map encRow) false, 2 :: ((List.range T).map fun j => [5 + j]).flatten) := by
  rw [reify_arrM (g := fun j => .lst 1 (rowB T F j) false) (k := fun j => [5 + j]) (.inl HPr_2) (by simp) fun j hj => ?_, encRow_eq]
  have hr : HPr ⟨s, os, ms, cs, T, T, F, x, bs, ds, ys⟩ (5 + j) = .arr 1 (rowB T F j) := HPr_row (d := ⟨s, os, ms, cs, T, T, F, x, bs, ds, ys⟩) (List.mem_range.1 hj)
  simp only [reifyF, hr]
  rw [if_pos rowB_len]
  unfold rowB
  rw [mapR_map (g := fun k => Vl.bool (F j k)) (k := fun _ => []) fun k _ => rfl, flat_nil]
  rfl
end
theorem RecsOk.snoc {os : List Office} {T : Nat} {F : Nat → Nat → Bool} {plo phi : Int} {bs ds : List Int} {cs : List Rec} {ys : List Int} {q : Nat} {c : Rec} {y : Int} (h : RecsOk os T F plo phi bs ds cs ys) (hc : cs.length = q) (hy : ys.length = q) (hok : RecOk os T plo phi bs ds c y)
    (hf : c.kin = false → ∀ i, i < q → cs[i]!.kin = false → cs[i]!.man = c.man → Fits os (rowsL T F) c y cs[i]! ys[i]!) : RecsOk os T F plo phi bs ds (cs ++ [c]) (ys ++ [y]) := by
  refine ⟨fun j hj => ?_, fun i j hij hj h1 h2 h3 => ?_⟩
  · rw [List.length_append, hc] at hj
    simp only [List.length_cons, List.length_nil] at hj
    by_cases e : j < q
    · rw [get!_snoc_lt (by omega), get!_snoc_lt (by omega)]; exact h.1 j (by omega)
    · have e : j = q := by omega
      subst e
      rw [get!_snoc_eq hc, get!_snoc_eq hy]; exact hok
  · rw [List.length_append, hc] at hj
    simp only [List.length_cons, List.length_nil] at hj
    rw [get!_snoc_lt (show i < cs.length by omega)] at h1 h3 ⊢
    rw [get!_snoc_lt (show i < ys.length by omega)]
    by_cases e : j < q
    · rw [get!_snoc_lt (show j < cs.length by omega)] at h2 h3 ⊢
      rw [get!_snoc_lt (show j < ys.length by omega)]
      exact h.2 i j hij (by omega) h1 h2 h3
    · have e : j = q := by omega
      subst e
      rw [get!_snoc_eq hc] at h2 h3 ⊢
      rw [get!_snoc_eq hy]
      exact hf h2 i (by omega) h1 h3
theorem rows_len {T : Nat} {F : Nat → Nat → Bool} : (rowsL T F).length = T := by simp [rowsL]
theorem allow_wc {lc : List (Nat × Vl)} {nx : Nat} {s : Int × Int} {os : List Office} {ms : List Man} {cs : List Rec} {T : Nat} {F : Nat → Nat → Bool} {bs ds ys : List Int} {n m q : Nat} {life plo phi : Int} {c : Rec} {y : Int} {K : Vl → Mem → Prop}
    (hn : os.length = n) (hms : ms.length = m) (hbs : bs.length = m) (hds : ds.length = m) (hcs : cs.length = q) (hys : ys.length = q) (hok : ∀ o ∈ os, OkO o) (hm : ∀ j, j < m → ManOk life ms[j]! bs[j]! ds[j]!) (hl : life ≤ 60) (hq : q ≤ 8) (hn3 : n ≤ 3) (hm6 : m ≤ 6)
    (hrs : RecsOk os T F plo phi bs ds cs ys) (hc0 : c.kin = false) (hm0 : 0 ≤ c.man) (hm1 : c.man < m) (ho0 : -1 ≤ c.office) (ho1 : c.office < n) (ht0 : 0 ≤ c.town) (ht1 : c.town < T) (hy : -1000 ≤ y ∧ y ≤ 1000)
    (hk : ∀ r : Bool, (r = true → (0 ≤ c.office → (offAt os c.office).age ≤ y - bs[c.man.toNat]!) ∧ ∀ i, i < q → cs[i]!.kin = false → cs[i]!.man = c.man → Fits os (rowsL T F) c y cs[i]! ys[i]!) → K (.bool r) { lc := lc, hp := HPr ⟨s, os, ms, cs, T, T, F, true, bs, ds, ys⟩, nx := nx }) :
    WC Try.prog (AA b) (.fn (.func 52) [] []) [.v (.agg [.own 1 n, I life, I plo, I phi, .own 2 T, .own 3 m, .own 4 q]), .v (.agg [.own (5 + T) m, .own (5 + T + 1) m, .own (5 + T + 1 + 1) q]), .v (encC c), .v (I y)]
      { lc := lc, hp := HPr ⟨s, os, ms, cs, T, T, F, true, bs, ds, ys⟩, nx := nx } K := by
  have hbr : ∀ x ∈ bs, -100000 ≤ x ∧ x ≤ 100000 := fun x hx => by
    obtain ⟨j, hj, rfl⟩ := List.getElem_of_mem hx
    have := hm j (by omega)
    rw [get!_eq hj] at this
    simp only [ManOk] at this
    omega
  have hyr : ∀ x ∈ ys, -100000 ≤ x ∧ x ≤ 100000 := fun x hx => by
    obtain ⟨j, hj, rfl⟩ := List.getElem_of_mem hx
    obtain ⟨r1, r2, r3, r4⟩ := hrs.1 j (by omega)
    rw [get!_eq hj] at r3 r4
    have hmm := hm cs[j]!.man.toNat (by omega)
    simp only [ManOk] at hmm
    by_cases e : cs[j]!.kin = true
    · have := r3 e; omega
    · have := r4 (by simpa using e); omega
  refine wc_flat (vs := [.agg [SL 3 (os.map encO) (some false), I life, I plo, I phi, SL 1 ((rowsL T F).map encRow) (some false), .lst 5 (ms.map encM) false, SL 7 (cs.map encC) (some false)], .agg [SL 1 (bs.map I) (some false), .lst 1 (ds.map I) false, SL 1 (ys.map I) (some false)], encC c, I y])
    (by simp only [mkAnn, K52]) (p := false) (ks := ([1] ++ ([] ++ ([] ++ ([] ++ ((2 :: ((List.range T).map fun j => [5 + j]).flatten) ++ ([3] ++ ([4] ++ []))))))) ++ (([5 + T] ++ ([5 + T + 1] ++ ([5 + T + 1 + 1] ++ []))) ++ ([] ++ ([] ++ [])))) ?_
    (allowed_to (b := b) (fun o ho => ?_) (by omega) (fun r hr => ?_) (by omega) (by omega) hbr hyr (by omega) hm0 (by omega) ho0 (by omega) ht0 (by rw [rows_len]; omega) (fun d hd => ?_) ⟨rfl, rfl⟩ ⟨rfl, rfl⟩) ?_
  · have hc : reify (HPr ⟨s, os, ms, cs, T, T, F, true, bs, ds, ys⟩) (encC c) = some (encC c, []) := rfl
    simp only [reifyAs_v, reifyAs_nil, reify_agg, reifyLs_cons, reifyLs_nil, reify_int, rfR1 hn, rfR2, rfR3 hms, rfR4 hcs, rfRb hbs, rfRd hds, rfRy hys, hc, Option.bind_some, Option.map_some]
    rfl
  · have := hok o ho
    simp only [OkO] at this
    omega
  · simp only [rowsL, List.mem_map] at hr
    obtain ⟨j, _, rfl⟩ := hr
    rw [rows_len]; simp
  · intro hkk
    obtain ⟨j, hj, rfl⟩ := List.getElem_of_mem hd
    obtain ⟨r1, r2, r3, r4⟩ := hrs.1 j (by omega)
    rw [get!_eq hj] at r3 r4
    have := r4 hkk
    rw [rows_len]; omega
  · rintro v ⟨r, rfl, hr⟩
    refine ⟨rfl, hk r fun h => ?_⟩
    obtain ⟨x1, x2⟩ := hr h
    refine ⟨fun ho => by rw [← getD_0]; exact x1 ho, fun i hi h1 h2 => x2 i _ _ ?_ ?_ h1 h2⟩
    · rw [get!_eq (by omega)]; exact List.getElem?_eq_getElem (by omega)
    · rw [get!_eq (by omega)]; exact List.getElem?_eq_getElem (by omega)
structure Rolled (men recs life plo phi : Int) (T : Nat) (F : Nat → Nat → Bool) (os : List Office) (ms : List Man) (cs : List Rec) (bs ds ys : List Int) : Prop where
  life_b : 40 ≤ life ∧ life ≤ 60
  plo_b : 10 ≤ plo ∧ plo ≤ 14
  phi_b : 20 ≤ phi ∧ phi ≤ 30
  T_b : 1 ≤ T ∧ T ≤ 3
  sym : ∀ j k, F j k = F k j
  irr : ∀ j, F j j = false
  os_b : os.length ≤ 3
  os_ok : ∀ o ∈ os, OkO o
  ms_b : 1 ≤ ms.length ∧ (ms.length : Int) ≤ men
  bs_l : bs.length = ms.length
  ds_l : ds.length = ms.length
  man : ∀ j, j < ms.length → ManOk life ms[j]! bs[j]! ds[j]!
  cs_b : (cs.length : Int) ≤ recs
  ys_l : ys.length = cs.length
  recs_ok : RecsOk os T F plo phi bs ds cs ys
set_option maxRecDepth 10000 in
set_option maxHeartbeats 4000000 in
theorem rollOf_to {s : Int × Int} {men recs : Int} (h1 : 1 ≤ men) (h2 : men ≤ 6) (h3 : 0 ≤ recs) (h4 : recs ≤ 8) :
    HAns Try.prog (AA b) 17 [.bp 0 0, I men, I recs] (upd noHeap 0 (urnO s)) 1 (fun v hp' nx' => ∃ s life plo phi T F os ms cs bs ds ys, Rolled men recs life plo phi T F os ms cs bs ds ys ∧ v = .tup [.agg [.own 1 os.length, I life, I plo, I phi, .own 2 T, .own 3 ms.length, .own 4 cs.length], .agg [.own (5 + T) ms.length, .own (5 + T + 1) ms.length, .own (5 + T + 1 + 1) cs.length]] ∧ hp' = HPr ⟨s, os, ms, cs, T, T, F, true, bs, ds, ys⟩ ∧ nx' = 5 + T + 1 + 1 + 1) := by
  refine HAns_of Try.func17 rfl ?_
  have l1 := fromR_b s (lo := 40) (hi := 60) (by omega) (by omega) (by omega) (by omega)
  have l2 := fromR_b (fromS s 40 60) (lo := 10) (hi := 14) (by omega) (by omega) (by omega) (by omega)
  have l3 := fromR_b (fromS (fromS s 40 60) 10 14) (lo := 20) (hi := 30) (by omega) (by omega) (by omega) (by omega)
  have l4 := upR_b (fromS (fromS (fromS s 40 60) 10 14) 20 30) (n := 4) (by omega)
  simp +contextual (maxSteps := 1000000) (disch := first | omega | (with_reducible first | refine krN ?_ | refine krS ?_ | refine krP ?_ | refine krG ?_); kernel_rfl | refine kr ?_; simp only [go_sem, seval, -List.reduceReplicate]; done | fail) only [go_sem, seval, -List.reduceReplicate]
  generalize upR (fromS (fromS (fromS s 40 60) 10 14) 20 30) 4 = n0 at l4 ⊢
  generalize upS (fromS (fromS (fromS s 40 60) 10 14) 20 30) 4 = s4
  generalize fromR (fromS (fromS s 40 60) 10 14) 20 30 = phi at l3 ⊢
  generalize fromR (fromS s 40 60) 10 14 = plo at l2 ⊢
  generalize fromR s 40 60 = life at l1 ⊢
  obtain ⟨i0, rfl⟩ := Int.eq_ofNat_of_zero_le l4.1
  refine wp_loop_I (fun (i : Nat) st => ∃ s os n ex, os.length = n ∧ (∀ o ∈ os, OkO o) ∧ n + i ≤ 3 ∧ st = ({ sl := (0, .bp 0 0) :: (1, I men) :: (2, I recs) :: (6, .loc (.agg [.nils, I 0, I 0, I 0, .nils, .nils, .nils])) :: (7, .loc (.agg [.nils, .nils, .nils])) :: (8, .loc (.agg [.own 1 n, I life, I plo, I phi, .own 2 0, .own 3 0, .own 4 0])) :: (9, I i) :: ex, hp := HPr ⟨s, os, [], [], 0, 0, fun _ _ => false, false, [], [], []⟩, nx := 5 } : FS)) (fun i => i) ?_ i0
    ⟨s4, [], 0, _, rfl, by simp, by simp; omega, rfl⟩
  clear l4 s4
  rintro i st ⟨s, os, n, ex, hn, hok, hlen, rfl⟩
  have a1 := upR_b s (n := 12) (by omega)
  have a2 := upR_b (upS s 12) (n := 4) (by omega)
  have a3 := fromR_b (upS (upS s 12) 4) (lo := 1) (hi := 4) (by omega) (by omega) (by omega) (by omega)
  have a4 := fromR_b s (lo := 1) (hi := 3) (by omega) (by omega) (by omega) (by omega)
  simp +contextual (maxSteps := 1000000) (disch := first | omega | (with_reducible first | refine krN ?_ | refine krS ?_ | refine krP ?_ | refine krG ?_); kernel_rfl | refine kr ?_; simp only [go_sem, seval, -List.reduceReplicate]; done | fail) only [go_sem, seval, -List.reduceReplicate]
  refine WI_of (fun hc => ?_) (fun hc => ?_)
  · refine ⟨i - 1, ⟨_, os ++ [⟨upR s 12, upR (upS s 12) 4, fromR (upS (upS s 12) 4) 1 4⟩], _, _, ?_, ?_, ?_, rfl⟩, by omega⟩
    · simp [hn]
    · intro o ho
      rcases List.mem_append.1 ho with ho | ho
      · exact hok o ho
      · simp only [List.mem_singleton] at ho; subst ho; simp only [OkO]; omega
    · omega
  · clear a1 a2 a3
    generalize fromR s 1 3 = t0 at a4 ⊢
    obtain ⟨T, rfl⟩ := Int.eq_ofNat_of_zero_le (show 0 ≤ t0 by omega)
    generalize fromS s 1 3 = s
    rw [HPr_T0 (T' := T)]
    refine wp_loop_to T (fun t st => ∃ s F ex, (∀ j k, F j k = F k j) ∧ (∀ j, F j j = false) ∧ (∀ j k, t ≤ k → F j k = false) ∧ st = ({ sl := (0, .bp 0 0) :: (1, I men) :: (2, I recs) :: (6, .loc (.agg [.nils, I 0, I 0, I 0, .nils, .nils, .nils])) :: (7, .loc (.agg [.nils, .nils, .nils])) :: (8, .loc (.agg [.own 1 n, I life, I plo, I phi, .own 2 t, .own 3 0, .own 4 0])) :: (10, I T) :: (11, I t) :: ex, hp := HPr ⟨s, os, [], [], T, t, F, false, [], [], []⟩, nx := 5 + t } : FS)) ?_ 0 (Nat.zero_le _)
      ⟨s, _, _, fun _ _ => rfl, fun _ => rfl, fun _ _ _ => rfl, rfl⟩
    clear s hc ex
    rintro t st ht ⟨s, F, ex, hsym, hirr, hz, rfl⟩
    have hms : ∀ m : Mem, makeSliceV (.slice 1 1 (.bool false)) (.int .i64 (T : Int)) (.int .i64 (T : Int)) m = some (.v (.own m.nx T), { m with hp := upd m.hp m.nx (.arr 1 (List.replicate T (.bool false))), nx := m.nx + 1 }) := fun m => makeSlice_nat (by omega) (by omega) rfl rfl (by decide)
    have hap : ∀ (o : Bool) (k : Nat), isAppend Try.prog 25 25 (.own 2 t) (.lst 1 [.own (5 + t) T] o) { lc := [], hp := upd (HPr ⟨s, os, [], [], T, t, F, false, [], [], []⟩) (5 + t) (.arr 1 (List.replicate T (.bool false))), nx := k } = some (.own 2 (t + 1), { lc := [], hp := HPr ⟨s, os, [], [], T, t + 1, F, false, [], [], []⟩, nx := k }) := fun o k => by
      rw [app1_own (xs := (List.range t).map fun j => .own (5 + j) T) (e := 1) (by rw [td25]) (show upd (HPr ⟨s, os, [], [], T, t, F, false, [], [], []⟩) (5 + t) _ 2 = _ by rw [upd_ne _ _ (by omega)]; exact HPr_2) (by simp) (grow_ok rfl rfl (by decide) (by decide) (by omega))]
      have := HPr_more (d := ⟨s, os, [], [], T, t, F, false, [], [], []⟩) rfl (fun k => by show F t k = false; rw [hsym]; exact hz k t (Nat.le_refl _))
      simp only at this ⊢
      rw [this]
    have a5 := fromR_b s (lo := 1) (hi := men) (by omega) (by omega) (by omega) (by omega)
    simp +contextual (maxSteps := 1000000) (disch := first | omega | (with_reducible first | refine krN ?_ | refine krS ?_ | refine krP ?_ | refine krG ?_); kernel_rfl | refine kr ?_; simp only [go_sem, seval, -List.reduceReplicate, hms, hap, Int.ofNat_lt]; done | fail) only [go_sem, seval, -List.reduceReplicate, hms, hap, Int.ofNat_lt]
    refine WI_of (fun hc => ?_) (fun hc => ?_)
    · refine wp_loop_to t (fun k st => ∃ s F ex, (∀ j k, F j k = F k j) ∧ (∀ j, F j j = false) ∧ (∀ j k, t + 1 ≤ k → F j k = false) ∧ (∀ l, k ≤ l → F t l = false) ∧ st = ({ sl := (0, .bp 0 0) :: (1, I men) :: (2, I recs) :: (6, .loc (.agg [.nils, I 0, I 0, I 0, .nils, .nils, .nils])) :: (7, .loc (.agg [.nils, .nils, .nils])) :: (8, .loc (.agg [.own 1 n, I life, I plo, I phi, .own 2 (t + 1), .own 3 0, .own 4 0])) :: (10, I T) :: (11, I t) :: (12, I k) :: ex, hp := HPr ⟨s, os, [], [], T, t + 1, F, false, [], [], []⟩, nx := 5 + t + 1 } : FS)) ?_ 0 (Nat.zero_le _)
        ⟨s, F, _, hsym, hirr, fun j k hk => hz j k (by omega), fun l _ => by rw [hsym]; exact hz l t (Nat.le_refl _), rfl⟩
      clear hms hap hsym hirr hz F s ex a5
      rintro k st hk ⟨s, F, ex, hsym, hirr, hz, hl, rfl⟩
      simp +contextual (maxSteps := 1000000) (disch := first | omega | (with_reducible first | refine krN ?_ | refine krS ?_ | refine krP ?_ | refine krG ?_); kernel_rfl | refine kr ?_; simp only [go_sem, seval, -List.reduceReplicate, Int.ofNat_lt]; done | fail) only [go_sem, seval, -List.reduceReplicate, Int.ofNat_lt]
      refine WI_of (fun hc => ?_) (fun hc => ?_)
      · have hx : ∀ x, setB F t k x t k = x := fun x => by simp [setB]
        refine ⟨_, setB (setB F t k (oddsR s 1 2)) k t (setB F t k (oddsR s 1 2) t k), _, ?_, ?_, ?_, ?_, rfl⟩
        · intro a b; simp only [setB]; grind
        · intro a; simp only [setB]; grind
        · intro a b hb; simp only [setB]; grind
        · intro b hb; simp only [setB]; grind
      · exact ⟨_, _, _, hsym, hirr, hz, rfl⟩
    · have htT : t = T := by omega
      subst htT
      clear hms hap ht
      generalize fromR s 1 men = n3 at a5 ⊢
      obtain ⟨i3, rfl⟩ := Int.eq_ofNat_of_zero_le (show 0 ≤ n3 by omega)
      generalize fromS s 1 men = s
      refine wp_loop_I (fun (i : Nat) st => ∃ s ms bs ds m ex, ms.length = m ∧ bs.length = m ∧ ds.length = m ∧ (∀ j, j < m → ManOk life ms[j]! bs[j]! ds[j]!) ∧ ((m + i : Nat) : Int) ≤ men ∧ 1 ≤ m + i ∧ st = ({ sl := (0, .bp 0 0) :: (2, I recs) :: (6, .loc (.agg [.nils, I 0, I 0, I 0, .nils, .nils, .nils])) :: (7, .loc (.agg [.nils, .nils, .nils])) :: (8, .loc (.agg [.own 1 n, I life, I plo, I phi, .own 2 t, .own 3 m, .own 4 0])) :: (10, I t) :: (13, .loc (.agg [.own (5 + t) m, .own (5 + t + 1) m, .own (5 + t + 1 + 1) 0])) :: (14, I i) :: ex, hp := HPr ⟨s, os, ms, [], t, t, F, true, bs, ds, []⟩, nx := 5 + t + 1 + 1 + 1 } : FS)) (fun i => i) ?_ i3
        ⟨s, [], [], [], 0, _, rfl, rfl, rfl, fun j hj => absurd hj (Nat.not_lt_zero _), by omega, by omega, rfl⟩
      clear s a5
      rintro i st ⟨s, ms, bs, ds, m, ex, hms, hbs, hds, hm, hm1, hm2, rfl⟩
      have c1 := fromR_b s (lo := -20) (hi := 20) (by omega) (by omega) (by omega) (by omega)
      have c2 := fromR_b (fromS s (-20) 20) (lo := 20) (hi := life) (by omega) (by omega) (by omega) (by omega)
      have c3 := upR_b (fromS (fromS s (-20) 20) 20 life) (n := 2) (by omega)
      have c4 := halfR_b (upS (fromS (fromS s (-20) 20) 20 life) 2)
      have c5 := halfR_b (halfS (upS (fromS (fromS s (-20) 20) 20 life) 2))
      have c6 := halfR_b (halfS (halfS (upS (fromS (fromS s (-20) 20) 20 life) 2)))
      have c7 := halfR_b (halfS (halfS (halfS (upS (fromS (fromS s (-20) 20) 20 life) 2))))
      have d1 := upR_b s (n := recs + 1) (by omega)
      simp +contextual (maxSteps := 1000000) (disch := first | omega | (with_reducible first | refine krN ?_ | refine krS ?_ | refine krP ?_ | refine krG ?_); kernel_rfl | refine kr ?_; simp only [go_sem, seval, -List.reduceReplicate, w64]; done | fail) only [go_sem, seval, -List.reduceReplicate, w64]
      refine WI_of (fun hc => ?_) (fun hc => ?_)
      · refine ⟨i - 1, ⟨_, _, _, _, m + 1, _, ?_, ?_, ?_, ?_, ?_, ?_, rfl⟩, by omega⟩
        · simp [hms]
        · simp [hbs]
        · simp [hds]
        · intro j hj
          by_cases e : j < m
          · rw [get!_snoc_lt (by omega), get!_snoc_lt (by omega), get!_snoc_lt (by omega)]
            exact hm j e
          · have e : j = m := by omega
            subst e
            rw [get!_snoc_eq hms, get!_snoc_eq hbs, get!_snoc_eq hds]
            simp only [ManOk]
            omega
        · omega
        · omega
      · clear c1 c2 c3 c4 c5 c6 c7
        have hm2 : 1 ≤ m := by omega
        have hm6 : m ≤ 6 := by omega
        have hmen : (m : Int) ≤ men := by omega
        generalize upR s (recs + 1) = q0 at d1 ⊢
        generalize upS s (recs + 1) = s
        obtain ⟨i4, rfl⟩ := Int.eq_ofNat_of_zero_le d1.1
        refine wp_loop_I (fun (i : Nat) st => ∃ s cs ys q ex, cs.length = q ∧ ys.length = q ∧ RecsOk os t F plo phi bs ds cs ys ∧ ((q + i : Nat) : Int) ≤ recs ∧ st = ({ sl := (0, .bp 0 0) :: (6, .loc (.agg [.nils, I 0, I 0, I 0, .nils, .nils, .nils])) :: (7, .loc (.agg [.nils, .nils, .nils])) :: (8, .loc (.agg [.own 1 n, I life, I plo, I phi, .own 2 t, .own 3 m, .own 4 q])) :: (10, I t) :: (13, .loc (.agg [.own (5 + t) m, .own (5 + t + 1) m, .own (5 + t + 1 + 1) q])) :: (17, I i) :: ex, hp := HPr ⟨s, os, ms, cs, t, t, F, true, bs, ds, ys⟩, nx := 5 + t + 1 + 1 + 1 } : FS)) (fun i => i) ?_ i4
          ⟨s, [], [], 0, _, rfl, rfl, ⟨fun j hj => absurd hj (Nat.not_lt_zero _), fun i j _ hj => absurd hj (Nat.not_lt_zero _)⟩, by omega, rfl⟩
        clear s hm1 d1 hc
        rintro i st ⟨s, cs, ys, q, ex, hcs, hys, hrs, hq, rfl⟩
        have e1 := upR_b s (n := m) (by omega)
        have e2 := upR_b (upS s m) (n := m) (by omega)
        have g1 := hm (upR s m).toNat (by omega)
        have g2 := hm (upR (upS s m) m).toNat (by omega)
        simp only [ManOk] at g1 g2
        have em : upR s m < m := by omega
        have fy : ∀ s', bs[(upR s m).toNat]! ≤ fromR s' bs[(upR s m).toNat]! ds[(upR s m).toNat]! ∧ fromR s' bs[(upR s m).toNat]! ds[(upR s m).toNat]! ≤ ds[(upR s m).toNat]! := fun s' => by
          have := fromR_b s' (lo := bs[(upR s m).toNat]!) (hi := ds[(upR s m).toNat]!) (by omega) (by omega) (by omega) (by omega)
          omega
        have fo : ∀ s', -1 ≤ fromR s' (-1) ((n : Int) - 1) ∧ fromR s' (-1) ((n : Int) - 1) < n := fun s' => by
          have := fromR_b s' (lo := -1) (hi := (n : Int) - 1) (by omega) (by omega) (by omega) (by omega)
          omega
        have ft : ∀ s', 0 ≤ upR s' t ∧ upR s' t < t := fun s' => by
          have := upR_b s' (n := (t : Int)) (by omega)
          omega
        simp +contextual (maxSteps := 1000000) (disch := first | omega | (with_reducible first | refine krN ?_ | refine krS ?_ | refine krP ?_ | refine krG ?_); kernel_rfl | refine kr ?_; simp only [go_sem, seval, -List.reduceReplicate, newBox]; done | fail) only [go_sem, seval, -List.reduceReplicate, newBox]
        refine WI_of (fun hc => WI_of (fun hk => WI_of (fun ho => WI_of (fun hq => ?_) (fun hq => ?_)) (fun ho => ?_)) (fun hk => ?_)) (fun hc => ?_)
        · refine ⟨i - 1, ⟨_, _, _, q + 1, _, ?_, ?_, ?_, ?_, rfl⟩, by omega⟩
          · simp [hcs]
          · simp [hys]
          · refine hrs.snoc hcs hys ⟨e1.1, by simp only; omega, fun _ => ?_, fun h => by cases h⟩ (fun h => by cases h)
            simp only
            and_intros <;> first | trivial | exact hk | omega
          · omega
        · exact ⟨i - 1, ⟨_, _, _, q, _, hcs, hys, hrs, by omega, rfl⟩, by omega⟩
        rotate_left 2
        · exact ⟨s, life, plo, phi, t, F, os, ms, cs, bs, ds, ys, ⟨by omega, by omega, by omega, by omega, hsym, hirr, by omega, hok, by omega, by omega, by omega, by rw [hms]; exact hm, by omega, by omega, hrs⟩, by rw [hn, hms, hcs], rfl, rfl⟩
        all_goals
          refine allow_wc (c := ⟨false, _, _, _, _, _, _⟩) hn hms hbs hds hcs hys hok hm (by omega) (by omega) (by omega) hm6 hrs rfl e1.1 em (fo _).1 (fo _).2 (ft _).1 (ft _).2 ?_ ?_
          · have := fy (upS (upS s m) m)
            have := fy (upS (upS (upS s m) m) 3)
            omega
          · rintro r hr
            cases r with
            | true =>
              have hr := hr rfl
              simp +contextual (maxSteps := 1000000) (disch := first | omega | (with_reducible first | refine krN ?_ | refine krS ?_ | refine krP ?_ | refine krG ?_); kernel_rfl | refine kr ?_; simp only [go_sem, seval, -List.reduceReplicate]; done | fail) only [go_sem, seval, -List.reduceReplicate]
              refine ⟨i - 1, ⟨_, _, _, q + 1, _, ?_, ?_, ?_, ?_, rfl⟩, by omega⟩
              · simp [hcs]
              · simp [hys]
              · refine hrs.snoc hcs hys ⟨e1.1, (by rw [hbs]; exact em), (fun h => by cases h), fun _ => ?_⟩ (fun _ => hr.2)
                simp only at hr ⊢
                have f1 := fy (upS (upS s m) m)
                have f2 := fy (upS (upS (upS s m) m) 3)
                have fw : ∀ a : Int, -1000 ≤ a → a ≤ 1000 → w64 a = a := fun a x1 x2 => wrap_i64 (by omega) (by omega)
                have fh := halfR_b
                refine ⟨(fo _).1, by rw [hn]; exact (fo _).2, (ft _).1, (ft _).2, trivial, ?_, ?_, ?_, ?_, ?_, ?_, ?_⟩
                · have := fh (upS (fromS (fromS (upS (upS s m) m) bs[(upR s m).toNat]! ds[(upR s m).toNat]!) (-1) (n - 1)) t)
                  have := fh (upS (fromS (fromS (upS (upS (upS s m) m) 3) bs[(upR s m).toNat]! ds[(upR s m).toNat]!) (-1) (n - 1)) t)
                  rw [fw _ (by omega) (by omega)]; omega
                · have := fh (halfS (upS (fromS (fromS (upS (upS s m) m) bs[(upR s m).toNat]! ds[(upR s m).toNat]!) (-1) (n - 1)) t))
                  have := fh (halfS (upS (fromS (fromS (upS (upS (upS s m) m) 3) bs[(upR s m).toNat]! ds[(upR s m).toNat]!) (-1) (n - 1)) t))
                  rw [fw _ (by omega) (by omega)]; omega
                · have := fh (upS (fromS (fromS (upS (upS s m) m) bs[(upR s m).toNat]! ds[(upR s m).toNat]!) (-1) (n - 1)) t)
                  have := fh (upS (fromS (fromS (upS (upS (upS s m) m) 3) bs[(upR s m).toNat]! ds[(upR s m).toNat]!) (-1) (n - 1)) t)
                  rw [fw _ (by omega) (by omega)]; omega
                · have := fh (halfS (upS (fromS (fromS (upS (upS s m) m) bs[(upR s m).toNat]! ds[(upR s m).toNat]!) (-1) (n - 1)) t))
                  have := fh (halfS (upS (fromS (fromS (upS (upS (upS s m) m) 3) bs[(upR s m).toNat]! ds[(upR s m).toNat]!) (-1) (n - 1)) t))
                  rw [fw _ (by omega) (by omega)]; omega
                · omega
                · omega
                · exact hr.1
              · omega
            | false =>
              simp +contextual (maxSteps := 1000000) (disch := first | omega | (with_reducible first | refine krN ?_ | refine krS ?_ | refine krP ?_ | refine krG ?_); kernel_rfl | refine kr ?_; simp only [go_sem, seval, -List.reduceReplicate]; done | fail) only [go_sem, seval, -List.reduceReplicate]
              exact ⟨i - 1, ⟨_, _, _, q, _, hcs, hys, hrs, by omega, rfl⟩, by omega⟩
end Go.Proofs
