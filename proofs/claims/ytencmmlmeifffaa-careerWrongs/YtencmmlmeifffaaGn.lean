/- What functions of the given program do in the ideal machine (G45, G46, G47), and the plain laws of what they answer; the conditions stand in each theorem. -/
import Derived.Test.YtencmmlmeifffaaGm
import Derived.Test.YtencmmlmeifffaaGg
set_option linter.all false
set_option linter.unusedSectionVars false
set_option linter.unusedSimpArgs false
set_option linter.unusedVariables false
namespace Go.Proofs
open Go Go.Idl
set_option linter.unusedSimpArgs false
variable {b : Bool}
section
variable {m : Mem} {K : Vl → Mem → Prop}
theorem born_to (i : Int) : Ans Try.prog (AA b) 94 [I i] (fun v => v = I i) := by
  refine Ans_of Try.func94 rfl rfl ?_
  simp +contextual (maxSteps := 1000000) (disch := first | omega | (with_reducible first | refine krN ?_ | refine krS ?_ | refine krP ?_ | refine krG ?_); kernel_rfl | refine kr ?_; simp only [go_sem, reduceCtorEq]; done | fail) only [go_sem, seval, -List.reduceReplicate]
theorem wc94 (i : Int) : WC Try.prog (AA b) (.fn (.func 94) [] []) [.v (I i)] m K = K (I i) m := WC_flat (by simp only [mkAnn, K94]) (rfAs (xs := [I i]) rfl) (born_to i) rfl
theorem diedR_to {r : Roll} {i : Int} (hm : r.ms.length ≤ 1000) (hi : 0 ≤ i ∧ i ≤ 1000) {o1 o2 o3 o4 : Option Bool} : Ans Try.prog (AA b) 95 [encRoll o1 o2 o3 o4 r, I i] (fun v => v = I ((r.ms.length : Int) + i)) := by
  refine Ans_of Try.func95 rfl rfl ?_
  simp +contextual (maxSteps := 1000000) (disch := first | omega | (with_reducible first | refine krN ?_ | refine krS ?_ | refine krP ?_ | refine krG ?_); kernel_rfl | refine kr ?_; simp only [go_sem, reduceCtorEq]; done | fail) only [go_sem, seval, -List.reduceReplicate]
theorem wc95 {r : Roll} {i : Int} (hm : r.ms.length ≤ 1000) (hi : 0 ≤ i ∧ i ≤ 1000) {o1 o2 o3 o4 : Option Bool} : WC Try.prog (AA b) (.fn (.func 95) [] []) [.v (encRoll o1 o2 o3 o4 r), .v (I i)] m K = K (I ((r.ms.length : Int) + i)) m :=
  WC_flat (by simp only [mkAnn, K95]) (rfAs (xs := [encRoll o1 o2 o3 o4 r, I i]) (by show ((encRoll o1 o2 o3 o4 r).closed && true) = true; rw [clRoll]; rfl)) (diedR_to hm hi) rfl
theorem yearR_to {r : Roll} {i : Int} (hm : r.ms.length ≤ 1000) (hi : 0 ≤ i ∧ i ≤ 1000) {o1 o2 o3 o4 : Option Bool} : Ans Try.prog (AA b) 96 [encRoll o1 o2 o3 o4 r, I i] (fun v => v = I (2 * (r.ms.length : Int) + i)) := by
  refine Ans_of Try.func96 rfl rfl ?_
  simp +contextual (maxSteps := 1000000) (disch := first | omega | (with_reducible first | refine krN ?_ | refine krS ?_ | refine krP ?_ | refine krG ?_); kernel_rfl | refine kr ?_; simp only [go_sem, reduceCtorEq]; done | fail) only [go_sem, seval, -List.reduceReplicate]
theorem wc96 {r : Roll} {i : Int} (hm : r.ms.length ≤ 1000) (hi : 0 ≤ i ∧ i ≤ 1000) {o1 o2 o3 o4 : Option Bool} : WC Try.prog (AA b) (.fn (.func 96) [] []) [.v (encRoll o1 o2 o3 o4 r), .v (I i)] m K = K (I (2 * (r.ms.length : Int) + i)) m :=
  WC_flat (by simp only [mkAnn, K96]) (rfAs (xs := [encRoll o1 o2 o3 o4 r, I i]) (by show ((encRoll o1 o2 o3 o4 r).closed && true) = true; rw [clRoll]; rfl)) (yearR_to hm hi) rfl
theorem near_to {i k n x : Int} (hx : -1000 ≤ x ∧ x ≤ 1000) : Ans Try.prog (AA b) 93 [I i, I k, I n, I x] (fun v => v = .lst 3 [.agg [I i, I k, I n], .agg [I k, I i, I (-x)]] true) := by
  refine Ans_of Try.func93 rfl rfl ?_
  simp +contextual (maxSteps := 1000000) (disch := first | omega | (with_reducible first | refine krN ?_ | refine krS ?_ | refine krP ?_ | refine krG ?_); kernel_rfl | refine kr ?_; simp only [go_sem, reduceCtorEq]; done | fail) only [go_sem, seval, -List.reduceReplicate]
  rw [Int.zero_sub]
  exact OB_intro (rfC rfl) rfl
theorem wc93 {i k n x : Int} (hx : -1000 ≤ x ∧ x ≤ 1000) : WC Try.prog (AA b) (.fn (.func 93) [] []) [.v (I i), .v (I k), .v (I n), .v (I x)] m K = K (.lst 3 [.agg [I i, I k, I n], .agg [I k, I i, I (-x)]] true) m :=
  WC_pure (by simp only [mkAnn, K93]) (rfAs (xs := [I i, I k, I n, I x]) rfl) rfl rfl (near_to hx)
theorem apS {gs : List (Int × Int)} {p q : Int} {o : Bool} {k : Nat} {lc : List (Nat × Vl)} {nx : Nat} (hn : gs.length = k) (hs : k < 1000) : isAppend Try.prog 92 92 (.own 0 k) (.lst 2 [.agg [.int .i64 p, .int .i64 q]] o) ⟨lc, upd noHeap 0 (.arr 2 (gs.map encS)), nx⟩ = some (.own 0 (k + 1), ⟨lc, upd noHeap 0 (.arr 2 ((gs ++ [(p, q)]).map encS)), nx⟩) := by
  have e : upd noHeap 0 (.arr 2 ((gs ++ [(p, q)]).map encS)) = upd (upd noHeap 0 (.arr 2 (gs.map encS))) 0 (.arr 2 (gs.map encS ++ [.agg [.int .i64 p, .int .i64 q]])) := by
    rw [upd_upd, List.map_append]; rfl
  rw [e]
  exact app1_own (by rw [td92]) (xs := gs.map encS) (upd_same noHeap 0 (.arr 2 (gs.map encS))) (by rw [List.length_map]; exact hn) (grow_ok rfl rfl (by decide) (by decide) (by omega))
theorem start_to {r : Roll} (hm : r.ms.length ≤ 100) (hc8 : r.cs.length ≤ 100) {o1 o2 o3 o4 : Option Bool} : Ans Try.prog (AA b) 76 [encRoll o1 o2 o3 o4 r] (fun v => v = .lst 2 ((givenL r).map encS) false) := by
  refine Ans_of Try.func76 rfl rfl ?_
  simp +contextual (maxSteps := 1000000) (disch := first | omega | (with_reducible first | refine krN ?_ | refine krS ?_ | refine krP ?_ | refine krG ?_); kernel_rfl | refine kr ?_; simp only [go_sem, reduceCtorEq]; done | fail) only [go_sem, seval, -List.reduceReplicate]
  refine wp_loop_to r.ms.length (fun i st => ∃ (ex : List (Nat × Vl)), st = ({ sl := (1, .loc (encRoll o1 o2 o3 o4 r)) :: (3, .own 0 (i)) :: (4, I i) :: ex, hp := upd noHeap 0 (.arr 2 (((r.ms.take i).map (fun m : Man => (m.blo, m.bhi))).map encS)), nx := 1 } : FS)) ?_ 0 (Nat.zero_le _) ⟨_, rfl⟩
  rintro i st hi ⟨ex, rfl⟩
  by_cases hc : i < r.ms.length
  case pos =>
    have hgl : ((r.ms.take i).map (fun m : Man => (m.blo, m.bhi))).length = i := by simp only [List.length_append, List.length_map, List.length_take]; omega
    have hsn : (r.ms.take (i + 1)).map (fun m : Man => (m.blo, m.bhi)) = ((r.ms.take i).map (fun m : Man => (m.blo, m.bhi))) ++ [(fun m : Man => (m.blo, m.bhi)) r.ms[i]!] := by rw [take_snoc hc, List.map_append]; simp only [List.append_assoc]; rfl
    simp +contextual (maxSteps := 1000000) (disch := first | omega | (with_reducible first | refine krN ?_ | refine krS ?_ | refine krP ?_ | refine krG ?_); kernel_rfl | refine kr ?_; simp only [go_sem, reduceCtorEq, Int.ofNat_lt, hc, ix_map, encM, apS, hgl]; done | fail) only [go_sem, seval, -List.reduceReplicate, Int.ofNat_lt, hc, ix_map, encM, apS, hgl]
    exact ⟨[], by first | (rw [hsn]; done) | (rw [hsn]; rfl)⟩
  obtain rfl : i = r.ms.length := by omega
  simp +contextual (maxSteps := 1000000) (disch := first | omega | (with_reducible first | refine krN ?_ | refine krS ?_ | refine krP ?_ | refine krG ?_); kernel_rfl | refine kr ?_; simp only [go_sem, reduceCtorEq, Int.lt_irrefl]; done | fail) only [go_sem, seval, -List.reduceReplicate, Int.lt_irrefl]
  clear hi hc
  rw [List.take_length]
  refine wp_loop_to r.ms.length (fun i st => ∃ (ex : List (Nat × Vl)), st = ({ sl := (1, .loc (encRoll o1 o2 o3 o4 r)) :: (3, .own 0 (r.ms.length + i)) :: (5, I i) :: ex, hp := upd noHeap 0 (.arr 2 ((r.ms.map (fun m : Man => (m.blo, m.bhi)) ++ (r.ms.take i).map (fun m : Man => (m.dlo, m.dhi))).map encS)), nx := 1 } : FS)) ?_ 0 (Nat.zero_le _) ⟨[], by simp only [List.take_zero, List.map_nil, List.append_nil, Nat.add_zero]; rfl⟩
  rintro i st hi ⟨ex, rfl⟩
  by_cases hc : i < r.ms.length
  case pos =>
    have hgl : (r.ms.map (fun m : Man => (m.blo, m.bhi)) ++ (r.ms.take i).map (fun m : Man => (m.dlo, m.dhi))).length = r.ms.length + i := by simp only [List.length_append, List.length_map, List.length_take]; omega
    have hsn : r.ms.map (fun m : Man => (m.blo, m.bhi)) ++ (r.ms.take (i + 1)).map (fun m : Man => (m.dlo, m.dhi)) = (r.ms.map (fun m : Man => (m.blo, m.bhi)) ++ (r.ms.take i).map (fun m : Man => (m.dlo, m.dhi))) ++ [(fun m : Man => (m.dlo, m.dhi)) r.ms[i]!] := by rw [take_snoc hc, List.map_append]; simp only [List.append_assoc]; rfl
    simp +contextual (maxSteps := 1000000) (disch := first | omega | (with_reducible first | refine krN ?_ | refine krS ?_ | refine krP ?_ | refine krG ?_); kernel_rfl | refine kr ?_; simp only [go_sem, reduceCtorEq, Int.ofNat_lt, hc, ix_map, encM, apS, hgl]; done | fail) only [go_sem, seval, -List.reduceReplicate, Int.ofNat_lt, hc, ix_map, encM, apS, hgl]
    exact ⟨[], by first | (rw [hsn]; done) | (rw [hsn]; rfl)⟩
  obtain rfl : i = r.ms.length := by omega
  simp +contextual (maxSteps := 1000000) (disch := first | omega | (with_reducible first | refine krN ?_ | refine krS ?_ | refine krP ?_ | refine krG ?_); kernel_rfl | refine kr ?_; simp only [go_sem, reduceCtorEq, Int.lt_irrefl]; done | fail) only [go_sem, seval, -List.reduceReplicate, Int.lt_irrefl]
  clear hi hc
  rw [List.take_length]
  refine wp_loop_to r.cs.length (fun i st => ∃ (ex : List (Nat × Vl)), st = ({ sl := (1, .loc (encRoll o1 o2 o3 o4 r)) :: (3, .own 0 (r.ms.length + r.ms.length + i)) :: (6, I i) :: ex, hp := upd noHeap 0 (.arr 2 ((r.ms.map (fun m : Man => (m.blo, m.bhi)) ++ r.ms.map (fun m : Man => (m.dlo, m.dhi)) ++ (r.cs.take i).map (fun c : Rec => (c.lo, c.hi))).map encS)), nx := 1 } : FS)) ?_ 0 (Nat.zero_le _) ⟨[], by simp only [List.take_zero, List.map_nil, List.append_nil, Nat.add_zero]; rfl⟩
  rintro i st hi ⟨ex, rfl⟩
  by_cases hc : i < r.cs.length
  case pos =>
    have hgl : (r.ms.map (fun m : Man => (m.blo, m.bhi)) ++ r.ms.map (fun m : Man => (m.dlo, m.dhi)) ++ (r.cs.take i).map (fun c : Rec => (c.lo, c.hi))).length = r.ms.length + r.ms.length + i := by simp only [List.length_append, List.length_map, List.length_take]; omega
    have hsn : r.ms.map (fun m : Man => (m.blo, m.bhi)) ++ r.ms.map (fun m : Man => (m.dlo, m.dhi)) ++ (r.cs.take (i + 1)).map (fun c : Rec => (c.lo, c.hi)) = (r.ms.map (fun m : Man => (m.blo, m.bhi)) ++ r.ms.map (fun m : Man => (m.dlo, m.dhi)) ++ (r.cs.take i).map (fun c : Rec => (c.lo, c.hi))) ++ [(fun c : Rec => (c.lo, c.hi)) r.cs[i]!] := by rw [take_snoc hc, List.map_append]; simp only [List.append_assoc]; rfl
    simp +contextual (maxSteps := 1000000) (disch := first | omega | (with_reducible first | refine krN ?_ | refine krS ?_ | refine krP ?_ | refine krG ?_); kernel_rfl | refine kr ?_; simp only [go_sem, reduceCtorEq, Int.ofNat_lt, hc, ix_map, encC, apS, hgl]; done | fail) only [go_sem, seval, -List.reduceReplicate, Int.ofNat_lt, hc, ix_map, encC, apS, hgl]
    exact ⟨[], by first | (rw [hsn]; done) | (rw [hsn]; rfl)⟩
  obtain rfl : i = r.cs.length := by omega
  simp +contextual (maxSteps := 1000000) (disch := first | omega | (with_reducible first | refine krN ?_ | refine krS ?_ | refine krP ?_ | refine krG ?_); kernel_rfl | refine kr ?_; simp only [go_sem, reduceCtorEq, Int.lt_irrefl]; done | fail) only [go_sem, seval, -List.reduceReplicate, Int.lt_irrefl]
  clear hi hc
  rw [List.take_length]
  exact OB_intro (reify_flat (.inl (upd_same _ _ _)) (by simp only [List.length_append, List.length_map]) fun _ => rfl) rfl
end
end Go.Proofs
namespace Go.Proofs
open Go Go.Idl
set_option linter.unusedSimpArgs false
variable {b : Bool}
section
variable {k : Kn} {rs : List Rule} {m : Nat}
theorem nar_again {k1 : Kn} (h : KB k m) (hr : ∀ x ∈ rs, RBm m x) (e : narRoundE k rs = (k1, true)) (hm : meas k1 < meas k) : nar k rs = nar k1 rs := by
  have hx : ∀ x ∈ rs, x.a < k.length ∧ x.b < k.length := fun x hx => by rw [h.len]; exact ⟨(hr x hx).1, (hr x hx).2.1⟩
  have hrb : ∀ x ∈ rs, RB x := fun x hx => (hr x hx).rb h.le
  have hl : k1.length = k.length := by have := (pad_round hx).2; rw [e] at this; exact this
  have hx1 : ∀ x ∈ rs, x.a < k1.length ∧ x.b < k1.length := fun x h => by rw [hl]; exact hx x h
  have hI : InB (pad k1) := by
    have := InB_roundE h.pad hrb
    rw [(pad_round hx).1, e] at this; exact this
  show narF (meas k + 1) k rs = nar k1 rs
  rw [narF, e]
  simp only
  rw [if_neg fun e' => by rw [e'] at hm; omega]
  have h1 := narF_stable hrb (meas k) hI (by rw [pad_meas]; exact hm)
  rw [(pad_narF (rs := rs) (meas k) hx1).1, (pad_nar hx1).1] at h1
  have a1 := congrArg Prod.fst h1
  have a2 := congrArg Prod.snd h1
  exact Prod.ext ((pad_inj (((pad_narF (rs := rs) (meas k) hx1).2).trans (pad_nar hx1).2.symm)).1 a1) a2
theorem nar_end (e : narRoundE k rs = (k, true)) : nar k rs = (k, true) := by
  show narF (meas k + 1) k rs = _
  rw [narF, e]
  exact if_pos rfl
theorem nar_fail {k1 : Kn} (e : narRoundE k rs = (k1, false)) : (nar k rs).2 = false := by
  show (narF (meas k + 1) k rs).2 = _
  rw [narF, e]
end
theorem KB.step {k k' : Kn} {m : Nat} {x : Rule} (h : KB k m) (hx : RBm m x) (e : narStep k x = some k') : KB k' m ∧ (k' = k ∨ meas k' < meas k) := by
  have ha : x.a < k.length := by rw [h.len]; exact hx.1
  have hb : x.b < k.length := by rw [h.len]; exact hx.2.1
  have hp := pad_step ha hb
  rw [e] at hp
  have hI := h.pad.step (hx.rb h.le) hp
  have hl := step_len e
  refine ⟨⟨hl.trans h.len, h.le, fun p hp => hI.2 p (List.mem_append_left _ hp)⟩, ?_⟩
  rcases narStep_meas h.pad (hx.rb h.le) hp with h1 | h1
  · exact .inl ((pad_inj hl).1 h1)
  · rw [pad_meas, pad_meas] at h1; exact .inr h1
end Go.Proofs
namespace Go.Proofs
open Go Go.Idl
set_option linter.unusedSimpArgs false
variable {b : Bool}
theorem ap92c {k : Kn} {o : Option Bool} {m : Mem} (hk : k ≠ []) (hl : k.length ≤ 1000) : isAppend Try.prog 92 92 (.lst 2 [] true) (SL 2 (k.map encS) o) m = some (.own m.nx k.length, { m with hp := upd m.hp m.nx (.arr 2 (k.map encS)), nx := m.nx + 1 }) := by
  obtain ⟨x, hx⟩ : ∃ x, SL 2 (k.map encS) o = .lst 2 (k.map encS) x := by
    cases o with
    | none => exact ⟨false, by cases k <;> first | exact absurd rfl hk | rfl⟩
    | some x => exact ⟨x, rfl⟩
  rw [hx]
  unfold isAppend appendV
  rw [td92]
  simp only [Mem.elems, if_true, Option.bind_some, List.length_map, List.length_nil]
  have hg : okGrow 16 2 (.agg [.int .i64 0, .int .i64 0]) (0 + k.length) = true := grow_ok rfl rfl (by decide) (by decide) (by omega)
  rw [hg]
  have he : ((k.map encS).isEmpty) = false := by cases k <;> simp_all
  simp [he]
section
variable {L : Kn} {lc : List (Nat × Vl)} {nx : Nat}
theorem ixS {k eb : Nat} {ez : Vl} {i : Int} (hn : L.length = k) (h0 : 0 ≤ i) (hi : i < k) : indexAddrV (.slice 2 eb ez) (.v (.own 0 k)) (.int .i64 i) { lc := lc, hp := upd noHeap 0 (.arr 2 (L.map encS)), nx := nx } = some (.v (.ep 0 k i.toNat 0), { lc := lc, hp := upd noHeap 0 (.arr 2 (L.map encS)), nx := nx }) :=
  indexAddr_own (xs := L.map encS) (upd_same noHeap 0 (.arr 2 (L.map encS))) (by rw [List.length_map]; exact hn) ⟨h0, hi⟩ (by decide)
theorem rdS {k j off sz : Nat} {ag : Bool} (hn : L.length = k) (hj : j < k) : Mem.read { lc := lc, hp := upd noHeap 0 (.arr 2 (L.map encS)), nx := nx } ag sz (.v (.ep 0 k j off)) = sub ag sz off (encS L[j]!) := by
  have hl : (L.map encS).length = k := by rw [List.length_map]; exact hn
  simp only [Mem.read, upd_same, hl, if_true]
  rw [List.getElem?_eq_getElem (by rw [hl]; exact hj), List.getElem_map, get!_eq (by omega)]
  rfl
theorem wrS {k j off : Nat} {v : Vl} (hn : L.length = k) (hj : j < k) : Mem.write { lc := lc, hp := upd noHeap 0 (.arr 2 (L.map encS)), nx := nx } v (.v (.ep 0 k j off)) = (put off v (encS L[j]!)).map fun c => { lc := lc, hp := upd noHeap 0 (.arr 2 ((L.map encS).set j c)), nx := nx } := by
  have hl : (L.map encS).length = k := by rw [List.length_map]; exact hn
  simp only [Mem.write, upd_same, hl, if_true, upd_upd]
  rw [List.getElem?_eq_getElem (by rw [hl]; exact hj), List.getElem_map, get!_eq (by omega)]
  rfl
theorem setS {j : Nat} {p q : Int} : (L.map encS).set j (.agg [.int .i64 p, .int .i64 q]) = (L.set j (p, q)).map encS := by rw [List.map_set]; rfl
end
theorem gsE {L : Kn} {i : Nat} {p : Int × Int} (h : i < L.length) : (L.set i p)[i]! = p := by rw [get!_eq (by rw [List.length_set]; exact h), List.getElem_set_self]
theorem gsN {L : Kn} {i j : Nat} {p : Int × Int} (h : i ≠ j) (hj : j < L.length) : (L.set i p)[j]! = L[j]! := by rw [get!_eq (by rw [List.length_set]; exact hj), List.getElem_set_ne h, get!_eq hj]
def tightV (k : Kn) (rs : List Rule) : Vl := if (nar k rs).2 = true then .tup [.lst 2 ((nar k rs).1.map encS) false, .bool true] else .tup [.nils, .bool false]
set_option maxRecDepth 10000 in
set_option maxHeartbeats 4000000 in
theorem tight_to {k : Kn} {rs : List Rule} {m : Nat} (hk : KB k m) (hm : 0 < m) (hrl : rs.length ≤ 1000000) (hr : ∀ x ∈ rs, RBm m x ∧ x.a ≠ x.b) {o1 o2 : Option Bool} : Ans Try.prog (AA b) 92 [SL 2 (k.map encS) o1, SL 3 (rs.map encR) o2] (fun v => v = tightV k rs) := by
  refine Ans_of Try.func92 rfl rfl ?_
  have hk0 : k ≠ [] := fun e => by have := hk.len; rw [e] at this; simp at this; omega
  have hm20 := hk.le
  have hap := fun m : Mem => ap92c (k := k) (o := o1) (m := m) hk0 (by rw [hk.len]; omega)
  rw [hk.len] at hap
  simp +contextual (maxSteps := 1000000) (disch := first | omega | (with_reducible first | refine krN ?_ | refine krS ?_ | refine krP ?_ | refine krG ?_); kernel_rfl | refine kr ?_; simp only [go_sem, reduceCtorEq, hap]; done | fail) only [go_sem, seval, -List.reduceReplicate, hap]
  refine wp_loop_I (fun (μ : Nat) st => ∃ (K : Kn) (more : Bool) (ex : List (Nat × Vl)), KB K m ∧ (more = true → nar K rs = nar k rs ∧ μ = meas K + 1) ∧ (more = false → nar k rs = (K, true) ∧ μ = 0) ∧ st = ({ sl := (1, SL 3 (rs.map encR) o2) :: (6, .own 0 m) :: (7, .bool more) :: ex, hp := upd noHeap 0 (.arr 2 (K.map encS)), nx := 1 } : FS)) (fun μ => μ) ?_ (meas k + 1) ⟨k, true, [], hk, fun _ => ⟨rfl, rfl⟩, (fun e => by cases e), rfl⟩
  rintro μ st ⟨K, more, ex, hK, hT, hF, rfl⟩
  cases more with
  | false =>
    obtain ⟨e, _⟩ := hF rfl
    have hv : tightV k rs = .tup [.lst 2 (K.map encS) false, .bool true] := by unfold tightV; rw [e]; rfl
    rw [hv]
    simp +contextual (maxSteps := 1000000) (disch := first | omega | (with_reducible first | refine krN ?_ | refine krS ?_ | refine krP ?_ | refine krG ?_); kernel_rfl | refine kr ?_; simp only [go_sem, reduceCtorEq]; done | fail) only [go_sem, seval, -List.reduceReplicate]
    exact OB_intro (reify_flat (.inl (upd_same _ _ _)) hK.len fun _ => rfl) rfl
  | true =>
    obtain ⟨e, hμ⟩ := hT rfl
    clear hT hF
    simp +contextual (maxSteps := 1000000) (disch := first | omega | (with_reducible first | refine krN ?_ | refine krS ?_ | refine krP ?_ | refine krG ?_); kernel_rfl | refine kr ?_; simp only [go_sem, reduceCtorEq]; done | fail) only [go_sem, seval, -List.reduceReplicate]
    refine wp_loop_to rs.length (fun i st => ∃ (L : Kn) (more : Bool) (ex : List (Nat × Vl)), KB L m ∧ narRoundE K rs = narRoundE L (rs.drop i) ∧ (more = false → L = K) ∧ (more = true → meas L < meas K) ∧ st = ({ sl := (1, SL 3 (rs.map encR) o2) :: (6, .own 0 m) :: (7, .bool more) :: (8, I i) :: ex, hp := upd noHeap 0 (.arr 2 (L.map encS)), nx := 1 } : FS)) ?_ 0 (Nat.zero_le _) ⟨K, false, [], hK, rfl, fun _ => rfl, (fun e => by cases e), rfl⟩
    rintro i st hi ⟨L, more, ex, hL, hrd, hm0, hm1, rfl⟩
    by_cases hc : i < rs.length
    · obtain ⟨⟨a1, a2, a3, a4⟩, hab⟩ := hr _ (get!_mem hc)
      have hdrop : rs.drop i = rs[i]! :: rs.drop (i + 1) := by rw [List.drop_eq_getElem_cons hc, get!_eq hc]
      have hst := fun L' => hL.step (k' := L') (hr _ (get!_mem hc)).1
      rw [hdrop] at hrd
      have hll := hL.len
      have haL : rs[i]!.a < L.length := by omega
      have hbL : rs[i]!.b < L.length := by omega
      have ka := hL.ok _ (get!_mem haL)
      have kb := hL.ok _ (get!_mem hbL)
      have hns : narStep L rs[i]! = if (L[rs[i]!.a]!).1 > min (L[rs[i]!.a]!).2 ((L[rs[i]!.b]!).2 - rs[i]!.n) ∨ max (L[rs[i]!.b]!).1 ((L[rs[i]!.a]!).1 + rs[i]!.n) > (L[rs[i]!.b]!).2 then none else some ((L.set rs[i]!.a ((L[rs[i]!.a]!).1, min (L[rs[i]!.a]!).2 ((L[rs[i]!.b]!).2 - rs[i]!.n))).set rs[i]!.b (max (L[rs[i]!.b]!).1 ((L[rs[i]!.a]!).1 + rs[i]!.n), (L[rs[i]!.b]!).2)) := by
        unfold narStep
        simp only [getD_get! haL, getD_get! hbL]
      have hbad : narStep L rs[i]! = none → Vl.tup [.nils, .bool false] = tightV k rs := fun hn => by
        have hf : narRoundE K rs = (L, false) := by rw [hrd, narRoundE, hn]
        unfold tightV
        rw [← e, nar_fail hf]; rfl
      have hgood : ∀ (L' : Kn) (more' : Bool), narStep L rs[i]! = some L' → (more' = false → more = false ∧ L' = L) → (more' = true → more = true ∨ L' ≠ L) → KB L' m ∧ narRoundE K rs = narRoundE L' (rs.drop (i + 1)) ∧ (more' = false → L' = K) ∧ (more' = true → meas L' < meas K) := fun L' more' hs h1 h2 => by
        obtain ⟨b1, b2⟩ := hst L' hs
        have hle : meas L ≤ meas K := by
          cases hmo : more with
          | false => rw [hm0 hmo]; exact Nat.le_refl _
          | true => exact Nat.le_of_lt (hm1 hmo)
        refine ⟨b1, by rw [hrd, narRoundE, hs], fun e' => by rw [(h1 e').2]; exact hm0 (h1 e').1, fun e' => ?_⟩
        rcases h2 e' with h | h
        · have := hm1 h
          rcases b2 with b2 | b2
          · rw [b2]; exact this
          · omega
        · rcases b2 with b2 | b2
          · exact absurd b2 h
          · omega
      have hset : ∀ (p q : Int × Int), (narStep L rs[i]! = some ((L.set rs[i]!.a p).set rs[i]!.b q)) → (p ≠ L[rs[i]!.a]! ∨ q ≠ L[rs[i]!.b]!) → KB ((L.set rs[i]!.a p).set rs[i]!.b q) m ∧ narRoundE K rs = narRoundE ((L.set rs[i]!.a p).set rs[i]!.b q) (rs.drop (i + 1)) ∧ meas ((L.set rs[i]!.a p).set rs[i]!.b q) < meas K := fun p q hs hne => by
        obtain ⟨g1, g2, g3, g4⟩ := hgood _ true hs (fun e' => by cases e') fun _ => .inr fun he => by
          rcases hne with hne | hne
          · apply hne
            have : ((L.set rs[i]!.a p).set rs[i]!.b q)[rs[i]!.a]! = L[rs[i]!.a]! := congrArg (fun l : Kn => l[rs[i]!.a]!) he
            rw [gsN (Ne.symm hab) (by rw [List.length_set]; exact haL), gsE haL] at this
            exact this
          · apply hne
            have : ((L.set rs[i]!.a p).set rs[i]!.b q)[rs[i]!.b]! = L[rs[i]!.b]! := congrArg (fun l : Kn => l[rs[i]!.b]!) he
            rw [gsE (by rw [List.length_set]; exact hbL)] at this
            exact this
        exact ⟨g1, g2, g4 rfl⟩
      have hne1 : ∀ (u v : Int) (p : Int × Int), (u ≠ p.1 ∨ v ≠ p.2) → (u, v) ≠ p := fun u v p h h' => by
        rw [← h'] at h; rcases h with h | h
        · exact h rfl
        · exact h rfl
      have hok := fun (hno : ¬ ((L[rs[i]!.a]!).1 > min (L[rs[i]!.a]!).2 ((L[rs[i]!.b]!).2 - rs[i]!.n) ∨ max (L[rs[i]!.b]!).1 ((L[rs[i]!.a]!).1 + rs[i]!.n) > (L[rs[i]!.b]!).2)) => hns.trans (if_neg hno)
      by_cases c1 : (L[rs[i]!.b]!).1 < (L[rs[i]!.a]!).1 + rs[i]!.n
      · by_cases c2 : (L[rs[i]!.b]!).2 - rs[i]!.n < (L[rs[i]!.a]!).2
        · simp +contextual (maxSteps := 1000000) (disch := first | omega | (with_reducible first | refine krN ?_ | refine krS ?_ | refine krP ?_ | refine krG ?_); kernel_rfl | refine kr ?_; simp only [go_sem, reduceCtorEq, Int.ofNat_lt, hc, ix_map, encR, ixS, rdS, wrS, setS, hll, a1, a2, encS, List.length_set, c1, c2, gsE, gsN, hab, Ne.symm hab]; done | fail) only [go_sem, seval, -List.reduceReplicate, Int.ofNat_lt, hc, ix_map, encR, ixS, rdS, wrS, setS, hll, a1, a2, encS, List.length_set, c1, c2, gsE, gsN, hab, Ne.symm hab]
          refine WI_of (fun h => hbad (by rw [hns, if_pos (by omega)])) (fun h => ?_)
          have hk' := hok (by omega)
          rw [show min (L[rs[i]!.a]!).2 ((L[rs[i]!.b]!).2 - rs[i]!.n) = (L[rs[i]!.b]!).2 - rs[i]!.n by omega, show max (L[rs[i]!.b]!).1 ((L[rs[i]!.a]!).1 + rs[i]!.n) = (L[rs[i]!.a]!).1 + rs[i]!.n by omega] at hk'
          obtain ⟨g1, g2, g4⟩ := hset _ _ hk' (.inl (hne1 _ _ _ (.inr (by omega))))
          exact ⟨_, true, _, g1, g2, (fun e => by cases e), fun _ => g4, by rw [List.set_comm _ _ hab]⟩
        · simp +contextual (maxSteps := 1000000) (disch := first | omega | (with_reducible first | refine krN ?_ | refine krS ?_ | refine krP ?_ | refine krG ?_); kernel_rfl | refine kr ?_; simp only [go_sem, reduceCtorEq, Int.ofNat_lt, hc, ix_map, encR, ixS, rdS, wrS, setS, hll, a1, a2, encS, List.length_set, c1, c2, gsE, gsN, hab, Ne.symm hab]; done | fail) only [go_sem, seval, -List.reduceReplicate, Int.ofNat_lt, hc, ix_map, encR, ixS, rdS, wrS, setS, hll, a1, a2, encS, List.length_set, c1, c2, gsE, gsN, hab, Ne.symm hab]
          refine WI_of (fun h => hbad (by rw [hns, if_pos (by omega)])) (fun h => ?_)
          have hk' := hok (by omega)
          rw [show min (L[rs[i]!.a]!).2 ((L[rs[i]!.b]!).2 - rs[i]!.n) = (L[rs[i]!.a]!).2 by omega, show max (L[rs[i]!.b]!).1 ((L[rs[i]!.a]!).1 + rs[i]!.n) = (L[rs[i]!.a]!).1 + rs[i]!.n by omega] at hk'
          obtain ⟨g1, g2, g4⟩ := hset _ _ hk' (.inr (hne1 _ _ _ (.inl (by omega))))
          have hs1 : L.set rs[i]!.a ((L[rs[i]!.a]!).1, (L[rs[i]!.a]!).2) = L := set_self haL (getD_get! haL)
          rw [hs1] at g1 g2 g4
          exact ⟨_, true, _, g1, g2, (fun e => by cases e), fun _ => g4, rfl⟩
      · by_cases c2 : (L[rs[i]!.b]!).2 - rs[i]!.n < (L[rs[i]!.a]!).2
        · simp +contextual (maxSteps := 1000000) (disch := first | omega | (with_reducible first | refine krN ?_ | refine krS ?_ | refine krP ?_ | refine krG ?_); kernel_rfl | refine kr ?_; simp only [go_sem, reduceCtorEq, Int.ofNat_lt, hc, ix_map, encR, ixS, rdS, wrS, setS, hll, a1, a2, encS, List.length_set, c1, c2, gsE, gsN, hab, Ne.symm hab]; done | fail) only [go_sem, seval, -List.reduceReplicate, Int.ofNat_lt, hc, ix_map, encR, ixS, rdS, wrS, setS, hll, a1, a2, encS, List.length_set, c1, c2, gsE, gsN, hab, Ne.symm hab]
          refine WI_of (fun h => hbad (by rw [hns, if_pos (by omega)])) (fun h => ?_)
          have hk' := hok (by omega)
          rw [show min (L[rs[i]!.a]!).2 ((L[rs[i]!.b]!).2 - rs[i]!.n) = (L[rs[i]!.b]!).2 - rs[i]!.n by omega, show max (L[rs[i]!.b]!).1 ((L[rs[i]!.a]!).1 + rs[i]!.n) = (L[rs[i]!.b]!).1 by omega] at hk'
          obtain ⟨g1, g2, g4⟩ := hset _ _ hk' (.inl (hne1 _ _ _ (.inr (by omega))))
          have hs1 : ∀ p, (L.set rs[i]!.a p).set rs[i]!.b ((L[rs[i]!.b]!).1, (L[rs[i]!.b]!).2) = L.set rs[i]!.a p := fun p => set_self (by rw [List.length_set]; exact hbL) (by rw [getD_get! (by rw [List.length_set]; exact hbL), gsN hab hbL])
          rw [hs1] at g1 g2 g4
          exact ⟨_, true, _, g1, g2, (fun e => by cases e), fun _ => g4, rfl⟩
        · simp +contextual (maxSteps := 1000000) (disch := first | omega | (with_reducible first | refine krN ?_ | refine krS ?_ | refine krP ?_ | refine krG ?_); kernel_rfl | refine kr ?_; simp only [go_sem, reduceCtorEq, Int.ofNat_lt, hc, ix_map, encR, ixS, rdS, wrS, setS, hll, a1, a2, encS, List.length_set, c1, c2]; done | fail) only [go_sem, seval, -List.reduceReplicate, Int.ofNat_lt, hc, ix_map, encR, ixS, rdS, wrS, setS, hll, a1, a2, encS, List.length_set, c1, c2]
          refine WI_of (fun h => hbad (by rw [hns, if_pos (by omega)])) (fun h => ?_)
          have hsame : narStep L rs[i]! = some L := by
            rw [hns, if_neg (by omega), show min (L[rs[i]!.a]!).2 ((L[rs[i]!.b]!).2 - rs[i]!.n) = (L[rs[i]!.a]!).2 by omega, show max (L[rs[i]!.b]!).1 ((L[rs[i]!.a]!).1 + rs[i]!.n) = (L[rs[i]!.b]!).1 by omega]
            rw [set_self haL (getD_get! haL), set_self hbL (getD_get! hbL)]
          obtain ⟨g1, g2, g3, g4⟩ := hgood L more hsame (fun e => ⟨e, rfl⟩) (fun e => .inl e)
          exact ⟨L, more, _, g1, g2, g3, g4, rfl⟩
    · obtain rfl : i = rs.length := by omega
      rw [List.drop_length] at hrd
      have hrd : narRoundE K rs = (L, true) := hrd
      simp +contextual (maxSteps := 1000000) (disch := first | omega | (with_reducible first | refine krN ?_ | refine krS ?_ | refine krP ?_ | refine krG ?_); kernel_rfl | refine kr ?_; simp only [go_sem, reduceCtorEq, Int.lt_irrefl]; done | fail) only [go_sem, seval, -List.reduceReplicate, Int.lt_irrefl]
      cases more with
      | false =>
        rw [hm0 rfl] at hrd ⊢
        exact ⟨0, ⟨K, false, _, hK, (fun e => by cases e), fun _ => ⟨by rw [← e, nar_end hrd], rfl⟩, rfl⟩, by omega⟩
      | true =>
        have hlt := hm1 rfl
        have hn := nar_again hK (fun x hx => (hr x hx).1) hrd hlt
        exact ⟨meas L + 1, ⟨L, true, _, hL, fun _ => ⟨by rw [← hn, e], rfl⟩, (fun e => by cases e), rfl⟩, by omega⟩
end Go.Proofs
