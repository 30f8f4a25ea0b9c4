/- What functions of the given program do in the ideal machine (G21, G22), and the plain laws of what they answer; the conditions stand in each theorem. -/
import Derived.Test.YtencmmlmeifffaaGg
import Derived.Test.YtencmmlmeifffaaGh
import Derived.Test.YtencmmlmeifffaaGi
set_option linter.all false
set_option linter.unusedSectionVars false
set_option linter.unusedSimpArgs false
set_option linter.unusedVariables false
namespace Go.Proofs
open Go Go.Idl
set_option linter.unusedSimpArgs false
variable {b : Bool}
def encS (p : Int × Int) : Vl := Sp p.1 p.2
theorem encS_cl (p : Int × Int) : (encS p).closed = true := rfl
theorem spans_enc {k : Kn} {l : List Nat} : spans k l = (l.map fun i => k.getD i (0, 0)).map encS := by unfold spans; rw [List.map_map]; rfl
def yearP (r : Roll) (p : Kn) (i : Nat) : Int × Int := if r.cs[i]!.kin = true then (0, 0) else p.getD (12 + i) (0, 0)
theorem years_enc {r : Roll} {p : Kn} {n : Nat} : (List.range n).map (yearAt r p) = ((List.range n).map (yearP r p)).map encS := by
  rw [List.map_map]
  refine List.map_congr_left fun i _ => ?_
  show yearAt r p i = encS (yearP r p i)
  unfold yearAt yearP
  split <;> rfl
section
variable {m : Mem} {K : Vl → Mem → Prop}
theorem withinS_to {a c x y : Int} (h : x ≤ a ∧ c ≤ y) : Ans Try.prog (AA b) 74 [.agg [I a, I c], .agg [I x, I y]] (fun v => v = .bool true) := by
  refine Ans_of Try.func74 rfl rfl ?_
  obtain ⟨h1, h2⟩ := h
  simp +contextual (maxSteps := 1000000) (disch := first | omega | (with_reducible first | refine krN ?_ | refine krS ?_ | refine krP ?_ | refine krG ?_); kernel_rfl | refine kr ?_; simp only [go_sem, reduceCtorEq, h1, h2]; done | fail) only [go_sem, ↓reduceIte, Nat.reduceEqDiff, Nat.reduceAdd, Nat.reduceMul, Nat.reduceLeDiff, Nat.reduceLT, Nat.reduceBEq, bne, reduceCtorEq, Int.reduceLE, Int.reduceToNat, Int.reduceLT, Int.reduceAdd, Int.reduceSub, Int.reduceNeg, Int.cast_ofNat_Int, h1, h2]
theorem wc74 {a c x y : Int} (h : x ≤ a ∧ c ≤ y) : WC Try.prog (AA b) (.fn (.func 74) [] []) [.v (.agg [I a, I c]), .v (.agg [I x, I y])] m K = K (.bool true) m :=
  WC_flat (by simp only [mkAnn, K74]) (rfAs (xs := [.agg [I a, I c], .agg [I x, I y]]) rfl) (withinS_to h) rfl
def insideP (A B : List (Int × Int)) : Prop := B.length ≤ A.length ∧ ∀ i, i < B.length → (B[i]!).1 ≤ (A[i]!).1 ∧ (A[i]!).2 ≤ (B[i]!).2
theorem inside_to {A B : List (Int × Int)} (hl : A.length ≤ 1000) (h : insideP A B) : Ans Try.prog (AA b) 43 [.lst 2 (A.map encS) false, .lst 2 (B.map encS) false] (fun v => v = .bool true) := by
  refine Ans_of Try.func43 rfl rfl ?_
  obtain ⟨h1, h2⟩ := h
  have hlt : ¬ ((A.length : Int) < (B.length : Int)) := by omega
  simp +contextual (maxSteps := 1000000) (disch := first | omega | (with_reducible first | refine krN ?_ | refine krS ?_ | refine krP ?_ | refine krG ?_); kernel_rfl | refine kr ?_; simp only [go_sem, reduceCtorEq, List.length_map, hlt]; done | fail) only [go_sem, ↓reduceIte, Nat.reduceEqDiff, Nat.reduceAdd, Nat.reduceMul, Nat.reduceLeDiff, Nat.reduceLT, Nat.reduceBEq, bne, reduceCtorEq, Int.reduceLE, Int.reduceToNat, Int.reduceLT, Int.reduceAdd, Int.reduceSub, Int.reduceNeg, Int.cast_ofNat_Int, List.length_map, hlt]
  refine wp_loop_to B.length (fun i st => ∃ (ex : List (Nat × Vl)), st = ({ sl := (0, .lst 2 (A.map encS) false) :: (1, .lst 2 (B.map encS) false) :: (5, I i) :: ex, hp := noHeap, nx := 0 } : FS)) ?_ 0 (Nat.zero_le _) ⟨_, rfl⟩
  rintro i st hi ⟨ex, rfl⟩
  by_cases hc : i < B.length
  · have hca : i < A.length := by omega
    have h3 := h2 i hc
    simp +contextual (maxSteps := 1000000) (disch := first | omega | (with_reducible first | refine krN ?_ | refine krS ?_ | refine krP ?_ | refine krG ?_); kernel_rfl | refine kr ?_; simp only [go_sem, reduceCtorEq, Int.ofNat_lt, hc, hca, ix_lst, List.length_map, encS, wc74, h3]; done | fail) only [go_sem, ↓reduceIte, Nat.reduceEqDiff, Nat.reduceAdd, Nat.reduceMul, Nat.reduceLeDiff, Nat.reduceLT, Nat.reduceBEq, bne, reduceCtorEq, Int.reduceLE, Int.reduceToNat, Int.reduceLT, Int.reduceAdd, Int.reduceSub, Int.reduceNeg, Int.cast_ofNat_Int, Int.ofNat_lt, hc, hca, ix_lst, List.length_map, encS, wc74, h3]
    exact ⟨_, rfl⟩
  · have hie : i = B.length := by omega
    subst hie
    simp +contextual (maxSteps := 1000000) (disch := first | omega | (with_reducible first | refine krN ?_ | refine krS ?_ | refine krP ?_ | refine krG ?_); kernel_rfl | refine kr ?_; simp only [go_sem, reduceCtorEq, Int.lt_irrefl, List.length_map]; done | fail) only [go_sem, ↓reduceIte, Nat.reduceEqDiff, Nat.reduceAdd, Nat.reduceMul, Nat.reduceLeDiff, Nat.reduceLT, Nat.reduceBEq, bne, reduceCtorEq, Int.reduceLE, Int.reduceToNat, Int.reduceLT, Int.reduceAdd, Int.reduceSub, Int.reduceNeg, Int.cast_ofNat_Int, Int.lt_irrefl, List.length_map]
theorem wc43 {A B : List (Int × Int)} (hl : A.length ≤ 1000) (h : insideP A B) : WC Try.prog (AA b) (.fn (.func 43) [] []) [.v (.lst 2 (A.map encS) false), .v (.lst 2 (B.map encS) false)] m K = K (.bool true) m :=
  WC_flat (by simp only [mkAnn, K43]) (rfAs (xs := [.lst 2 (A.map encS) false, .lst 2 (B.map encS) false]) (by show (closedL _ && (closedL _ && true)) = true; rw [closedL_map encS_cl, closedL_map encS_cl]; rfl)) (inside_to hl h) rfl
theorem bin_neSq (x y z w : Int) (h : x = z ∧ y = w) : binOpV { ok := true, agg := true, size := 2, zero := Vl.agg [I 0, I 0], flat := some [CK.i, CK.i], k := TK.struct [(0, false, 1), (1, false, 1)] } .eql (Vl.agg [.int .i64 x, .int .i64 y]) (Vl.agg [.int .i64 z, .int .i64 w]) = some (.bool true) := by
  obtain ⟨rfl, rfl⟩ := h
  simp [binOpV, eqCells, eqCell]
theorem sameSpans_to {A : List (Int × Int)} (hl : A.length ≤ 1000) {o1 o2 : Option Bool} : Ans Try.prog (AA b) 26 [SL 2 (A.map encS) o1, SL 2 (A.map encS) o2] (fun v => v = .bool true) := by
  refine Ans_of Try.func26 rfl rfl ?_
  simp +contextual (maxSteps := 1000000) (disch := first | omega | (with_reducible first | refine krN ?_ | refine krS ?_ | refine krP ?_ | refine krG ?_); kernel_rfl | refine kr ?_; simp only [go_sem, reduceCtorEq, List.length_map]; done | fail) only [go_sem, ↓reduceIte, Nat.reduceEqDiff, Nat.reduceAdd, Nat.reduceMul, Nat.reduceLeDiff, Nat.reduceLT, Nat.reduceBEq, bne, reduceCtorEq, Int.reduceLE, Int.reduceToNat, Int.reduceLT, Int.reduceAdd, Int.reduceSub, Int.reduceNeg, Int.cast_ofNat_Int, List.length_map]
  refine wp_loop_to A.length (fun i st => ∃ (ex : List (Nat × Vl)), st = ({ sl := (0, SL 2 (A.map encS) o1) :: (1, SL 2 (A.map encS) o2) :: (5, .bool true) :: (6, I i) :: ex, hp := noHeap, nx := 0 } : FS)) ?_ 0 (Nat.zero_le _) ⟨_, rfl⟩
  rintro i st hi ⟨ex, rfl⟩
  by_cases hc : i < A.length
  · simp +contextual (maxSteps := 1000000) (disch := first | omega | (with_reducible first | refine krN ?_ | refine krS ?_ | refine krP ?_ | refine krG ?_); kernel_rfl | refine kr ?_; simp only [go_sem, reduceCtorEq, Int.ofNat_lt, hc, ix_map, List.length_map, encS, bin_neSq, and_self]; done | fail) only [go_sem, ↓reduceIte, Nat.reduceEqDiff, Nat.reduceAdd, Nat.reduceMul, Nat.reduceLeDiff, Nat.reduceLT, Nat.reduceBEq, bne, reduceCtorEq, Int.reduceLE, Int.reduceToNat, Int.reduceLT, Int.reduceAdd, Int.reduceSub, Int.reduceNeg, Int.cast_ofNat_Int, Int.ofNat_lt, hc, ix_map, List.length_map, encS, bin_neSq, and_self]
    exact ⟨_, rfl⟩
  · have hie : i = A.length := by omega
    subst hie
    simp +contextual (maxSteps := 1000000) (disch := first | omega | (with_reducible first | refine krN ?_ | refine krS ?_ | refine krP ?_ | refine krG ?_); kernel_rfl | refine kr ?_; simp only [go_sem, reduceCtorEq, Int.lt_irrefl, List.length_map]; done | fail) only [go_sem, ↓reduceIte, Nat.reduceEqDiff, Nat.reduceAdd, Nat.reduceMul, Nat.reduceLeDiff, Nat.reduceLT, Nat.reduceBEq, bne, reduceCtorEq, Int.reduceLE, Int.reduceToNat, Int.reduceLT, Int.reduceAdd, Int.reduceSub, Int.reduceNeg, Int.cast_ofNat_Int, Int.lt_irrefl, List.length_map]
theorem wc26 {A : List (Int × Int)} (hl : A.length ≤ 1000) {o1 o2 : Option Bool} : WC Try.prog (AA b) (.fn (.func 26) [] []) [.v (SL 2 (A.map encS) o1), .v (SL 2 (A.map encS) o2)] m K = K (.bool true) m :=
  WC_flat (by simp only [mkAnn, K26]) (rfAs (xs := [SL 2 (A.map encS) o1, SL 2 (A.map encS) o2]) (by show ((SL 2 (A.map encS) o1).closed && ((SL 2 (A.map encS) o2).closed && true)) = true; rw [closed_SL (closedL_map encS_cl A), closed_SL (closedL_map encS_cl A)]; rfl)) (sameSpans_to hl) rfl
theorem spanU_to {u nx : Nat} {hp : Nat → Ob} {lo hi : Int} (h : UrnOk u hp) (h1 : -100000 ≤ lo) (h2 : lo ≤ hi) (h3 : hi ≤ 100000) : HAns Try.prog (AA b) 42 [.bp u 0, I lo, I hi] hp nx fun v h' n' => ∃ x y p q, v = .agg [I p, I q] ∧ lo ≤ p ∧ p ≤ q ∧ q ≤ hi ∧ h' = upd hp u (.box (.agg [U x, U y])) ∧ n' = nx := by
  refine HAns_of Try.func42 rfl ?_
  have b1 := fromR_b (urnAt u hp) (lo := lo) (hi := hi) (by omega) (by omega) (by omega) (by omega)
  generalize hp1 : fromR (urnAt u hp) lo hi = p at b1
  simp +contextual (maxSteps := 1000000) (disch := first | omega | (with_reducible first | refine krN ?_ | refine krS ?_ | refine krP ?_ | refine krG ?_); kernel_rfl | refine kr ?_; simp only [go_sem, reduceCtorEq, h, hp1]; done | fail) only [go_sem, ↓reduceIte, Nat.reduceEqDiff, Nat.reduceAdd, Nat.reduceMul, Nat.reduceLeDiff, Nat.reduceLT, Nat.reduceBEq, bne, reduceCtorEq, Int.reduceLE, Int.reduceToNat, Int.reduceLT, Int.reduceAdd, Int.reduceSub, Int.reduceNeg, Int.cast_ofNat_Int, h, hp1]
  generalize fromS (urnAt u hp) lo hi = s1
  have b2 := upR_b s1 (n := 3) (by omega)
  have b3 := upR_b (upS s1 3) (n := 6) (by omega)
  have b4 := fromR_b (upS (upS s1 3) 6) (lo := p) (hi := hi) (by omega) (by omega) (by omega) (by omega)
  rw [wrap_i64 (by omega) (by omega), wrap_i64 (by omega) (by omega)]
  have b5 := anyR_mem (fromS (upS (upS s1 3) 6) p hi) (l := [p, min hi (p + upR s1 3), min hi (p + upR (upS s1 3) 6), fromR (upS (upS s1 3) 6) p hi]) (by simp) (by simp)
  simp only [List.mem_cons, List.not_mem_nil, or_false] at b5
  exact ⟨_, _, _, _, rfl, b1.1, by omega, by omega, rfl⟩
end
end Go.Proofs
namespace Go.Proofs
open Go Go.Idl
set_option linter.unusedSimpArgs false
variable {b : Bool}
structure SubRoll (S R : Roll) : Prop where
  os : S.os = R.os
  life : S.life = R.life
  plo : S.plo = R.plo
  phi : S.phi = R.phi
  fs : S.fs = R.fs
  ml : S.ms.length = R.ms.length
  ms : ∀ i, i < R.ms.length → R.ms[i]!.blo ≤ S.ms[i]!.blo ∧ S.ms[i]!.bhi ≤ R.ms[i]!.bhi ∧ R.ms[i]!.dlo ≤ S.ms[i]!.dlo ∧ S.ms[i]!.dhi ≤ R.ms[i]!.dhi
  cl : R.cs.length ≤ S.cs.length
  cs : ∀ i, i < R.cs.length → S.cs[i]!.kin = R.cs[i]!.kin ∧ S.cs[i]!.man = R.cs[i]!.man ∧ S.cs[i]!.office = R.cs[i]!.office ∧ S.cs[i]!.town = R.cs[i]!.town ∧ S.cs[i]!.child = R.cs[i]!.child ∧ R.cs[i]!.lo ≤ S.cs[i]!.lo ∧ S.cs[i]!.hi ≤ R.cs[i]!.hi
def cutT (q : Nat) (t : Nat → Int) : Nat → Int := fun i => if 12 + q ≤ i then 0 else t i
theorem FitP.like {os : List Office} {fs : List (List Bool)} {a a' c c' : Rec} {y z : Int} (h : FitP os fs a y c z) (h1 : a.office = a'.office) (h2 : a.town = a'.town) (h3 : c.office = c'.office) (h4 : c.town = c'.town) : FitP os fs a' y c' z := by
  unfold FitP at *
  rw [h1, h2, h3, h4] at h
  exact h
theorem SubRoll.lived {S R : Roll} (h : SubRoll S R) (hR : Val R) {t : Nat → Int} (ht : Lived S t) : Lived R (cutT R.cs.length t) := by
  have hm6 := hR.ms_l
  have e1 : ∀ i, i < 12 + R.cs.length → cutT R.cs.length t i = t i := fun i hi => if_neg (by omega)
  have hml := h.ml
  have hcl := h.cl
  have hman : ∀ i, i < R.cs.length → (R.cs[i]!.man).toNat < R.ms.length := fun i hi => by
    obtain ⟨a1, a2, _⟩ := hR.cs_ok _ (get!_mem hi); omega
  refine ⟨fun i hi => ?_, fun i hi => ?_, fun i hi => ?_, fun i hi => ?_, fun i hi hk => ?_, fun i hi hk => ?_, fun i k hik hk k1 k2 hm => ?_, fun i hi hu => ?_⟩
  · rw [e1 i (by omega)]
    have := ht.born i (by omega)
    have := h.ms i hi
    omega
  · rw [e1 _ (by omega)]
    have := ht.died i (by omega)
    have := h.ms i hi
    omega
  · rw [e1 _ (by omega), e1 _ (by omega), ← h.life]
    exact ht.life i (by omega)
  · rw [e1 _ (by omega)]
    have := ht.year i (by omega)
    have := h.cs i hi
    omega
  · obtain ⟨c1, c2, c3, c4, c5, c6, c7⟩ := h.cs i hi
    have := ht.kin i (by omega) (by rw [c1]; exact hk)
    rw [c2, c5, h.plo, h.phi] at this
    have hmi := hman i hi
    obtain ⟨b1, b2, _⟩ := (hR.cs_ok _ (get!_mem hi)).2.2.1 hk
    rw [e1 _ (by omega), e1 _ (by omega), e1 _ (by omega)]
    exact this
  · obtain ⟨c1, c2, c3, c4, c5, c6, c7⟩ := h.cs i hi
    have := ht.held i (by omega) (by rw [c1]; exact hk)
    have ha : ageOf S.os S.cs[i]! = ageOf R.os R.cs[i]! := by unfold ageOf; rw [c3, h.os]
    rw [c2, ha] at this
    have hmi := hman i hi
    rw [e1 _ (by omega), e1 _ (by omega), e1 _ (by omega)]
    exact this
  · have hi : i < R.cs.length := by omega
    obtain ⟨c1, c2, c3, c4, c5, c6, c7⟩ := h.cs i hi
    obtain ⟨d1, d2, d3, d4, d5, d6, d7⟩ := h.cs k hk
    have := ht.fit i k hik (by omega) (by rw [c1]; exact k1) (by rw [d1]; exact k2) (by rw [c2, d2]; exact hm)
    rw [e1 _ (by omega), e1 _ (by omega)]
    rw [h.os, h.fs] at this
    exact this.like c3 c4 d3 d4
  · by_cases hq : 12 + R.cs.length ≤ i
    · exact if_pos hq
    · rw [e1 i (by omega)]
      refine ht.zero i hi fun e => hu ?_
      unfold Used at *
      omega
theorem SubRoll.inside {S R : Roll} (h : SubRoll S R) (hR : Val R) (hS : Val S) (e : (solveF false S).2 = true) {i : Nat} (hi : i < 12 + R.cs.length) :
    ((solveF false R).1.getD i (0, 0)).1 ≤ ((solveF false S).1.getD i (0, 0)).1 ∧ ((solveF false S).1.getD i (0, 0)).2 ≤ ((solveF false R).1.getD i (0, 0)).2 := by
  have hc := hR.cs_l
  have := hull_sub hR hS (i := i) (j := i) (d := 0) (by omega) (by omega) (fun t ht => ⟨_, h.lived hR ht, by unfold cutT; rw [if_neg (by omega)]; omega⟩) e
  omega
theorem inside_spans {p p' : Kn} {l : List Nat} (h : ∀ i ∈ l, (p.getD i (0, 0)).1 ≤ (p'.getD i (0, 0)).1 ∧ (p'.getD i (0, 0)).2 ≤ (p.getD i (0, 0)).2) : insideP (l.map fun i => p'.getD i (0, 0)) (l.map fun i => p.getD i (0, 0)) := by
  refine ⟨by rw [List.length_map, List.length_map]; exact Nat.le_refl _, fun i hi => ?_⟩
  rw [List.length_map] at hi
  rw [map_get! hi, map_get! hi]
  exact h _ (get!_mem hi)
theorem SubRoll.years {S R : Roll} (h : SubRoll S R) {p p' : Kn} (hp : ∀ i, i < 12 + R.cs.length → (p.getD i (0, 0)).1 ≤ (p'.getD i (0, 0)).1 ∧ (p'.getD i (0, 0)).2 ≤ (p.getD i (0, 0)).2) : insideP ((List.range S.cs.length).map (yearP S p')) ((List.range R.cs.length).map (yearP R p)) := by
  have hcl := h.cl
  refine ⟨by simp only [List.length_map, List.length_range]; exact h.cl, fun i hi => ?_⟩
  simp only [List.length_map, List.length_range] at hi
  rw [map_get! (by rw [List.length_range]; exact hi), map_get! (by rw [List.length_range]; omega), range_get! hi, range_get! (by omega)]
  unfold yearP
  rw [(h.cs i hi).1]
  split
  · exact ⟨Int.le_refl _, Int.le_refl _⟩
  · exact hp _ (by omega)
end Go.Proofs
