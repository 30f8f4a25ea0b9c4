/- What functions of the given program do in the ideal machine (J38), and the plain laws of what they answer; the conditions stand in each theorem. -/
import Derived.Test.YtoamjmokonnglaaJo
import Derived.Test.YtoamjmokonnglaaJp
set_option linter.all false
set_option linter.unusedSectionVars false
set_option linter.unusedSimpArgs false
set_option linter.unusedVariables false
namespace Go.Proofs
open Go Go.Idl Go.Dt
set_option linter.unusedSimpArgs false
variable {b : Nat}
def HPl (s : Int × Int) (es : List (Int × Int)) (ns : List Nt) (g : Nat → Ob) : Nat → Ob := fun i =>
  if i = 0 then urnO s else if i = 1 then .arr 2 (es.map encS) else if i = 2 then .arr 6 (ns.map encN) else g i
section
variable {s : Int × Int} {es : List (Int × Int)} {ns : List Nt} {g : Nat → Ob}
theorem UrnOk_HPl : UrnOk 0 (HPl s es ns g) := rfl
theorem urnAt_HPl : urnAt 0 (HPl s es ns g) = s := rfl
theorem HPl_s {x y : Int} : upd (HPl s es ns g) 0 (.box (.agg [.int .u64 x, .int .u64 y])) = HPl (x, y) es ns g := by
  funext i; by_cases h : i = 0 <;> simp [upd, HPl, h, urnO]
theorem HPl_es {l : List (Int × Int)} : upd (HPl s es ns g) 1 (.arr 2 (l.map encS)) = HPl s l ns g := by
  funext i; by_cases h : i = 1 <;> simp [upd, HPl, h]
theorem HPl_ns {l : List Nt} : upd (HPl s es ns g) 2 (.arr 6 (l.map encN)) = HPl s es l g := by
  funext i; by_cases h : i = 2 <;> simp [upd, HPl, h]
theorem HPl_g {i : Nat} {o : Ob} (h : 3 ≤ i) : upd (HPl s es ns g) i o = HPl s es ns (upd g i o) := by
  funext j
  by_cases e : j = i
  · subst e
    rw [upd_same]
    unfold HPl
    rw [if_neg (by omega), if_neg (by omega), if_neg (by omega), upd_same]
  · rw [upd_ne _ _ e]
    unfold HPl
    rw [upd_ne _ _ e]
theorem HPl_at {i : Nat} (h : 3 ≤ i) : HPl s es ns g i = g i := by
  unfold HPl
  rw [if_neg (by omega), if_neg (by omega), if_neg (by omega)]
theorem HPl_new : upd (upd (upd noHeap 0 (.box (.agg [.int .u64 s.1, .int .u64 s.2]))) 1 (.arr 2 [])) 2 (.arr 6 []) = HPl s [] [] noHeap := by
  funext i
  unfold upd HPl
  by_cases h0 : i = 0
  · subst h0; rfl
  by_cases h1 : i = 1
  · subst h1; rfl
  by_cases h2 : i = 2
  · subst h2; rfl
  rw [if_neg h2, if_neg h1, if_neg h0, if_neg h0, if_neg h1, if_neg h2]
end
theorem apl1 {lc : List (Nat × Vl)} {nx n : Nat} {v : Vl} {t : Bool} {s : Int × Int} {es : List (Int × Int)} {ns : List Nt} {g : Nat → Ob} (hn : es.length = n) (hs : n < 100000) : isAppend Try.prog 22 22 (.own 1 n) (.lst 2 [v] t) { lc := lc, hp := HPl s es ns g, nx := nx } = some (.own 1 (n + 1), { lc := lc, hp := upd (HPl s es ns g) 1 (.arr 2 (es.map encS ++ [v])), nx := nx }) :=
  app1_own (by rw [td22]) rfl (by rw [List.length_map]; exact hn) (grow_ok rfl rfl (by decide) (by decide) (by omega))
theorem apl2 {lc : List (Nat × Vl)} {nx n : Nat} {v : Vl} {t : Bool} {s : Int × Int} {es : List (Int × Int)} {ns : List Nt} {g : Nat → Ob} (hn : ns.length = n) (hs : n < 100000) : isAppend Try.prog 23 23 (.own 2 n) (.lst 6 [v] t) { lc := lc, hp := HPl s es ns g, nx := nx } = some (.own 2 (n + 1), { lc := lc, hp := upd (HPl s es ns g) 2 (.arr 6 (ns.map encN ++ [v])), nx := nx }) :=
  app1_own (by rw [td23]) rfl (by rw [List.length_map]; exact hn) (grow_ok rfl rfl (by decide) (by decide) (by omega))
attribute [go_sem] UrnOk_HPl urnAt_HPl HPl_s HPl_es HPl_ns HPl_new apl1 apl2
theorem put_span {n : Nt} {lo hi : Int} : put 4 (.agg [.int .i64 lo, .int .i64 hi]) (encN n) = some (encN { n with lo := lo, hi := hi }) := by
  rcases SL_cases 1 (n.ys.map I) n.fl with ⟨_, e⟩ | ⟨x, e⟩ <;> simp only [encN, e] <;> rfl
structure LNt (j : Nat) (n : Nt) : Prop where
  kind : n.kind = 2
  stone : n.stone = j
  other : n.other = 0
  ys : n.ys = []
  lo : 0 ≤ n.lo ∧ n.lo ≤ n.hi ∧ n.hi ≤ 7
structure Lit (st : Int) (es : List (Int × Int)) (ns : List Nt) : Prop where
  st_b : 1 ≤ st ∧ st ≤ 3
  es_l : es.length ≤ 1
  es_ok : ∀ s ∈ es, -2 ≤ s.1 ∧ s.1 ≤ s.2 ∧ s.2 ≤ 2
  ns_l : (ns.length : Int) ≤ st + 3
  ns_ok : ∀ n ∈ ns, NtOk ⟨st, es, []⟩ n
  ns_in : ∀ j : Nat, (j : Int) < st → ∃ n ∈ ns, LNt j n
theorem LNt.ok {j : Nat} {n : Nt} (h : LNt j n) {st : Int} {es : List (Int × Int)} (hj : (j : Int) < st) : NtOk ⟨st, es, []⟩ n where
  kind := by rw [h.kind]; decide
  stone := by rw [h.stone]; dsimp only; omega
  years e := by rw [h.kind] at e; exact absurd e (by decide)
  span _ := ⟨h.ys, by have := h.lo; unfold SpanOk; omega⟩
  plain _ := h.other
  era e := by rw [h.kind] at e; exact absurd e (by decide)
  after e := by rw [h.kind] at e; exact absurd e (by decide)
theorem ok_1 {st : Int} {es : List (Int × Int)} {a : Int} {xs : List Int} {o : Option Bool} (h0 : 0 ≤ a ∧ a < st) (h1 : 1 ≤ xs.length ∧ xs.length ≤ 3) (h2 : ∀ y ∈ xs, -2000 ≤ y ∧ y ≤ 2000) (h3 : ∀ i, 0 < i → i < xs.length → xs[i - 1]! < xs[i]!) : NtOk ⟨st, es, []⟩ ⟨1, a, 0, 0, 0, xs, o⟩ := { kind := ⟨(by decide : (1 : Int) ≤ 1), (by decide : (1 : Int) ≤ 4)⟩, stone := h0, years := fun _ => ⟨rfl, rfl, rfl, h1.1, h1.2, fun y hy => by have := h2 y hy; omega, h3⟩, span := fun h => absurd rfl h, plain := fun h => absurd h (by decide : (1 : Int) ≠ 2), era := fun h => absurd h (by decide : (1 : Int) ≠ 3), after := fun h => absurd h (by decide : (1 : Int) ≠ 4) }
theorem ok_3 {st : Int} {es : List (Int × Int)} {a lo hi : Int} (h0 : 0 ≤ a ∧ a < st) (ho : 0 < es.length) (h1 : SpanOk lo hi) (hl : 1 ≤ lo) : NtOk ⟨st, es, []⟩ ⟨3, a, 0, lo, hi, [], none⟩ := { kind := ⟨(by decide : (1 : Int) ≤ 3), (by decide : (3 : Int) ≤ 4)⟩, stone := h0, years := fun h => absurd h (by decide : (3 : Int) ≠ 1), span := fun _ => ⟨rfl, h1⟩, plain := fun h => absurd h (by decide : (3 : Int) ≠ 2), era := fun _ => ⟨Int.le_refl 0, by dsimp only; omega, hl⟩, after := fun h => absurd h (by decide : (3 : Int) ≠ 4) }
theorem ok_4 {st : Int} {es : List (Int × Int)} {a o lo hi : Int} (h0 : 0 ≤ a ∧ a < st) (ho : 0 ≤ o ∧ o < st ∧ o ≠ a) (h1 : SpanOk lo hi) : NtOk ⟨st, es, []⟩ ⟨4, a, o, lo, hi, [], none⟩ := { kind := ⟨(by decide : (1 : Int) ≤ 4), (by decide : (4 : Int) ≤ 4)⟩, stone := h0, years := fun h => absurd h (by decide : (4 : Int) ≠ 1), span := fun _ => ⟨rfl, h1⟩, plain := fun h => absurd h (by decide : (4 : Int) ≠ 2), era := fun h => absurd h (by decide : (4 : Int) ≠ 3), after := fun _ => ho }
set_option maxRecDepth 10000 in
set_option maxHeartbeats 4000000 in
theorem little_to {s : Int × Int} : HAns Try.prog (AA b) 46 [.bp 0 0] (upd noHeap 0 (urnO s)) 1 (fun v hp' nx' => ∃ s st es ns g, Lit st es ns ∧ v = vD st es.length ns.length ∧ hp' = HPl s es ns g ∧ 3 ≤ nx') := by
  refine HAns_of Try.func46 rfl ?_
  have l1 := fromR_b s (lo := 1) (hi := 3) (by omega) (by omega) (by omega) (by omega)
  generalize hst : fromR s 1 3 = st at l1
  generalize hs1 : fromS s 1 3 = s1
  have l2 := upR_b s1 (n := 2) (by omega)
  generalize hi0 : upR s1 2 = i0 at l2
  generalize hs2 : upS s1 2 = s2
  obtain ⟨i0, rfl⟩ := Int.eq_ofNat_of_zero_le l2.1
  simp +contextual (maxSteps := 1000000) (disch := first | omega | (with_reducible first | refine krN ?_ | refine krS ?_ | refine krP ?_ | refine krG ?_); kernel_rfl | refine kr ?_; simp only [go_sem, reduceCtorEq, hst, hs1, hi0, hs2, upd_upd]; done | fail) only [go_sem, seval, -List.reduceReplicate, hst, hs1, hi0, hs2, upd_upd]
  refine wp_loop_I (fun (i : Nat) st' => ∃ (s : Int × Int) (es : List (Int × Int)) (n : Nat) (ex : List (Nat × Vl)), es.length = n ∧ n + i ≤ 1 ∧ (∀ s ∈ es, -2 ≤ s.1 ∧ s.1 ≤ s.2 ∧ s.2 ≤ 2) ∧
    st' = ({ sl := (0, .bp 0 0) :: (2, .loc (.agg [I 0, .nils, .nils])) :: (3, .loc (vD st n 0)) :: (4, I i) :: ex, hp := HPl s es [] noHeap, nx := 3 } : FS)) (fun i => i) ?_ i0
    ⟨s2, [], 0, _, rfl, by omega, by simp, rfl⟩
  clear hs2 s2 hs1 hi0 l2 i0 hst
  rintro j st' ⟨s, es, n, ex, e1, e2, e3, rfl⟩
  have a1 := sp_b s (lo := -2) (hi := 2) (by omega) (by omega) (by omega)
  simp +contextual (maxSteps := 1000000) (disch := first | omega | (with_reducible first | refine krN ?_ | refine krS ?_ | refine krP ?_ | refine krG ?_); kernel_rfl | refine kr ?_; simp only [go_sem, reduceCtorEq, e1, wc85]; done | fail) only [go_sem, seval, -List.reduceReplicate, e1, wc85]
  refine WI_of (fun hc => ?_) (fun hc => ?_)
  · refine ⟨j - 1, ⟨_, es ++ [(spL s (-2) 2, spH s (-2) 2)], n + 1, _, ?_, ?_, ?_, rfl⟩, by omega⟩
    · simp [e1]
    · omega
    · intro f h
      rcases List.mem_append.1 h with h | h
      · exact e3 f h
      · rw [List.mem_singleton.1 h]; dsimp only; omega
  have hj0 : j = 0 := by omega
  subst hj0
  clear a1 hc ex
  obtain ⟨S, rfl⟩ := Int.eq_ofNat_of_zero_le (show 0 ≤ st by omega)
  refine wp_loop_to S (fun i st' => ∃ (s : Int × Int) (ns : List Nt) (ex : List (Nat × Vl)), ns.length = i ∧ (∀ j, j < i → LNt j ns[j]!) ∧
    st' = ({ sl := (0, .bp 0 0) :: (2, .loc (.agg [I 0, .nils, .nils])) :: (3, .loc (vD S n i)) :: (5, I i) :: ex, hp := HPl s es ns noHeap, nx := 3 } : FS)) ?_ 0 (Nat.zero_le _) ⟨s, [], _, rfl, fun j h => absurd h (Nat.not_lt_zero _), rfl⟩
  clear s
  rintro i st' hi ⟨s, ns, ex, m1, m2, rfl⟩
  by_cases hc : i < S
  · have a1 := sp_b s (lo := 0) (hi := 7) (by omega) (by omega) (by omega)
    generalize hL : spL s 0 7 = lo at a1
    generalize hH : spH s 0 7 = hi at a1
    generalize hE : spE s 0 7 = s1
    have hnew : ∀ lo hi : Int, 0 ≤ lo → lo ≤ hi → hi ≤ 7 → (ns ++ [(⟨2, i, 0, lo, hi, [], none⟩ : Nt)]).length = i + 1 ∧ ∀ j, j < i + 1 → LNt j (ns ++ [(⟨2, i, 0, lo, hi, [], none⟩ : Nt)])[j]! := fun lo hi h1 h2 h3 => by
      refine ⟨by rw [List.length_append, m1]; rfl, fun j hj => ?_⟩
      by_cases h : j < i
      · rw [get!_snoc_lt (by omega)]; exact m2 j h
      · obtain rfl : j = i := by omega
        rw [get!_snoc_eq m1]
        exact ⟨rfl, rfl, rfl, rfl, h1, h2, h3⟩
    generalize hod : oddsR s1 2 3 = od
    cases od with
    | false =>
      obtain ⟨g1, g2⟩ := hnew lo hi (by omega) (by omega) (by omega)
      simp +contextual (maxSteps := 1000000) (disch := first | omega | (with_reducible first | refine krN ?_ | refine krS ?_ | refine krP ?_ | refine krG ?_); kernel_rfl | refine kr ?_; simp only [go_sem, reduceCtorEq, Int.ofNat_lt, hc, wc85, hL, hH, hE, m1, hod]; done | fail) only [go_sem, seval, -List.reduceReplicate, Int.ofNat_lt, hc, wc85, hL, hH, hE, m1, hod]
      exact ⟨_, _, _, g1, g2, rfl⟩
    | true =>
      obtain ⟨g1, g2⟩ := hnew 0 7 (by omega) (by omega) (by omega)
      have hl1 : (ns ++ [(⟨2, i, 0, lo, hi, [], none⟩ : Nt)]).length = i + 1 := by rw [List.length_append, m1]; rfl
      have x1 := fun (s : Int × Int) (n' : Nat) (lc : List (Nat × Vl)) (eb : Nat) (ez : Vl) => ixM (f := encN) (xs := ns ++ [(⟨2, i, 0, lo, hi, [], none⟩ : Nt)]) (e := 6) (id := 2) (lc := lc) (n' := n') (eb := eb) (ez := ez) (kd := .i64) (i := (i : Int)) (hp := HPl s es (ns ++ [(⟨2, i, 0, lo, hi, [], none⟩ : Nt)]) noHeap) rfl hl1 (by omega) (by omega) (by decide)
      have x3 := fun (s : Int × Int) (n' : Nat) (lc : List (Nat × Vl)) => wrM (f := encN) (xs := ns ++ [(⟨2, i, 0, lo, hi, [], none⟩ : Nt)]) (e := 6) (id := 2) (lc := lc) (n' := n') (off := 4) (v := Sp 0 7) (j := i) (hp := HPl s es (ns ++ [(⟨2, i, 0, lo, hi, [], none⟩ : Nt)]) noHeap) rfl hl1 (by omega) put_span
      simp +contextual (maxSteps := 1000000) (disch := first | omega | (with_reducible first | refine krN ?_ | refine krS ?_ | refine krP ?_ | refine krG ?_); kernel_rfl | refine kr ?_; simp only [go_sem, reduceCtorEq, Int.ofNat_lt, hc, wc85, hL, hH, hE, m1, hod, wc28, x1, x3]; done | fail) only [go_sem, seval, -List.reduceReplicate, Int.ofNat_lt, hc, wc85, hL, hH, hE, m1, hod, wc28, x1, x3]
      refine ⟨_, _, _, ?_, fun j hj => ?_, rfl⟩
      · rw [List.length_set]; exact hl1
      · rw [get!_set (by omega)]
        split
        · rename_i e; subst e
          rw [get!_snoc_eq m1]
          exact ⟨rfl, rfl, rfl, rfl, by dsimp only; decide⟩
        · have := g2 j hj
          rw [get!_snoc_lt (by omega)] at this ⊢
          exact this
  have hie : i = S := by omega
  subst hie
  have a1 := upR_b s (n := 4) (by omega)
  simp +contextual (maxSteps := 1000000) (disch := first | omega | (with_reducible first | refine krN ?_ | refine krS ?_ | refine krP ?_ | refine krG ?_); kernel_rfl | refine kr ?_; simp only [go_sem, reduceCtorEq, Int.lt_irrefl]; done | fail) only [go_sem, seval, -List.reduceReplicate, Int.lt_irrefl]
  generalize upR s 4 = n0 at a1 ⊢
  generalize upS s 4 = s1
  clear s ex
  obtain ⟨i0, rfl⟩ := Int.eq_ofNat_of_zero_le a1.1
  have hok0 : ∀ t ∈ ns, NtOk ⟨i, es, []⟩ t := fun t ht => by
    obtain ⟨j, hj, rfl⟩ := List.getElem_of_mem ht
    have := m2 j (by omega)
    rw [get!_eq hj] at this
    exact this.ok (by omega)
  have hin0 : ∀ j : Nat, (j : Int) < i → ∃ n ∈ ns, LNt j n := fun j hj => ⟨_, get!_mem (by omega), m2 j (by omega)⟩
  have hSb : (i : Int) ≤ 3 := by omega
  refine wp_loop_I (fun (q : Nat) st' => ∃ (s : Int × Int) (ns : List Nt) (m : Nat) (g : Nat → Ob) (nx : Nat) (ex : List (Nat × Vl)), ns.length = m ∧ m + q ≤ i + 3 ∧ 3 ≤ nx ∧ (∀ t ∈ ns, NtOk ⟨i, es, []⟩ t) ∧ (∀ j : Nat, (j : Int) < i → ∃ n ∈ ns, LNt j n) ∧
    st' = ({ sl := (0, .bp 0 0) :: (2, .loc (.agg [I 0, .nils, .nils])) :: (3, .loc (vD i n m)) :: (6, I q) :: ex, hp := HPl s es ns g, nx := nx } : FS)) (fun q => q) ?_ i0
    ⟨s1, ns, i, noHeap, 3, _, m1, by omega, by omega, hok0, hin0, rfl⟩
  clear a1 s1 i0 hok0 hin0 m1 m2 ns hi hc
  rintro q st' ⟨s, ns, m, g, nx, ex, m1, m2, m3, m4, m5, rfl⟩
  by_cases hq : 0 < (q : Int)
  case neg =>
    simp +contextual (maxSteps := 1000000) (disch := first | omega | (with_reducible first | refine krN ?_ | refine krS ?_ | refine krP ?_ | refine krG ?_); kernel_rfl | refine kr ?_; simp only [go_sem, reduceCtorEq, hq]; done | fail) only [go_sem, seval, -List.reduceReplicate, hq]
    exact ⟨s, i, es, ns, g, ⟨by omega, by omega, e3, by omega, m4, m5⟩, by rw [e1, m1], rfl, m3⟩
  have b1 := anyR_mem s (l := [1, 3, 4]) (by simp) (by simp)
  simp only [List.mem_cons, List.not_mem_nil, or_false] at b1
  generalize hK : anyR s [1, 3, 4] = k at b1
  generalize hs1 : anyS s [1, 3, 4] = s1
  have b2 := upR_b s1 (n := i) (by omega)
  generalize hA : upR s1 i = a at b2
  generalize hs2 : upS s1 i = s2
  have b3 := upR_b s2 (n := i) (by omega)
  generalize hC : upR s2 i = c at b3
  generalize hs3 : upS s2 i = s3
  have hwq : IntKind.wrap .i64 ((q : Int) - 1) = ((q - 1 : Nat) : Int) := by rw [wrap_i64 (by omega) (by omega)]; omega
  have hin1 : ∀ t : Nt, ∀ j : Nat, (j : Int) < i → ∃ n ∈ ns ++ [t], LNt j n := fun t j hj => by
    obtain ⟨n, h1, h2⟩ := m5 j hj
    exact ⟨n, List.mem_append_left _ h1, h2⟩
  by_cases h3 : k = 3 ∧ 0 < n
  · obtain ⟨rfl, hn0⟩ := h3
    have hn0' : 0 < (n : Int) := by omega
    have a1 := sp_b s3 (lo := 1) (hi := 8) (by omega) (by omega) (by omega)
    simp +contextual (maxSteps := 1000000) (disch := first | omega | (with_reducible first | refine krN ?_ | refine krS ?_ | refine krP ?_ | refine krG ?_); kernel_rfl | refine kr ?_; simp only [go_sem, reduceCtorEq, hq, hK, hs1, hA, hs2, hC, hs3, hn0', wc85, killHp_nil, m1, hwq]; done | fail) only [go_sem, seval, -List.reduceReplicate, hq, hK, hs1, hA, hs2, hC, hs3, hn0', wc85, killHp_nil, m1, hwq]
    exact ⟨q - 1, ⟨_, _, m + 1, g, nx, _, by simp [m1], by omega, m3, mem_snoc m4 (ok_3 (by omega) (by omega) (by unfold SpanOk; omega) (by omega)), hin1 _, rfl⟩, by omega⟩
  by_cases h4 : k = 4 ∧ c ≠ a
  · obtain ⟨rfl, hca⟩ := h4
    have a1 := sp_b s3 (lo := -4) (hi := 5) (by omega) (by omega) (by omega)
    simp +contextual (maxSteps := 1000000) (disch := first | omega | (with_reducible first | refine krN ?_ | refine krS ?_ | refine krP ?_ | refine krG ?_); kernel_rfl | refine kr ?_; simp only [go_sem, reduceCtorEq, hq, hK, hs1, hA, hs2, hC, hs3, hca, wc85, killHp_nil, m1, hwq]; done | fail) only [go_sem, seval, -List.reduceReplicate, hq, hK, hs1, hA, hs2, hC, hs3, hca, wc85, killHp_nil, m1, hwq]
    exact ⟨q - 1, ⟨_, _, m + 1, g, nx, _, by simp [m1], by omega, m3, mem_snoc m4 (ok_4 (by omega) (by omega) (by unfold SpanOk; omega)), hin1 _, rfl⟩, by omega⟩
  have b4 := upR_b s3 (n := 3) (by omega)
  generalize hR : upR s3 3 = r at b4
  generalize hs4 : upS s3 3 = s4
  have hb2 : 0 ≤ a ∧ a < i := by omega
  have hg0 : ∀ s' : Int × Int, upd (HPl s' es ns g) nx (.arr 1 []) = HPl s' es ns (upd g nx (.arr 1 [])) := fun _ => HPl_g m3
  rcases b1 with rfl | rfl | rfl
  · simp +contextual (maxSteps := 1000000) (disch := first | omega | (with_reducible first | refine krN ?_ | refine krS ?_ | refine krP ?_ | refine krG ?_); kernel_rfl | refine kr ?_; simp only [go_sem, reduceCtorEq, hg0, hq, hK, hs1, hA, hs2, hC, hs3, hR, hs4, List.length_map]; done | fail) only [go_sem, seval, -List.reduceReplicate, hg0, hq, hK, hs1, hA, hs2, hC, hs3, hR, hs4, List.length_map]
    refine wp_loop_to 3 (fun t st' => ∃ (s : Int × Int) (xs : List Int) (y : Int) (ex : List (Nat × Vl)), xs.length = t ∧ (t = 0 → y < 8) ∧ (0 ≤ y ∧ y ≤ 10) ∧ (∀ x ∈ xs, 0 ≤ x ∧ x < y ∧ x ≤ 7) ∧ (∀ i, 0 < i → i < xs.length → xs[i - 1]! < xs[i]!) ∧
      st' = ({ sl := (0, .bp 0 0) :: (2, .loc (.agg [I 0, .nils, .nils])) :: (3, .loc (vD i n m)) :: (6, I q) :: (7, .loc (.agg [I 1, I a, I 0, .own nx t, I 0, I 0])) :: (8, I y) :: ex, hp := HPl s es ns (upd g nx (.arr 1 (xs.map I))), nx := nx + 1 } : FS)) ?_ 0 (Nat.zero_le _) ⟨s4, [], r, _, rfl, fun _ => by omega, by omega, by simp, fun i h1 h2 => by simp at h2, rfl⟩
    rintro t st' ht ⟨s, xs, y, ex, x1, x2, x3, x4, x5, rfl⟩
    by_cases hgo : y < 8 ∧ t < 3
    · obtain ⟨h8, ht3⟩ := hgo
      have ht3' : (t : Int) < 3 := by omega
      have hap : ∀ (s' : Int × Int) (lc : List (Nat × Vl)) (o : Bool) (x : Int) (nn : Nat), isAppend Try.prog 26 26 (.own nx t) (.lst 1 [.int .i64 x] o) { lc := lc, hp := HPl s' es ns (upd g nx (.arr 1 (xs.map I))), nx := nn } = some (.own nx (t + 1), { lc := lc, hp := HPl s' es ns (upd g nx (.arr 1 ((xs ++ [x]).map I))), nx := nn }) := fun s' lc o x nn => by
        rw [ap26b ((HPl_at m3).trans (upd_same _ _ _)) (by rw [List.length_map]; exact x1) (by omega)]
        rw [HPl_g m3, upd_upd, List.map_append]; rfl
      have c1 := fromR_b s (lo := 1) (hi := 3) (by omega) (by omega) (by omega) (by omega)
      generalize hY : fromR s 1 3 = z at c1
      have hwy : IntKind.wrap .i64 (y + z) = y + z := wrap_i64 (by omega) (by omega)
      simp +contextual (maxSteps := 1000000) (disch := first | omega | (with_reducible first | refine krN ?_ | refine krS ?_ | refine krP ?_ | refine krG ?_); kernel_rfl | refine kr ?_; simp only [go_sem, reduceCtorEq, h8, ht3, ht3', hap, hY, hwy]; done | fail) only [go_sem, seval, -List.reduceReplicate, h8, ht3, ht3', hap, hY, hwy]
      refine ⟨_, xs ++ [y], y + z, _, by rw [List.length_append, x1]; rfl, by omega, fun x hx => ?_, fun j h1 h2 => ?_, rfl⟩
      · rcases List.mem_append.1 hx with hx | hx
        · have := x4 x hx; omega
        · rw [List.mem_singleton.1 hx]; omega
      · rw [List.length_append] at h2
        simp only [List.length_cons, List.length_nil] at h2
        by_cases h : j < xs.length
        · rw [get!_snoc_lt (by omega), get!_snoc_lt h]; exact x5 j h1 h
        · have h : j = xs.length := by omega
          subst h
          rw [get!_snoc_lt (by omega), get!_snoc_eq rfl]
          exact (x4 _ (get!_mem (by omega))).2.1
    · have hx1 : 1 ≤ xs.length := by
        by_cases h : t = 0
        · exfalso; have := x2 h; omega
        · omega
      have hrf : reify (HPl s es ns (upd g nx (.arr 1 (xs.map I)))) (.own nx t) = some (.lst 1 (xs.map I) false, [nx]) := reify_flat (.inl ((HPl_at m3).trans (upd_same _ _ _))) x1 fun _ => rfl
      have hkl : killHp [nx] (HPl s es ns (upd g nx (.arr 1 (xs.map I)))) = HPl s es ns (upd (upd g nx (.arr 1 (xs.map I))) nx (froOb (HPl s es ns (upd g nx (.arr 1 (xs.map I))) nx))) := by rw [killHp_one, HPl_g m3]
      have hnew := ok_1 (es := es) (o := some false) hb2 ⟨hx1, by omega⟩ (fun x hx => by have := x4 x hx; omega) x5
      by_cases h8 : y < 8
      · have ht3' : ¬ (t : Int) < 3 := by omega
        simp +contextual (maxSteps := 1000000) (disch := first | omega | (with_reducible first | refine krN ?_ | refine krS ?_ | refine krP ?_ | refine krG ?_); kernel_rfl | refine kr ?_; simp only [go_sem, reduceCtorEq, h8, ht3', hrf, hkl, m1, hwq]; done | fail) only [go_sem, seval, -List.reduceReplicate, h8, ht3', hrf, hkl, m1, hwq]
        exact ⟨q - 1, ⟨_, _, m + 1, _, nx + 1, _, by simp [m1], by omega, by omega, mem_snoc m4 hnew, hin1 _, rfl⟩, by omega⟩
      · simp +contextual (maxSteps := 1000000) (disch := first | omega | (with_reducible first | refine krN ?_ | refine krS ?_ | refine krP ?_ | refine krG ?_); kernel_rfl | refine kr ?_; simp only [go_sem, reduceCtorEq, h8, hrf, hkl, m1, hwq]; done | fail) only [go_sem, seval, -List.reduceReplicate, h8, hrf, hkl, m1, hwq]
        exact ⟨q - 1, ⟨_, _, m + 1, _, nx + 1, _, by simp [m1], by omega, by omega, mem_snoc m4 hnew, hin1 _, rfl⟩, by omega⟩
  · have hn0 : ¬ 0 < (n : Int) := by omega
    simp +contextual (maxSteps := 1000000) (disch := first | omega | (with_reducible first | refine krN ?_ | refine krS ?_ | refine krP ?_ | refine krG ?_); kernel_rfl | refine kr ?_; simp only [go_sem, reduceCtorEq, hg0, hq, hK, hs1, hA, hs2, hC, hs3, hR, hs4, hn0]; done | fail) only [go_sem, seval, -List.reduceReplicate, hg0, hq, hK, hs1, hA, hs2, hC, hs3, hR, hs4, hn0]
    refine wp_loop_to 3 (fun t st' => ∃ (s : Int × Int) (xs : List Int) (y : Int) (ex : List (Nat × Vl)), xs.length = t ∧ (t = 0 → y < 8) ∧ (0 ≤ y ∧ y ≤ 10) ∧ (∀ x ∈ xs, 0 ≤ x ∧ x < y ∧ x ≤ 7) ∧ (∀ i, 0 < i → i < xs.length → xs[i - 1]! < xs[i]!) ∧
      st' = ({ sl := (0, .bp 0 0) :: (2, .loc (.agg [I 0, .nils, .nils])) :: (3, .loc (vD i n m)) :: (6, I q) :: (7, .loc (.agg [I 1, I a, I 0, .own nx t, I 0, I 0])) :: (8, I y) :: ex, hp := HPl s es ns (upd g nx (.arr 1 (xs.map I))), nx := nx + 1 } : FS)) ?_ 0 (Nat.zero_le _) ⟨s4, [], r, _, rfl, fun _ => by omega, by omega, by simp, fun i h1 h2 => by simp at h2, rfl⟩
    rintro t st' ht ⟨s, xs, y, ex, x1, x2, x3, x4, x5, rfl⟩
    by_cases hgo : y < 8 ∧ t < 3
    · obtain ⟨h8, ht3⟩ := hgo
      have ht3' : (t : Int) < 3 := by omega
      have hap : ∀ (s' : Int × Int) (lc : List (Nat × Vl)) (o : Bool) (x : Int) (nn : Nat), isAppend Try.prog 26 26 (.own nx t) (.lst 1 [.int .i64 x] o) { lc := lc, hp := HPl s' es ns (upd g nx (.arr 1 (xs.map I))), nx := nn } = some (.own nx (t + 1), { lc := lc, hp := HPl s' es ns (upd g nx (.arr 1 ((xs ++ [x]).map I))), nx := nn }) := fun s' lc o x nn => by
        rw [ap26b ((HPl_at m3).trans (upd_same _ _ _)) (by rw [List.length_map]; exact x1) (by omega)]
        rw [HPl_g m3, upd_upd, List.map_append]; rfl
      have c1 := fromR_b s (lo := 1) (hi := 3) (by omega) (by omega) (by omega) (by omega)
      generalize hY : fromR s 1 3 = z at c1
      have hwy : IntKind.wrap .i64 (y + z) = y + z := wrap_i64 (by omega) (by omega)
      simp +contextual (maxSteps := 1000000) (disch := first | omega | (with_reducible first | refine krN ?_ | refine krS ?_ | refine krP ?_ | refine krG ?_); kernel_rfl | refine kr ?_; simp only [go_sem, reduceCtorEq, h8, ht3, ht3', hap, hY, hwy]; done | fail) only [go_sem, seval, -List.reduceReplicate, h8, ht3, ht3', hap, hY, hwy]
      refine ⟨_, xs ++ [y], y + z, _, by rw [List.length_append, x1]; rfl, by omega, fun x hx => ?_, fun j h1 h2 => ?_, rfl⟩
      · rcases List.mem_append.1 hx with hx | hx
        · have := x4 x hx; omega
        · rw [List.mem_singleton.1 hx]; omega
      · rw [List.length_append] at h2
        simp only [List.length_cons, List.length_nil] at h2
        by_cases h : j < xs.length
        · rw [get!_snoc_lt (by omega), get!_snoc_lt h]; exact x5 j h1 h
        · have h : j = xs.length := by omega
          subst h
          rw [get!_snoc_lt (by omega), get!_snoc_eq rfl]
          exact (x4 _ (get!_mem (by omega))).2.1
    · have hx1 : 1 ≤ xs.length := by
        by_cases h : t = 0
        · exfalso; have := x2 h; omega
        · omega
      have hrf : reify (HPl s es ns (upd g nx (.arr 1 (xs.map I)))) (.own nx t) = some (.lst 1 (xs.map I) false, [nx]) := reify_flat (.inl ((HPl_at m3).trans (upd_same _ _ _))) x1 fun _ => rfl
      have hkl : killHp [nx] (HPl s es ns (upd g nx (.arr 1 (xs.map I)))) = HPl s es ns (upd (upd g nx (.arr 1 (xs.map I))) nx (froOb (HPl s es ns (upd g nx (.arr 1 (xs.map I))) nx))) := by rw [killHp_one, HPl_g m3]
      have hnew := ok_1 (es := es) (o := some false) hb2 ⟨hx1, by omega⟩ (fun x hx => by have := x4 x hx; omega) x5
      by_cases h8 : y < 8
      · have ht3' : ¬ (t : Int) < 3 := by omega
        simp +contextual (maxSteps := 1000000) (disch := first | omega | (with_reducible first | refine krN ?_ | refine krS ?_ | refine krP ?_ | refine krG ?_); kernel_rfl | refine kr ?_; simp only [go_sem, reduceCtorEq, h8, ht3', hrf, hkl, m1, hwq]; done | fail) only [go_sem, seval, -List.reduceReplicate, h8, ht3', hrf, hkl, m1, hwq]
        exact ⟨q - 1, ⟨_, _, m + 1, _, nx + 1, _, by simp [m1], by omega, by omega, mem_snoc m4 hnew, hin1 _, rfl⟩, by omega⟩
      · simp +contextual (maxSteps := 1000000) (disch := first | omega | (with_reducible first | refine krN ?_ | refine krS ?_ | refine krP ?_ | refine krG ?_); kernel_rfl | refine kr ?_; simp only [go_sem, reduceCtorEq, h8, hrf, hkl, m1, hwq]; done | fail) only [go_sem, seval, -List.reduceReplicate, h8, hrf, hkl, m1, hwq]
        exact ⟨q - 1, ⟨_, _, m + 1, _, nx + 1, _, by simp [m1], by omega, by omega, mem_snoc m4 hnew, hin1 _, rfl⟩, by omega⟩
  · have hca : a = c := by omega
    subst hca
    simp +contextual (maxSteps := 1000000) (disch := first | omega | (with_reducible first | refine krN ?_ | refine krS ?_ | refine krP ?_ | refine krG ?_); kernel_rfl | refine kr ?_; simp only [go_sem, reduceCtorEq, hg0, hq, hK, hs1, hA, hs2, hC, hs3, hR, hs4, List.length_map]; done | fail) only [go_sem, seval, -List.reduceReplicate, hg0, hq, hK, hs1, hA, hs2, hC, hs3, hR, hs4, List.length_map]
    refine wp_loop_to 3 (fun t st' => ∃ (s : Int × Int) (xs : List Int) (y : Int) (ex : List (Nat × Vl)), xs.length = t ∧ (t = 0 → y < 8) ∧ (0 ≤ y ∧ y ≤ 10) ∧ (∀ x ∈ xs, 0 ≤ x ∧ x < y ∧ x ≤ 7) ∧ (∀ i, 0 < i → i < xs.length → xs[i - 1]! < xs[i]!) ∧
      st' = ({ sl := (0, .bp 0 0) :: (2, .loc (.agg [I 0, .nils, .nils])) :: (3, .loc (vD i n m)) :: (6, I q) :: (7, .loc (.agg [I 1, I a, I 0, .own nx t, I 0, I 0])) :: (8, I y) :: ex, hp := HPl s es ns (upd g nx (.arr 1 (xs.map I))), nx := nx + 1 } : FS)) ?_ 0 (Nat.zero_le _) ⟨s4, [], r, _, rfl, fun _ => by omega, by omega, by simp, fun i h1 h2 => by simp at h2, rfl⟩
    rintro t st' ht ⟨s, xs, y, ex, x1, x2, x3, x4, x5, rfl⟩
    by_cases hgo : y < 8 ∧ t < 3
    · obtain ⟨h8, ht3⟩ := hgo
      have ht3' : (t : Int) < 3 := by omega
      have hap : ∀ (s' : Int × Int) (lc : List (Nat × Vl)) (o : Bool) (x : Int) (nn : Nat), isAppend Try.prog 26 26 (.own nx t) (.lst 1 [.int .i64 x] o) { lc := lc, hp := HPl s' es ns (upd g nx (.arr 1 (xs.map I))), nx := nn } = some (.own nx (t + 1), { lc := lc, hp := HPl s' es ns (upd g nx (.arr 1 ((xs ++ [x]).map I))), nx := nn }) := fun s' lc o x nn => by
        rw [ap26b ((HPl_at m3).trans (upd_same _ _ _)) (by rw [List.length_map]; exact x1) (by omega)]
        rw [HPl_g m3, upd_upd, List.map_append]; rfl
      have c1 := fromR_b s (lo := 1) (hi := 3) (by omega) (by omega) (by omega) (by omega)
      generalize hY : fromR s 1 3 = z at c1
      have hwy : IntKind.wrap .i64 (y + z) = y + z := wrap_i64 (by omega) (by omega)
      simp +contextual (maxSteps := 1000000) (disch := first | omega | (with_reducible first | refine krN ?_ | refine krS ?_ | refine krP ?_ | refine krG ?_); kernel_rfl | refine kr ?_; simp only [go_sem, reduceCtorEq, h8, ht3, ht3', hap, hY, hwy]; done | fail) only [go_sem, seval, -List.reduceReplicate, h8, ht3, ht3', hap, hY, hwy]
      refine ⟨_, xs ++ [y], y + z, _, by rw [List.length_append, x1]; rfl, by omega, fun x hx => ?_, fun j h1 h2 => ?_, rfl⟩
      · rcases List.mem_append.1 hx with hx | hx
        · have := x4 x hx; omega
        · rw [List.mem_singleton.1 hx]; omega
      · rw [List.length_append] at h2
        simp only [List.length_cons, List.length_nil] at h2
        by_cases h : j < xs.length
        · rw [get!_snoc_lt (by omega), get!_snoc_lt h]; exact x5 j h1 h
        · have h : j = xs.length := by omega
          subst h
          rw [get!_snoc_lt (by omega), get!_snoc_eq rfl]
          exact (x4 _ (get!_mem (by omega))).2.1
    · have hx1 : 1 ≤ xs.length := by
        by_cases h : t = 0
        · exfalso; have := x2 h; omega
        · omega
      have hrf : reify (HPl s es ns (upd g nx (.arr 1 (xs.map I)))) (.own nx t) = some (.lst 1 (xs.map I) false, [nx]) := reify_flat (.inl ((HPl_at m3).trans (upd_same _ _ _))) x1 fun _ => rfl
      have hkl : killHp [nx] (HPl s es ns (upd g nx (.arr 1 (xs.map I)))) = HPl s es ns (upd (upd g nx (.arr 1 (xs.map I))) nx (froOb (HPl s es ns (upd g nx (.arr 1 (xs.map I))) nx))) := by rw [killHp_one, HPl_g m3]
      have hnew := ok_1 (es := es) (o := some false) hb2 ⟨hx1, by omega⟩ (fun x hx => by have := x4 x hx; omega) x5
      by_cases h8 : y < 8
      · have ht3' : ¬ (t : Int) < 3 := by omega
        simp +contextual (maxSteps := 1000000) (disch := first | omega | (with_reducible first | refine krN ?_ | refine krS ?_ | refine krP ?_ | refine krG ?_); kernel_rfl | refine kr ?_; simp only [go_sem, reduceCtorEq, h8, ht3', hrf, hkl, m1, hwq]; done | fail) only [go_sem, seval, -List.reduceReplicate, h8, ht3', hrf, hkl, m1, hwq]
        exact ⟨q - 1, ⟨_, _, m + 1, _, nx + 1, _, by simp [m1], by omega, by omega, mem_snoc m4 hnew, hin1 _, rfl⟩, by omega⟩
      · simp +contextual (maxSteps := 1000000) (disch := first | omega | (with_reducible first | refine krN ?_ | refine krS ?_ | refine krP ?_ | refine krG ?_); kernel_rfl | refine kr ?_; simp only [go_sem, reduceCtorEq, h8, hrf, hkl, m1, hwq]; done | fail) only [go_sem, seval, -List.reduceReplicate, h8, hrf, hkl, m1, hwq]
        exact ⟨q - 1, ⟨_, _, m + 1, _, nx + 1, _, by simp [m1], by omega, by omega, mem_snoc m4 hnew, hin1 _, rfl⟩, by omega⟩
end Go.Proofs
