/- What functions of the given program do in the ideal machine (J35, J36, J37), and the plain laws of what they answer; the conditions stand in each theorem. -/
import Derived.Test.YtoamjmokonnglaaJn
set_option linter.all false
set_option linter.unusedSectionVars false
set_option linter.unusedSimpArgs false
set_option linter.unusedVariables false
namespace Go.Proofs
open Go Go.Idl Go.Dt
set_option linter.unusedSimpArgs false
variable {b : Nat}
def spL (s : Int × Int) (lo hi : Int) : Int := fromR s lo hi
def sp1 (s : Int × Int) (lo hi : Int) : Int × Int := fromS s lo hi
def spV (s : Int × Int) (lo hi : Int) : List Int := [spL s lo hi, min hi (w64 (spL s lo hi + upR (sp1 s lo hi) 3)), min hi (w64 (spL s lo hi + upR (upS (sp1 s lo hi) 3) 6)), fromR (upS (upS (sp1 s lo hi) 3) 6) (spL s lo hi) hi]
def sp4 (s : Int × Int) (lo hi : Int) : Int × Int := fromS (upS (upS (sp1 s lo hi) 3) 6) (spL s lo hi) hi
def spH (s : Int × Int) (lo hi : Int) : Int := anyR (sp4 s lo hi) (spV s lo hi)
def spE (s : Int × Int) (lo hi : Int) : Int × Int := anyS (sp4 s lo hi) (spV s lo hi)
theorem span_x {u nx : Nat} {hp : Nat → Ob} {lo hi : Int} (h : UrnOk u hp) : HAns Try.prog (AA b) 85 [.bp u 0, I lo, I hi] hp nx fun v h' n' => v = Sp (spL (urnAt u hp) lo hi) (spH (urnAt u hp) lo hi) ∧ h' = upd hp u (.box (.agg [U (spE (urnAt u hp) lo hi).1, U (spE (urnAt u hp) lo hi).2])) ∧ n' = nx := by
  refine HAns_of Try.func85 rfl ?_
  simp +contextual (maxSteps := 1000000) (disch := first | omega | (with_reducible first | refine krN ?_ | refine krS ?_ | refine krP ?_ | refine krG ?_); kernel_rfl | refine kr ?_; simp only [go_sem, reduceCtorEq, h]; done | fail) only [go_sem, seval, -List.reduceReplicate, h]
  repeat' (first | exact trivial | rfl | apply And.intro)
theorem sp_b (s : Int × Int) {lo hi : Int} (h0 : -1000 ≤ lo) (h1 : lo ≤ hi) (h2 : hi ≤ 1000) : lo ≤ spL s lo hi ∧ spL s lo hi ≤ spH s lo hi ∧ spH s lo hi ≤ hi := by
  have a0 := fromR_b s (lo := lo) (hi := hi) (by omega) (by omega) (by omega) (by omega)
  have a4 := anyR_mem (sp4 s lo hi) (l := spV s lo hi) (by simp [spV]) (by simp [spV])
  have a1 := upR_b (sp1 s lo hi) (n := 3) (by omega)
  have a2 := upR_b (upS (sp1 s lo hi) 3) (n := 6) (by omega)
  unfold spH
  generalize anyR (sp4 s lo hi) (spV s lo hi) = x at a4
  unfold spV at a4
  simp only [List.mem_cons, List.not_mem_nil, or_false] at a4
  have e : spL s lo hi = fromR s lo hi := rfl
  rw [e] at a4 ⊢
  have a3 := fromR_b (upS (upS (sp1 s lo hi) 3) 6) (lo := fromR s lo hi) (hi := hi) (by omega) (by omega) (by omega) (by omega)
  generalize fromR s lo hi = l at *
  unfold w64 at a4
  rw [wrap_i64 (by omega) (by omega), wrap_i64 (by omega) (by omega)] at a4
  omega
section
variable {m : Mem} {K : Vl → Mem → Prop} {u : Nat}
theorem wc85 {lo hi : Int} (h : UrnOk u m.hp) : WC Try.prog (AA b) (.fn (.func 85) [] []) [.v (.bp u 0), .v (.int .i64 lo), .v (.int .i64 hi)] m K = K (Sp (spL (urnAt u m.hp) lo hi) (spH (urnAt u m.hp) lo hi)) { m with hp := upd m.hp u (.box (.agg [U (spE (urnAt u m.hp) lo hi).1, U (spE (urnAt u m.hp) lo hi).2])) } :=
  WC_heap (by simp only [mkAnn, K85]) rfl (span_x h)
theorem inI_to {l : List Int} (hl : l.length ≤ 1000) {x : Int} {o : Option Bool} : Ans Try.prog (AA b) 104 [SL 1 (l.map I) o, I x] (fun v => v = .bool (decide (x ∈ l))) := by
  refine Ans_of Try.func104 rfl rfl ?_
  simp +contextual (maxSteps := 1000000) (disch := first | omega | (with_reducible first | refine krN ?_ | refine krS ?_ | refine krP ?_ | refine krG ?_); kernel_rfl | refine kr ?_; simp only [go_sem, reduceCtorEq, List.length_map]; done | fail) only [go_sem, seval, -List.reduceReplicate, List.length_map]
  refine wp_loop_to l.length (fun i st => ∃ (ex : List (Nat × Vl)), (∀ j, j < i → l[j]! ≠ x) ∧ st = ({ sl := (0, SL 1 (l.map I) o) :: (1, I x) :: (5, I i) :: ex, hp := noHeap, nx := 0 } : FS)) ?_ 0 (Nat.zero_le _) ⟨_, fun j h => absurd h (Nat.not_lt_zero _), rfl⟩
  rintro i st hi ⟨ex, hno, rfl⟩
  by_cases hc : i < l.length
  · by_cases he : l[i]! = x
    · have hm : x ∈ l := by rw [← he]; exact get!_mem hc
      simp +contextual (maxSteps := 1000000) (disch := first | omega | (with_reducible first | refine krN ?_ | refine krS ?_ | refine krP ?_ | refine krG ?_); kernel_rfl | refine kr ?_; simp only [go_sem, reduceCtorEq, Int.ofNat_lt, hc, ix_map, List.length_map, he]; done | fail) only [go_sem, seval, -List.reduceReplicate, Int.ofNat_lt, hc, ix_map, List.length_map, he]
      rw [decide_eq_true hm]
    · simp +contextual (maxSteps := 1000000) (disch := first | omega | (with_reducible first | refine krN ?_ | refine krS ?_ | refine krP ?_ | refine krG ?_); kernel_rfl | refine kr ?_; simp only [go_sem, reduceCtorEq, Int.ofNat_lt, hc, ix_map, List.length_map, he]; done | fail) only [go_sem, seval, -List.reduceReplicate, Int.ofNat_lt, hc, ix_map, List.length_map, he]
      refine ⟨_, fun j hj => ?_, rfl⟩
      by_cases h : j < i
      · exact hno j h
      · obtain rfl : j = i := by omega
        exact he
  · have hie : i = l.length := by omega
    subst hie
    simp +contextual (maxSteps := 1000000) (disch := first | omega | (with_reducible first | refine krN ?_ | refine krS ?_ | refine krP ?_ | refine krG ?_); kernel_rfl | refine kr ?_; simp only [go_sem, reduceCtorEq, Int.lt_irrefl, List.length_map]; done | fail) only [go_sem, seval, -List.reduceReplicate, Int.lt_irrefl, List.length_map]
    have hm : ¬ x ∈ l := fun h => by
      obtain ⟨j, hj, e⟩ := List.getElem_of_mem h
      exact hno j hj (by rw [get!_eq hj]; exact e)
    rw [decide_eq_false hm]
theorem wc104 {l : List Int} (hl : l.length ≤ 1000) {x : Int} {o : Option Bool} : WC Try.prog (AA b) (.fn (.func 104) [] []) [.v (SL 1 (l.map I) o), .v (.int .i64 x)] m K = K (.bool (decide (x ∈ l))) m :=
  WC_flat (by simp only [mkAnn, K104]) (rfAs (xs := [SL 1 (l.map I) o, I x]) (by simp only [closedL, clIs]; rfl)) (inI_to hl) rfl
def saidV (so al : Int) : Int := if so = al then 1 else if so = 0 then 2 else 3
theorem said_to {so al : Int} : Ans Try.prog (AA b) 48 [I so, I al] (fun v => v = I (saidV so al)) := by
  refine Ans_of Try.func48 rfl rfl ?_
  unfold saidV
  by_cases h1 : so = al
  · simp +contextual (maxSteps := 1000000) (disch := first | omega | (with_reducible first | refine krN ?_ | refine krS ?_ | refine krP ?_ | refine krG ?_); kernel_rfl | refine kr ?_; simp only [go_sem, reduceCtorEq, h1]; done | fail) only [go_sem, seval, -List.reduceReplicate, h1]
  · by_cases h2 : so = 0
    · subst h2
      simp +contextual (maxSteps := 1000000) (disch := first | omega | (with_reducible first | refine krN ?_ | refine krS ?_ | refine krP ?_ | refine krG ?_); kernel_rfl | refine kr ?_; simp only [go_sem, reduceCtorEq, h1]; done | fail) only [go_sem, seval, -List.reduceReplicate, h1]
    · simp +contextual (maxSteps := 1000000) (disch := first | omega | (with_reducible first | refine krN ?_ | refine krS ?_ | refine krP ?_ | refine krG ?_); kernel_rfl | refine kr ?_; simp only [go_sem, reduceCtorEq, h1, h2]; done | fail) only [go_sem, seval, -List.reduceReplicate, h1, h2]
theorem wc48 {so al : Int} : WC Try.prog (AA b) (.fn (.func 48) [] []) [.v (.int .i64 so), .v (.int .i64 al)] m K = K (I (saidV so al)) m := WC_flat (by simp only [mkAnn, K48]) rfl said_to rfl
end
def rightB (n : Nt) (ys fs : List Int) : Bool :=
  if n.kind = 1 then decide (ys[n.stone.toNat]! ∈ n.ys)
  else if n.kind = 2 then decide (n.lo ≤ ys[n.stone.toNat]!) && decide (ys[n.stone.toNat]! ≤ n.hi)
  else if n.kind = 3 then decide (n.lo ≤ ys[n.stone.toNat]! - fs[n.other.toNat]! + 1) && decide (ys[n.stone.toNat]! - fs[n.other.toNat]! + 1 ≤ n.hi)
  else decide (n.lo ≤ ys[n.stone.toNat]! - ys[n.other.toNat]!) && decide (ys[n.stone.toNat]! - ys[n.other.toNat]! ≤ n.hi)
@[reducible] def encW (p : List Int × List Int) : Vl := .agg [SL 1 (p.1.map I) none, SL 1 (p.2.map I) none]
theorem clW (p : List Int × List Int) : (encW p).closed = true := by simp only [encW, Vl.closed, closedL, clIs, Bool.and_self]
theorem right_to {d : Dt} {n : Nt} (h : NtOk d n) {ys fs : List Int} (hy : (ys.length : Int) = d.stones) (hf : fs.length = d.eras.length) (hyb : ∀ y ∈ ys, -3000 ≤ y ∧ y ≤ 3000) (hfb : ∀ y ∈ fs, -3000 ≤ y ∧ y ≤ 3000) : Ans Try.prog (AA b) 86 [encN n, encW (ys, fs)] (fun v => v = .bool (rightB n ys fs)) := by
  refine Ans_of Try.func86 rfl rfl ?_
  have hk := h.kind
  have hs := h.stone
  have hs1 : n.stone < ys.length := by omega
  obtain ⟨s, hse⟩ := Int.eq_ofNat_of_zero_le hs.1
  have hsl : s < ys.length := by omega
  have hyv := hyb _ (get!_mem hsl)
  have hk4 : n.kind = 1 ∨ n.kind = 2 ∨ n.kind = 3 ∨ n.kind = 4 := by omega
  unfold rightB
  rw [hse, Int.toNat_natCast]
  generalize hY : ys[s]! = y at hyv
  rcases hk4 with e | e | e | e
  · have hl := (h.years e).2.2.2.2.1
    have hl : n.ys.length ≤ 1000 := by omega
    simp +contextual (maxSteps := 1000000) (disch := first | omega | (with_reducible first | refine krN ?_ | refine krS ?_ | refine krP ?_ | refine krG ?_); kernel_rfl | refine kr ?_; simp only [go_sem, reduceCtorEq, hse, ix_map, hsl, hY, e, wc104, hl]; done | fail) only [go_sem, seval, -List.reduceReplicate, hse, ix_map, hsl, hY, e, wc104, hl]
  · simp +contextual (maxSteps := 1000000) (disch := first | omega | (with_reducible first | refine krN ?_ | refine krS ?_ | refine krP ?_ | refine krG ?_); kernel_rfl | refine kr ?_; simp only [go_sem, reduceCtorEq, hse, ix_map, hsl, hY, e]; done | fail) only [go_sem, seval, -List.reduceReplicate, hse, ix_map, hsl, hY, e]
  · have ho := h.era e
    obtain ⟨q, hq⟩ := Int.eq_ofNat_of_zero_le ho.1
    have hql : q < fs.length := by omega
    have hfv := hfb _ (get!_mem hql)
    rw [hq, Int.toNat_natCast]
    generalize hF : fs[q]! = f at hfv
    have hw1 : IntKind.wrap .i64 (y - f) = y - f := wrap_i64 (by omega) (by omega)
    have hw2 : IntKind.wrap .i64 (y - f + 1) = y - f + 1 := wrap_i64 (by omega) (by omega)
    simp +contextual (maxSteps := 1000000) (disch := first | omega | (with_reducible first | refine krN ?_ | refine krS ?_ | refine krP ?_ | refine krG ?_); kernel_rfl | refine kr ?_; simp only [go_sem, reduceCtorEq, hse, ix_map, hsl, hY, e, hq, hql, hF, hw1, hw2]; done | fail) only [go_sem, seval, -List.reduceReplicate, hse, ix_map, hsl, hY, e, hq, hql, hF, hw1, hw2]
  · have ho := h.after e
    obtain ⟨q, hq⟩ := Int.eq_ofNat_of_zero_le ho.1
    have hql : q < ys.length := by omega
    have hfv := hyb _ (get!_mem hql)
    rw [hq, Int.toNat_natCast]
    generalize hF : ys[q]! = f at hfv
    have hw1 : IntKind.wrap .i64 (y - f) = y - f := wrap_i64 (by omega) (by omega)
    simp +contextual (maxSteps := 1000000) (disch := first | omega | (with_reducible first | refine krN ?_ | refine krS ?_ | refine krP ?_ | refine krG ?_); kernel_rfl | refine kr ?_; simp only [go_sem, reduceCtorEq, hse, ix_map, hsl, hY, e, hq, hql, hF, hw1]; done | fail) only [go_sem, seval, -List.reduceReplicate, hse, ix_map, hsl, hY, e, hq, hql, hF, hw1]
theorem wc86 {d : Dt} {n : Nt} (h : NtOk d n) {ys fs : List Int} (hy : (ys.length : Int) = d.stones) (hf : fs.length = d.eras.length) (hyb : ∀ y ∈ ys, -3000 ≤ y ∧ y ≤ 3000) (hfb : ∀ y ∈ fs, -3000 ≤ y ∧ y ≤ 3000) {m : Mem} {K : Vl → Mem → Prop} : WC Try.prog (AA b) (.fn (.func 86) [] []) [.v (encN n), .v (encW (ys, fs))] m K = K (.bool (rightB n ys fs)) m :=
  WC_flat (by simp only [mkAnn, K86]) (rfAs (xs := [encN n, encW (ys, fs)]) (by simp only [closedL, clN, clW]; rfl)) (right_to h hy hf hyb hfb) rfl
end Go.Proofs
namespace Go.Proofs
open Go Go.Idl Go.Dt
set_option linter.unusedSimpArgs false
variable {b : Nat}
def truF (d : Dt) : List (Int × Int) → List Int → List Int → List (List Int × List Int)
  | [], ys, fs => if d.notes.all fun n => rightB n ys fs then [(ys, fs)] else []
  | s :: r, ys, fs => (List.range (s.2 - s.1 + 1).toNat).flatMap fun (i : Nat) => truF d r ys (fs ++ [s.1 + (i : Int)])
def truY (d : Dt) : Nat → List Int → List (List Int × List Int)
  | 0, ys => truF d d.eras ys []
  | k + 1, ys => (List.range 8).flatMap fun (i : Nat) => truY d k (ys ++ [(i : Int)])
theorem flatMap_len {α β : Type} {f : α → List β} {c : Nat} : ∀ {l : List α}, (∀ x ∈ l, (f x).length ≤ c) → (l.flatMap f).length ≤ l.length * c
  | [], _ => by simp
  | x :: l, h => by
    have h1 := flatMap_len (l := l) (f := f) (c := c) fun y hy => h y (List.mem_cons_of_mem _ hy)
    have h2 := h x (List.mem_cons_self ..)
    rw [List.flatMap_cons, List.length_append, List.length_cons, Nat.succ_mul]
    omega
theorem truF_len {d : Dt} : ∀ (r : List (Int × Int)) (ys fs : List Int), (∀ s ∈ r, s.2 - s.1 ≤ 4) → (truF d r ys fs).length ≤ 5 ^ r.length
  | [], ys, fs, _ => by unfold truF; split <;> simp
  | s :: r, ys, fs, h => by
    have h2 := h s (List.mem_cons_self ..)
    unfold truF
    refine Nat.le_trans (flatMap_len (c := 5 ^ r.length) fun i _ => truF_len r ys _ fun s hs => h s (List.mem_cons_of_mem _ hs)) ?_
    rw [List.length_range, List.length_cons, Nat.pow_succ, Nat.mul_comm]
    exact Nat.mul_le_mul_left _ (by omega)
theorem truY_len {d : Dt} (h : ∀ s ∈ d.eras, s.2 - s.1 ≤ 4) : ∀ (k : Nat) (ys : List Int), (truY d k ys).length ≤ 8 ^ k * 5 ^ d.eras.length
  | 0, ys => by unfold truY; rw [Nat.pow_zero, Nat.one_mul]; exact truF_len _ _ _ h
  | k + 1, ys => by
    unfold truY
    refine Nat.le_trans (flatMap_len fun i _ => truY_len h k _) ?_
    rw [List.length_range, Nat.pow_succ, Nat.mul_comm (8 ^ k) 8, Nat.mul_assoc]
    exact Nat.le_refl _
theorem flat_snoc {β : Type} {f : Nat → List β} {i : Nat} : (List.range (i + 1)).flatMap f = (List.range i).flatMap f ++ f i := by
  rw [List.range_succ, List.flatMap_append, List.flatMap_singleton]
theorem SL_ne {e : Nat} {xs : List Vl} (h : xs ≠ []) : SL e xs none = .lst e xs false := by
  cases xs with
  | nil => exact absurd rfl h
  | cons => rfl
def OutV (hp : Nat → Ob) (nx : Nat) (v : Vl) (L : List (List Int × List Int)) : Prop := (L = [] ∧ v = .nils) ∨ ∃ id, 0 < id ∧ id < nx ∧ v = .own id L.length ∧ L ≠ [] ∧ hp id = .arr 2 (L.map encW)
theorem OutV.slot {hp : Nat → Ob} {nx : Nat} {v : Vl} {L : List (List Int × List Int)} (h : OutV hp nx v L) (t : Nat) : slotV t v = .v v := by
  rcases h with ⟨_, rfl⟩ | ⟨id, _, _, rfl, _⟩ <;> rfl
theorem OutV.mono {hp hp' : Nat → Ob} {nx nx' : Nat} {v : Vl} {L : List (List Int × List Int)} (h : OutV hp nx v L) (h1 : ∀ i, 0 < i → i < nx → hp' i = hp i) (h2 : nx ≤ nx') : OutV hp' nx' v L := by
  rcases h with h | ⟨id, a, c, e, f, g⟩
  · exact .inl h
  · exact .inr ⟨id, a, by omega, e, f, by rw [h1 id a c]; exact g⟩
theorem ap69n {m : Mem} {x : Vl} {o : Bool} : isAppend Try.prog 69 69 .nils (.lst 2 [x] o) m = some (.own m.nx 1, { m with hp := upd m.hp m.nx (.arr 2 [x]), nx := m.nx + 1 }) := app1_nils (by rw [td69]) rfl
theorem ap69w {m : Mem} {id n : Nat} {xs : List Vl} {x : Vl} {o : Bool} (ho : m.hp id = .arr 2 xs) (hn : xs.length = n) (hs : n ≤ 100000) : isAppend Try.prog 69 69 (.own id n) (.lst 2 [x] o) m = some (.own id (n + 1), { m with hp := upd m.hp id (.arr 2 (xs ++ [x])) }) :=
  app1_own (by rw [td69]) ho hn (grow_ok rfl rfl (by decide) (by decide) (by omega))
theorem OutV.app {hp : Nat → Ob} {nx : Nat} {v : Vl} {L : List (List Int × List Int)} (h : OutV hp nx v L) (hn : 0 < nx) (hl : L.length < 100000) (p : List Int × List Int) :
    ∃ v' hp' nx', (∀ t lc, isAppend Try.prog 69 69 v (.lst 2 [encW p] t) ⟨lc, hp, nx⟩ = some (v', ⟨lc, hp', nx'⟩)) ∧ OutV hp' nx' v' (L ++ [p]) ∧ hp' 0 = hp 0 ∧ nx ≤ nx' := by
  rcases h with ⟨rfl, rfl⟩ | ⟨id, a, c, rfl, f, g⟩
  · refine ⟨.own nx 1, upd hp nx (.arr 2 [encW p]), nx + 1, fun t lc => ap69n, .inr ⟨nx, hn, by omega, rfl, by simp, upd_same _ _ _⟩, upd_ne _ _ (by omega), by omega⟩
  · refine ⟨.own id (L.length + 1), upd hp id (.arr 2 (L.map encW ++ [encW p])), nx, fun t lc => ap69w (m := ⟨lc, hp, nx⟩) g (by rw [List.length_map]) (by omega), .inr ⟨id, a, c, by rw [List.length_append]; rfl, by simp, ?_⟩, upd_ne _ _ (by omega), Nat.le_refl _⟩
    rw [List.map_append]; exact upd_same _ _ _
set_option maxRecDepth 10000 in
set_option maxHeartbeats 4000000 in
theorem truF_to {d : Dt} (hd : DtOk d) (he4 : ∀ s ∈ d.eras, s.2 - s.1 ≤ 4) {o1 o2 : Option Bool} {ys : List Int} (hys : (ys.length : Int) = d.stones) (hyb : ∀ y ∈ ys, -3000 ≤ y ∧ y ≤ 3000) {U : Ob} (r : List (Int × Int)) :
    ∀ {fs : List Int} {w1 w2 v : Vl} {k1 k2 : List Nat} {hp : Nat → Ob} {nx : Nat} {L : List (List Int × List Int)}, d.eras.drop fs.length = r → fs.length ≤ d.eras.length → (∀ y ∈ fs, -3000 ≤ y ∧ y ≤ 3000) → reify hp w1 = some (SL 1 (ys.map I) none, k1) → reify hp w2 = some (SL 1 (fs.map I) none, k2) → OutV (killHp (k1 ++ k2) hp) nx v L → killHp (k1 ++ k2) hp 0 = U → 0 < nx → L.length + 5 ^ r.length ≤ 100000 →
    HAns Try.prog (AA b) 47 [encD o1 o2 d, Sp 0 7, .agg [w1, w2], v] hp nx fun v' hp' nx' => hp' 0 = U ∧ OutV hp' nx' v' (L ++ truF d r ys fs) ∧ nx ≤ nx' := by
  have hlt : ¬ (ys.length : Int) < d.stones := by omega
  have hn8 := hd.notes_l
  induction r with
  | nil =>
    intro fs w1 w2 v k1 k2 hp nx L hdr hfl hfb hW1 hW2 hO hU hnx hL
    have hfe : fs.length = d.eras.length := by have := congrArg List.length hdr; rw [List.length_drop] at this; simp at this; omega
    have hlt2 : ¬ (fs.length : Int) < d.eras.length := by omega
    have hsv := hO.slot
    refine HAns_of Try.func47 rfl ?_
    simp +contextual (maxSteps := 1000000) (disch := first | omega | (with_reducible first | refine krN ?_ | refine krS ?_ | refine krP ?_ | refine krG ?_); kernel_rfl | refine kr ?_; simp only [go_sem, reduceCtorEq, hW1, hW2, hsv, hlt, hlt2]; done | fail) only [go_sem, seval, -List.reduceReplicate, hW1, hW2, hsv, hlt, hlt2]
    generalize killHp (k1 ++ k2) hp = h0 at hO hU ⊢
    refine wp_loop_to d.notes.length (fun i st => ∃ ex, (∀ j, j < i → rightB d.notes[j]! ys fs = true) ∧ st = ({ sl := (3, v) :: (4, .loc (encD o1 o2 d)) :: (6, .loc (encW (ys, fs))) :: (12, I i) :: ex, hp := h0, nx := nx } : FS)) ?_ 0 (Nat.zero_le _) ⟨_, fun j h => absurd h (Nat.not_lt_zero _), rfl⟩
    rintro i st hi ⟨ex, hr, rfl⟩
    by_cases hc : i < d.notes.length
    · have hno := hd.notes _ (get!_mem hc)
      have w86 := fun (m : Mem) (K : Vl → Mem → Prop) => wc86 (b := b) hno hys hfe hyb hfb (m := m) (K := K)
      cases hb : rightB d.notes[i]! ys fs with
      | true =>
        simp +contextual (maxSteps := 1000000) (disch := first | omega | (with_reducible first | refine krN ?_ | refine krS ?_ | refine krP ?_ | refine krG ?_); kernel_rfl | refine kr ?_; simp only [go_sem, reduceCtorEq, Int.ofNat_lt, hc, ix_map, w86, hb, hsv]; done | fail) only [go_sem, seval, -List.reduceReplicate, Int.ofNat_lt, hc, ix_map, w86, hb, hsv]
        refine ⟨_, fun j hj => ?_, rfl⟩
        by_cases h : j < i
        · exact hr j h
        · obtain rfl : j = i := by omega
          exact hb
      | false =>
        simp +contextual (maxSteps := 1000000) (disch := first | omega | (with_reducible first | refine krN ?_ | refine krS ?_ | refine krP ?_ | refine krG ?_); kernel_rfl | refine kr ?_; simp only [go_sem, reduceCtorEq, Int.ofNat_lt, hc, ix_map, w86, hb, hsv]; done | fail) only [go_sem, seval, -List.reduceReplicate, Int.ofNat_lt, hc, ix_map, w86, hb, hsv]
        have e : truF d [] ys fs = [] := by
          unfold truF
          rw [if_neg]
          intro h
          have := List.all_eq_true.1 h _ (get!_mem hc)
          rw [hb] at this
          cases this
        rw [e, List.append_nil]; exact ⟨hU, hO⟩
    · have hie : i = d.notes.length := by omega
      subst hie
      obtain ⟨v', hp', nx', a1, a2, a3, a4⟩ := hO.app hnx (by simp at hL; omega) (ys, fs)
      have hsv' := a2.slot
      simp +contextual (maxSteps := 1000000) (disch := first | omega | (with_reducible first | refine krN ?_ | refine krS ?_ | refine krP ?_ | refine krG ?_); kernel_rfl | refine kr ?_; simp only [go_sem, reduceCtorEq, Int.lt_irrefl, hsv, a1, hsv']; done | fail) only [go_sem, seval, -List.reduceReplicate, Int.lt_irrefl, hsv, a1, hsv']
      refine ⟨a3.trans hU, ?_, a4⟩
      have e : truF d [] ys fs = [(ys, fs)] := by
        unfold truF
        rw [if_pos]
        rw [List.all_eq_true]
        intro n hn
        obtain ⟨j, hj, rfl⟩ := List.getElem_of_mem hn
        have := hr j hj
        rwa [get!_eq hj] at this
      rw [e]; exact a2
  | cons s r ih =>
    intro fs w1 w2 v k1 k2 hp nx L hdr hfl hfb hW1 hW2 hO hU hnx hL
    have hfe : fs.length < d.eras.length := by have := congrArg List.length hdr; rw [List.length_drop] at this; simp at this; omega
    have hs : d.eras[fs.length]! = s := by
      rw [get!_eq hfe]
      have := List.drop_eq_getElem_cons hfe
      rw [hdr] at this
      exact (List.cons.inj this).1.symm
    have hdr2 : d.eras.drop (fs.length + 1) = r := by
      have := List.drop_eq_getElem_cons hfe
      rw [hdr] at this
      exact (List.cons.inj this).2.symm
    have hsm : s ∈ d.eras := by rw [← hs]; exact get!_mem hfe
    have h4 := he4 s hsm
    have hso := hd.eras s hsm
    unfold SpanOk at hso
    obtain ⟨lo, hi⟩ := s
    dsimp only at h4 hso
    obtain ⟨N, hN⟩ : ∃ N, N = (hi - lo + 1).toNat := ⟨_, rfl⟩
    have hsv := hO.slot
    have hlt2 : (fs.length : Int) < d.eras.length := by omega
    have heT : truF d ((lo, hi) :: r) ys fs = (List.range N).flatMap fun (i : Nat) => truF d r ys (fs ++ [lo + (i : Int)]) := by rw [hN]; rfl
    rw [heT]
    have hcl : ∀ i, ((List.range i).flatMap fun (i : Nat) => truF d r ys (fs ++ [lo + (i : Int)])).length ≤ i * 5 ^ r.length := fun i => by
      have := flatMap_len (l := List.range i) (f := fun (i : Nat) => truF d r ys (fs ++ [lo + (i : Int)])) (c := 5 ^ r.length) fun x _ => truF_len r ys _ fun s hs => he4 s (by rw [← hdr2] at hs; exact List.mem_of_mem_drop hs)
      rwa [List.length_range] at this
    refine HAns_of Try.func47 rfl ?_
    have hYl : SL 1 (ys.map I) none = .lst 1 (ys.map I) false := SL_ne (by
      intro e
      have := List.map_eq_nil_iff.1 e
      have := hd.stones
      subst ys
      simp at hys; omega)
    simp +contextual (maxSteps := 1000000) (disch := first | omega | (with_reducible first | refine krN ?_ | refine krS ?_ | refine krP ?_ | refine krG ?_); kernel_rfl | refine kr ?_; simp only [go_sem, reduceCtorEq, hW1, hW2, hsv, hlt, hlt2, ix_map, hfe, hs, hYl, List.length_map]; done | fail) only [go_sem, seval, -List.reduceReplicate, hW1, hW2, hsv, hlt, hlt2, ix_map, hfe, hs, hYl, List.length_map]
    generalize killHp (k1 ++ k2) hp = h0 at hO hU ⊢
    refine wp_loop_to N (fun i st => ∃ (v : Vl) (h : Nat → Ob) (n' : Nat) (ex : List (Nat × Vl)), h 0 = U ∧ OutV h n' v (L ++ (List.range i).flatMap fun (i : Nat) => truF d r ys (fs ++ [lo + (i : Int)])) ∧ nx ≤ n' ∧
      st = ({ sl := (3, v) :: (4, .loc (encD o1 o2 d)) :: (5, .loc (Sp 0 7)) :: (6, .loc (.agg [.lst 1 (ys.map I) false, SL 1 (fs.map I) none])) :: (10, I fs.length) :: (11, I (lo + i)) :: ex, hp := h, nx := n' } : FS)) ?_ 0 (Nat.zero_le _) ⟨v, h0, nx, _, hU, by rw [List.range_zero, List.flatMap_nil, List.append_nil]; exact hO, Nat.le_refl _, by rw [show lo + ((0 : Nat) : Int) = lo by omega]⟩
    clear hO hU hsv hW1 hW2 h0
    rintro i st hiN ⟨v, h, n', ex, hU, hO, hn', rfl⟩
    have hsv := hO.slot
    by_cases hc : i < N
    · have hle : lo + (i : Int) ≤ hi := by omega
      have hcli := hcl i
      generalize hLi : L ++ (List.range i).flatMap (fun (i : Nat) => truF d r ys (fs ++ [lo + (i : Int)])) = Li at hO
      have hLil : Li.length ≤ L.length + i * 5 ^ r.length := by rw [← hLi, List.length_append]; omega
      have hpw : i * 5 ^ r.length + 5 ^ r.length ≤ 5 ^ (r.length + 1) := by
        rw [Nat.pow_succ, Nat.mul_comm _ 5, ← Nat.succ_mul]
        exact Nat.mul_le_mul_right _ (by omega)
      have hfl5 : fs.length ≤ 100000 := by have := hd.eras_l; omega
      have hw : IntKind.wrap .i64 (lo + (i : Int) + 1) = lo + ((i + 1 : Nat) : Int) := by rw [wrap_i64 (by omega) (by omega)]; omega
      have hap : ∀ (x : Vl) (t : Bool), isAppend Try.prog 26 26 (.own n' fs.length) (.lst 1 [x] t) { lc := [], hp := upd h n' (.arr 1 (fs.map I)), nx := n' + 1 } = some (.own n' (fs.length + 1), { lc := [], hp := upd h n' (.arr 1 (fs.map I ++ [x])), nx := n' + 1 }) := fun x t => by
        rw [ap26b (xs := fs.map I) (upd_same _ _ _) (by rw [List.length_map]) (by have := hd.eras_l; omega)]
        simp only [upd_upd]
      simp +contextual (maxSteps := 1000000) (disch := first | omega | (with_reducible first | refine krN ?_ | refine krS ?_ | refine krP ?_ | refine krG ?_); kernel_rfl | refine kr ?_; simp only [go_sem, reduceCtorEq, hc, hsv, hle, ix_map, hfe, hs, wc59, hfl5, hap]; done | fail) only [go_sem, seval, -List.reduceReplicate, hc, hsv, hle, ix_map, hfe, hs, wc59, hfl5, hap]
      have g1 : reify (upd h n' (.arr 1 ((fs ++ [lo + (i : Int)]).map I))) (.lst 1 (ys.map I) false) = some (SL 1 (ys.map I) none, []) := by rw [hYl]; exact reify_lst (closedL_map clI _)
      have g2 : reify (upd h n' (.arr 1 ((fs ++ [lo + (i : Int)]).map I))) (.own n' (fs.length + 1)) = some (SL 1 ((fs ++ [lo + (i : Int)]).map I) none, [n']) := by
        rw [SL_ne (by simp)]
        exact reify_flat (.inl (upd_same _ _ _)) (by rw [List.length_append]; rfl) fun _ => rfl
      have hO2 : OutV (killHp ([] ++ [n']) (upd h n' (.arr 1 ((fs ++ [lo + (i : Int)]).map I)))) (n' + 1) v Li := hO.mono (fun j j0 jn => by rw [killHp_ne _ _ _ (by simp; omega), upd_ne _ _ (by omega)]) (by omega)
      have hU2 : killHp ([] ++ [n']) (upd h n' (.arr 1 ((fs ++ [lo + (i : Int)]).map I))) 0 = U := by rw [killHp_ne _ _ _ (by simp; omega), upd_ne _ _ (by omega)]; exact hU
      refine wc_heap (by rfl) rfl (ih (fs := fs ++ [lo + (i : Int)]) (by rw [List.length_append]; exact hdr2) (by rw [List.length_append]; exact hfe) (fun y hy => ?_) g1 g2 hO2 hU2 (by dsimp only; omega) (by rw [List.length_cons] at hL; omega)) ?_
      · rcases List.mem_append.1 hy with hy | hy
        · exact hfb y hy
        · rw [List.mem_singleton.1 hy]; omega
      rintro v2 hp2 nx2 ⟨c1, c2, c3⟩
      have hsv2 := c2.slot
      dsimp only at c3
      simp +contextual (maxSteps := 1000000) (disch := first | omega | (with_reducible first | refine krN ?_ | refine krS ?_ | refine krP ?_ | refine krG ?_); kernel_rfl | refine kr ?_; simp only [go_sem, reduceCtorEq, hc, hsv2, hw]; done | fail) only [go_sem, seval, -List.reduceReplicate, hc, hsv2, hw]
      exact ⟨v2, hp2, nx2, _, c1, by rw [List.flatMap_append, List.flatMap_singleton, ← List.append_assoc, hLi]; exact c2, by omega, rfl⟩
    · have hie : i = N := by omega
      subst hie
      have hle : ¬ lo + (i : Int) ≤ hi := by omega
      simp +contextual (maxSteps := 1000000) (disch := first | omega | (with_reducible first | refine krN ?_ | refine krS ?_ | refine krP ?_ | refine krG ?_); kernel_rfl | refine kr ?_; simp only [go_sem, reduceCtorEq, hsv, hle, ix_map, hfe, hs]; done | fail) only [go_sem, seval, -List.reduceReplicate, hsv, hle, ix_map, hfe, hs]
      exact ⟨hU, hO, hn'⟩
set_option maxRecDepth 10000 in
set_option maxHeartbeats 4000000 in
theorem truY_to {d : Dt} (hd : DtOk d) (he4 : ∀ s ∈ d.eras, s.2 - s.1 ≤ 4) {o1 o2 : Option Bool} {U : Ob} (k : Nat) :
    ∀ {ys : List Int} {w1 v : Vl} {k1 : List Nat} {hp : Nat → Ob} {nx : Nat} {L : List (List Int × List Int)}, ((ys.length + k : Nat) : Int) = d.stones → (∀ y ∈ ys, -3000 ≤ y ∧ y ≤ 3000) → reify hp w1 = some (SL 1 (ys.map I) none, k1) → OutV (killHp (k1 ++ []) hp) nx v L → killHp (k1 ++ []) hp 0 = U → 0 < nx → L.length + 8 ^ k * 5 ^ d.eras.length ≤ 100000 →
    HAns Try.prog (AA b) 47 [encD o1 o2 d, Sp 0 7, .agg [w1, .nils], v] hp nx fun v' hp' nx' => hp' 0 = U ∧ OutV hp' nx' v' (L ++ truY d k ys) ∧ nx ≤ nx' := by
  have hst := hd.stones
  induction k with
  | zero =>
    intro ys w1 v k1 hp nx L hys hyb hW1 hO hU hnx hL
    exact truF_to hd he4 hys hyb d.eras (fs := []) (k2 := []) rfl (Nat.zero_le _) (by simp) hW1 rfl hO hU hnx (by omega)
  | succ k ih =>
    intro ys w1 v k1 hp nx L hys hyb hW1 hO hU hnx hL
    have hlt : (ys.length : Int) < d.stones := by omega
    have hsv := hO.slot
    have hcl : ∀ i, ((List.range i).flatMap fun (i : Nat) => truY d k (ys ++ [(i : Int)])).length ≤ i * (8 ^ k * 5 ^ d.eras.length) := fun i => by
      have := flatMap_len (l := List.range i) (f := fun (i : Nat) => truY d k (ys ++ [(i : Int)])) (c := 8 ^ k * 5 ^ d.eras.length) fun x _ => truY_len he4 k _
      rwa [List.length_range] at this
    have hyl : ys.length ≤ 100000 := by omega
    refine HAns_of Try.func47 rfl ?_
    simp +contextual (maxSteps := 1000000) (disch := first | omega | (with_reducible first | refine krN ?_ | refine krS ?_ | refine krP ?_ | refine krG ?_); kernel_rfl | refine kr ?_; simp only [go_sem, reduceCtorEq, hW1, reify_nils, hsv, hlt, List.length_map]; done | fail) only [go_sem, seval, -List.reduceReplicate, hW1, reify_nils, hsv, hlt, List.length_map]
    rw [List.append_nil] at hO hU
    generalize killHp k1 hp = h0 at hO hU ⊢
    refine wp_loop_to 8 (fun i st => ∃ (v : Vl) (h : Nat → Ob) (n' : Nat) (ex : List (Nat × Vl)), h 0 = U ∧ OutV h n' v (L ++ (List.range i).flatMap fun (i : Nat) => truY d k (ys ++ [(i : Int)])) ∧ nx ≤ n' ∧
      st = ({ sl := (3, v) :: (4, .loc (encD o1 o2 d)) :: (5, .loc (Sp 0 7)) :: (6, .loc (.agg [SL 1 (ys.map I) none, .nils])) :: (9, I i) :: ex, hp := h, nx := n' } : FS)) ?_ 0 (Nat.zero_le _) ⟨v, h0, nx, _, hU, by rw [List.range_zero, List.flatMap_nil, List.append_nil]; exact hO, Nat.le_refl _, rfl⟩
    clear hO hU hsv hW1 h0
    rintro i st hiN ⟨v, h, n', ex, hU, hO, hn', rfl⟩
    have hsv := hO.slot
    by_cases hc : i < 8
    · have hle : (i : Int) ≤ 7 := by omega
      have hcli := hcl i
      generalize hLi : L ++ (List.range i).flatMap (fun (i : Nat) => truY d k (ys ++ [(i : Int)])) = Li at hO
      have hLil : Li.length ≤ L.length + i * (8 ^ k * 5 ^ d.eras.length) := by rw [← hLi, List.length_append]; omega
      have hpw : i * (8 ^ k * 5 ^ d.eras.length) + 8 ^ k * 5 ^ d.eras.length ≤ 8 ^ (k + 1) * 5 ^ d.eras.length := by
        rw [Nat.pow_succ, Nat.mul_comm (8 ^ k) 8, Nat.mul_assoc, ← Nat.succ_mul]
        exact Nat.mul_le_mul_right _ (by omega)
      have hap : ∀ (x : Vl) (t : Bool), isAppend Try.prog 26 26 (.own n' ys.length) (.lst 1 [x] t) { lc := [], hp := upd h n' (.arr 1 (ys.map I)), nx := n' + 1 } = some (.own n' (ys.length + 1), { lc := [], hp := upd h n' (.arr 1 (ys.map I ++ [x])), nx := n' + 1 }) := fun x t => by
        rw [ap26b (xs := ys.map I) (upd_same _ _ _) (by rw [List.length_map]) (by omega)]
        simp only [upd_upd]
      simp +contextual (maxSteps := 1000000) (disch := first | omega | (with_reducible first | refine krN ?_ | refine krS ?_ | refine krP ?_ | refine krG ?_); kernel_rfl | refine kr ?_; simp only [go_sem, reduceCtorEq, hc, hsv, hle, wc59, hyl, hap]; done | fail) only [go_sem, seval, -List.reduceReplicate, hc, hsv, hle, wc59, hyl, hap]
      have g1 : reify (upd h n' (.arr 1 ((ys ++ [(i : Int)]).map I))) (.own n' (ys.length + 1)) = some (SL 1 ((ys ++ [(i : Int)]).map I) none, [n']) := by
        rw [SL_ne (by simp)]
        exact reify_flat (.inl (upd_same _ _ _)) (by rw [List.length_append]; rfl) fun _ => rfl
      have hO2 : OutV (killHp ([n'] ++ []) (upd h n' (.arr 1 ((ys ++ [(i : Int)]).map I)))) (n' + 1) v Li := hO.mono (fun j j0 jn => by rw [killHp_ne _ _ _ (by simp; omega), upd_ne _ _ (by omega)]) (by omega)
      have hU2 : killHp ([n'] ++ []) (upd h n' (.arr 1 ((ys ++ [(i : Int)]).map I))) 0 = U := by rw [killHp_ne _ _ _ (by simp; omega), upd_ne _ _ (by omega)]; exact hU
      refine wc_heap (by rfl) rfl (ih (ys := ys ++ [(i : Int)]) (by rw [List.length_append]; simp only [List.length_cons, List.length_nil]; omega) (fun y hy => ?_) g1 hO2 hU2 (by dsimp only; omega) (by omega)) ?_
      · rcases List.mem_append.1 hy with hy | hy
        · exact hyb y hy
        · rw [List.mem_singleton.1 hy]; omega
      rintro v2 hp2 nx2 ⟨c1, c2, c3⟩
      have hsv2 := c2.slot
      dsimp only at c3
      simp +contextual (maxSteps := 1000000) (disch := first | omega | (with_reducible first | refine krN ?_ | refine krS ?_ | refine krP ?_ | refine krG ?_); kernel_rfl | refine kr ?_; simp only [go_sem, reduceCtorEq, hc, hsv2]; done | fail) only [go_sem, seval, -List.reduceReplicate, hc, hsv2]
      exact ⟨v2, hp2, nx2, _, c1, by rw [List.flatMap_append, List.flatMap_singleton, ← List.append_assoc, hLi]; exact c2, by omega, rfl⟩
    · have hie : i = 8 := by omega
      subst hie
      simp +contextual (maxSteps := 1000000) (disch := first | omega | (with_reducible first | refine krN ?_ | refine krS ?_ | refine krP ?_ | refine krG ?_); kernel_rfl | refine kr ?_; simp only [go_sem, reduceCtorEq, hsv]; done | fail) only [go_sem, seval, -List.reduceReplicate, hsv]
      exact ⟨hU, hO, hn'⟩
end Go.Proofs
namespace Go.Proofs
open Go Go.Idl Go.Dt
set_option linter.unusedSimpArgs false
variable {b : Nat}
theorem rightB_iff {d : Dt} {n : Nt} (h : NtOk d n) {w : Nat → Int} {ys fs : List Int} (w0 : w 0 = 0) (hy : ∀ i : Nat, (i : Int) < d.stones → ys[i]! = w (1 + i)) (hf : ∀ j : Nat, j < d.eras.length → fs[j]! = w (7 + j)) : rightB n ys fs = true ↔ n.right w := by
  have hk := h.kind
  have hs := h.stone
  have hk4 : n.kind = 1 ∨ n.kind = 2 ∨ n.kind = 3 ∨ n.kind = 4 := by omega
  have hys := hy n.stone.toNat (by omega)
  unfold rightB Nt.right Wk.right Nt.wk
  rw [hys]
  rcases hk4 with e | e | e | e
  · rw [if_pos e, if_pos e]
    simp only [decide_eq_true_eq, List.mem_map]
    constructor
    · intro hm
      exact ⟨_, ⟨_, hm, rfl⟩, by dsimp only; omega, by dsimp only; omega⟩
    · rintro ⟨s, ⟨y, hm, rfl⟩, h1, h2⟩
      dsimp only at h1 h2
      have : w (1 + n.stone.toNat) = y := by omega
      rw [this]; exact hm
  · have e1 : ¬ n.kind = 1 := by omega
    have e3 : ¬ n.kind = 3 := by omega
    have e4 : ¬ n.kind = 4 := by omega
    rw [if_neg e1, if_pos e, if_neg e1, if_neg e3, if_neg e4]
    simp only [Bool.and_eq_true, decide_eq_true_eq, List.mem_singleton]
    constructor
    · intro hm
      exact ⟨_, rfl, by dsimp only; omega, by dsimp only; omega⟩
    · rintro ⟨s, rfl, h1, h2⟩
      dsimp only at h1 h2
      omega
  · have e1 : ¬ n.kind = 1 := by omega
    have e2 : ¬ n.kind = 2 := by omega
    have ho := h.era e
    have hfs := hf n.other.toNat (by omega)
    rw [if_neg e1, if_neg e2, if_pos e, if_neg e1, if_pos e, hfs]
    simp only [Bool.and_eq_true, decide_eq_true_eq, List.mem_singleton]
    constructor
    · intro hm
      exact ⟨_, rfl, by dsimp only; omega, by dsimp only; omega⟩
    · rintro ⟨s, rfl, h1, h2⟩
      dsimp only at h1 h2
      omega
  · have e1 : ¬ n.kind = 1 := by omega
    have e2 : ¬ n.kind = 2 := by omega
    have e3 : ¬ n.kind = 3 := by omega
    have ho := h.after e
    have hos := hy n.other.toNat (by omega)
    rw [if_neg e1, if_neg e2, if_neg e3, if_neg e1, if_neg e3, if_pos e, hos]
    simp only [Bool.and_eq_true, decide_eq_true_eq, List.mem_singleton]
    constructor
    · intro hm
      exact ⟨_, rfl, by dsimp only; omega, by dsimp only; omega⟩
    · rintro ⟨s, rfl, h1, h2⟩
      dsimp only at h1 h2
      omega
theorem get!_zero {α : Type} [Inhabited α] {x : α} {t : List α} : (x :: t)[0]! = x := by rw [get!_eq (by simp)]; rfl
theorem get!_succ {α : Type} [Inhabited α] {x : α} {t : List α} {j : Nat} : (x :: t)[j + 1]! = t[j]! := by
  rw [List.getElem!_eq_getElem?_getD, List.getElem!_eq_getElem?_getD, List.getElem?_cons_succ]
theorem mem_truF {d : Dt} {a c : List Int} : ∀ (r : List (Int × Int)) (ys fs : List Int), (a, c) ∈ truF d r ys fs ↔ a = ys ∧ ∃ t : List Int, c = fs ++ t ∧ t.length = r.length ∧ (∀ j, j < r.length → (r[j]!).1 ≤ t[j]! ∧ t[j]! ≤ (r[j]!).2) ∧ (d.notes.all fun n => rightB n ys c) = true
  | [], ys, fs => by
    unfold truF
    constructor
    · intro h
      split at h
      · rename_i hr
        have h := List.mem_singleton.1 h
        injection h with h1 h2
        subst h1 h2
        exact ⟨rfl, [], by simp, rfl, fun j h => by simp at h, hr⟩
      · cases h
    · rintro ⟨rfl, t, rfl, ht, _, hr⟩
      have : t = [] := List.length_eq_zero_iff.1 ht
      subst this
      rw [List.append_nil] at hr ⊢
      rw [if_pos hr]; exact List.mem_singleton.2 rfl
  | s :: r, ys, fs => by
    unfold truF
    rw [List.mem_flatMap]
    constructor
    · rintro ⟨i, hi, h⟩
      obtain ⟨h1, t, h2, h3, h4, h5⟩ := (mem_truF r ys _).1 h
      have hi := List.mem_range.1 hi
      refine ⟨h1, (s.1 + (i : Int)) :: t, by rw [h2, List.append_assoc]; rfl, by simp [h3], fun j hj => ?_, h5⟩
      cases j with
      | zero => rw [get!_zero, get!_zero]; omega
      | succ j => rw [get!_succ, get!_succ]; exact h4 j (by simpa using hj)
    · rintro ⟨h1, t, h2, h3, h4, h5⟩
      cases t with
      | nil => simp at h3
      | cons x t =>
        have hx := h4 0 (by simp)
        rw [get!_zero, get!_zero] at hx
        refine ⟨(x - s.1).toNat, List.mem_range.2 (by omega), (mem_truF r ys _).2 ⟨h1, t, ?_, by simpa using h3, fun j hj => ?_, h5⟩⟩
        · rw [h2, show s.1 + ((x - s.1).toNat : Int) = x by omega, List.append_assoc]; rfl
        · have := h4 (j + 1) (by simpa using hj)
          rwa [get!_succ, get!_succ] at this
theorem mem_truY {d : Dt} {a c : List Int} : ∀ (k : Nat) (ys : List Int), (a, c) ∈ truY d k ys ↔ ∃ t : List Int, a = ys ++ t ∧ t.length = k ∧ (∀ y ∈ t, 0 ≤ y ∧ y ≤ 7) ∧ (a, c) ∈ truF d d.eras a []
  | 0, ys => by
    unfold truY
    constructor
    · intro h
      have h1 := ((mem_truF _ _ _).1 h).1
      subst h1
      exact ⟨[], by simp, rfl, by simp, h⟩
    · rintro ⟨t, h1, h2, h3, h4⟩
      have : t = [] := List.length_eq_zero_iff.1 h2
      subst this
      rw [List.append_nil] at h1
      rw [← h1]; exact h4
  | k + 1, ys => by
    unfold truY
    rw [List.mem_flatMap]
    constructor
    · rintro ⟨i, hi, h⟩
      obtain ⟨t, h1, h2, h3, h4⟩ := (mem_truY k _).1 h
      have hi := List.mem_range.1 hi
      refine ⟨(i : Int) :: t, by rw [h1, List.append_assoc]; rfl, by simp [h2], fun y hy => ?_, h4⟩
      rcases List.mem_cons.1 hy with rfl | hy
      · omega
      · exact h3 y hy
    · rintro ⟨t, h1, h2, h3, h4⟩
      cases t with
      | nil => simp at h2
      | cons x t =>
        have hx := h3 x (List.mem_cons_self ..)
        refine ⟨x.toNat, List.mem_range.2 (by omega), (mem_truY k _).2 ⟨t, ?_, by simpa using h2, fun y hy => h3 y (List.mem_cons_of_mem _ hy), h4⟩⟩
        rw [h1, show ((x.toNat : Nat) : Int) = x by omega, List.append_assoc]; rfl
theorem all_fwd {d : Dt} (hd : DtOk d) {a c : List Int} (h : (a, c) ∈ truY d d.stones.toNat []) : a.length = d.stones.toNat ∧ c.length = d.eras.length ∧ (∀ y ∈ a, 0 ≤ y ∧ y ≤ 7) ∧ TrD d (wOf a c) := by
  have h6 := hd.stones
  obtain ⟨t, h1, h2, h3, h4⟩ := (mem_truY _ _).1 h
  rw [List.nil_append] at h1
  subst h1
  obtain ⟨_, t, h5, h6', h7, h8⟩ := (mem_truF _ _ _).1 h4
  rw [List.nil_append] at h5
  subst h5
  have hel := hd.eras_l
  have hcb : ∀ j, j < c.length → -3000 ≤ c[j]! ∧ c[j]! ≤ 3000 := fun j hj => by
    have := h7 j (by omega)
    have h9 := hd.eras _ (get!_mem (i := j) (by omega))
    unfold SpanOk at h9; omega
  refine ⟨h2, h6', h3, rfl, fun v hv => ?_, fun j hj => ?_, fun n hn => ?_⟩
  · by_cases e0 : v = 0
    · subst e0; exact ⟨(by decide : (-3000 : Int) ≤ 0), (by decide : (0 : Int) ≤ 3000)⟩
    · by_cases e7 : v < 7
      · obtain ⟨i, rfl⟩ : ∃ i, v = 1 + i := ⟨v - 1, by omega⟩
        rw [wOf_y (by omega)]
        by_cases hi : i < a.length
        · have := h3 _ (get!_mem hi); omega
        · rw [get!_none (by omega)]; omega
      · obtain ⟨i, rfl⟩ : ∃ i, v = 7 + i := ⟨v - 7, by omega⟩
        rw [wOf_f]
        by_cases hi : i < c.length
        · exact hcb i hi
        · rw [get!_none (by omega)]; omega
  · rw [wOf_f]; exact h7 j hj
  · have hr := List.all_eq_true.1 h8 n hn
    exact (rightB_iff (hd.notes n hn) (w := wOf a c) rfl (fun i hi => (wOf_y (by omega)).symm) (fun j hj => wOf_f.symm)).1 hr
theorem all_bwd {d : Dt} (hd : DtOk d) {w : Nat → Int} (hw : TrD d w) (hy : ∀ i : Nat, (i : Int) < d.stones → 0 ≤ w (1 + i) ∧ w (1 + i) ≤ 7) : ((List.range d.stones.toNat).map fun i => w (1 + i), (List.range d.eras.length).map fun j => w (7 + j)) ∈ truY d d.stones.toNat [] := by
  have h6 := hd.stones
  have gR : ∀ (f : Nat → Int) (n i : Nat), i < n → ((List.range n).map f)[i]! = f i := fun f n i hi => by
    rw [get!_eq (by rw [List.length_map, List.length_range]; exact hi), List.getElem_map, List.getElem_range]
  refine (mem_truY _ _).2 ⟨_, rfl, by rw [List.length_map, List.length_range], fun y hm => ?_, (mem_truF _ _ _).2 ⟨rfl, _, rfl, by rw [List.length_map, List.length_range], fun j hj => ?_, ?_⟩⟩
  · obtain ⟨i, hi, rfl⟩ := List.mem_map.1 hm
    have := List.mem_range.1 hi
    exact hy i (by omega)
  · rw [gR _ _ _ hj]; exact hw.eras j hj
  · rw [List.all_eq_true]
    intro n hn
    exact (rightB_iff (hd.notes n hn) hw.zero (fun i hi => gR _ _ _ (by omega)) (fun j hj => gR _ _ _ hj)).2 (hw.notes n hn)
end Go.Proofs
