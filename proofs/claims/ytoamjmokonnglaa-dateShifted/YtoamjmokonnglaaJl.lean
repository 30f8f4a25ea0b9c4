/- What functions of the given program do in the ideal machine (J18, J19), and the plain laws of what they answer; the conditions stand in each theorem. -/
import Derived.Test.YtoamjmokonnglaaJf
set_option linter.all false
set_option linter.unusedSectionVars false
set_option linter.unusedSimpArgs false
set_option linter.unusedVariables false
namespace Go.Proofs
open Go Go.Idl Go.Dt
set_option linter.unusedSimpArgs false
variable {b : Nat}
theorem newUrn_to {nx : Nat} {hp : Nat → Ob} {xs : List Int} {o : Option Bool} (hl : xs.length ≤ 9223372036854775807) : HAns Try.prog (AA b) 16 [SL 1 (xs.map I) o] hp nx (fun v hp' nx' => v = .bp nx 0 ∧ nx' = nx + 1 ∧ ∃ s, hp' = upd hp nx (urnO s)) := by
  refine HAns_of Try.func16 rfl ?_
  simp +contextual (maxSteps := 1000000) (disch := first | omega | (with_reducible first | refine krN ?_ | refine krS ?_ | refine krP ?_ | refine krG ?_); kernel_rfl | refine kr ?_; simp only [go_sem, reduceCtorEq, newBox]; done | fail) only [go_sem, seval, -List.reduceReplicate, newBox]
  refine wp_loop_to xs.length (fun i st => ∃ (s : Int × Int) (ex : List (Nat × Vl)), st = ({ sl := (0, SL 1 (xs.map I) o) :: (3, .bp nx 0) :: (4, I i) :: ex, hp := upd hp nx (urnO s), nx := nx + 1 } : FS)) ?_ 0 (Nat.zero_le _) ⟨(11400714819323198485, 14029467366897019727), _, rfl⟩
  rintro i st hi ⟨s, ex, rfl⟩
  by_cases hc : i < xs.length
  · have hwi : IntKind.wrap .i64 ((i : Int) + 1) = ((i + 1 : Nat) : Int) := by rw [wrap_i64 (by omega) (by omega)]; omega
    simp +contextual (maxSteps := 1000000) (disch := first | omega | (with_reducible first | refine krN ?_ | refine krS ?_ | refine krP ?_ | refine krG ?_); kernel_rfl | refine kr ?_; simp only [go_sem, reduceCtorEq, Int.ofNat_lt, hc, ix_map, upd_upd, hwi]; done | fail) only [go_sem, seval, -List.reduceReplicate, Int.ofNat_lt, hc, ix_map, upd_upd, hwi]
    exact ⟨(_, _), _, rfl⟩
  · have hie : i = xs.length := by omega
    subst hie
    simp +contextual (maxSteps := 1000000) (disch := first | omega | (with_reducible first | refine krN ?_ | refine krS ?_ | refine krP ?_ | refine krG ?_); kernel_rfl | refine kr ?_; simp only [go_sem, reduceCtorEq, Int.lt_irrefl]; done | fail) only [go_sem, seval, -List.reduceReplicate, Int.lt_irrefl]
    exact ⟨s, rfl⟩
def halL (s : Int × Int) (far : Int) : List Int := [0, upR s 4, upR (upS s 4) (w64 (far + 1))]
def halR (s : Int × Int) (far : Int) : Int := anyR (upS (upS s 4) (w64 (far + 1))) (halL s far)
def halS (s : Int × Int) (far : Int) : Int × Int := anyS (upS (upS s 4) (w64 (far + 1))) (halL s far)
theorem halR_b (s : Int × Int) {far : Int} (h0 : 0 ≤ far) (h1 : far ≤ 1000) : 0 ≤ halR s far ∧ halR s far ≤ max 3 far := by
  have hw : w64 (far + 1) = far + 1 := wrap_i64 (by omega) (by omega)
  have := anyR_mem (upS (upS s 4) (w64 (far + 1))) (l := halL s far) (by simp [halL]) (by simp [halL])
  have k1 := upR_b s (n := 4) (by omega)
  have k2 := upR_b (upS s 4) (n := w64 (far + 1)) (by rw [hw]; omega)
  unfold halR
  unfold halL at this ⊢
  simp only [List.mem_cons, List.not_mem_nil, or_false] at this
  rw [hw] at this k2 ⊢
  omega
def braLo (s : Int × Int) (n far : Int) : Int := max (-3000) (w64 (n - halR s far))
def braHi (s : Int × Int) (n far : Int) : Int := min 3000 (w64 (n + halR (halS s far) far))
theorem bracket_x {u nx : Nat} {hp : Nat → Ob} {n far : Int} (h : UrnOk u hp) : HAns Try.prog (AA b) 57 [.bp u 0, I n, I far] hp nx fun v h' n' => v = Sp (braLo (urnAt u hp) n far) (braHi (urnAt u hp) n far) ∧ h' = upd hp u (.box (.agg [U (halS (halS (urnAt u hp) far) far).1, U (halS (halS (urnAt u hp) far) far).2])) ∧ n' = nx := by
  refine HAns_of Try.func57 rfl ?_
  have hl : IntKind.wrap .i64 (far + 1) < 9223372036854775808 := w64_lt _
  simp +contextual (maxSteps := 1000000) (disch := first | omega | (with_reducible first | refine krN ?_ | refine krS ?_ | refine krP ?_ | refine krG ?_); kernel_rfl | refine kr ?_; simp only [go_sem, reduceCtorEq, h, hl]; done | fail) only [go_sem, seval, -List.reduceReplicate, h, hl]
  repeat' (first | exact trivial | rfl | apply And.intro)
section
variable {u : Nat} {m : Mem} {K : Vl → Mem → Prop}
theorem wc57 {n far : Int} (h : UrnOk u m.hp) : WC Try.prog (AA b) (.fn (.func 57) [] []) [.v (.bp u 0), .v (.int .i64 n), .v (.int .i64 far)] m K = K (Sp (braLo (urnAt u m.hp) n far) (braHi (urnAt u m.hp) n far)) { m with hp := upd m.hp u (.box (.agg [U (halS (halS (urnAt u m.hp) far) far).1, U (halS (halS (urnAt u m.hp) far) far).2])) } :=
  WC_heap (by simp only [mkAnn, K57]) rfl (bracket_x h)
end
attribute [go_sem] wc57
theorem bra_b (s : Int × Int) {n far : Int} (h0 : 0 ≤ far) (h1 : far ≤ 1000) (h2 : -1500 ≤ n) (h3 : n ≤ 1500) : -3000 ≤ braLo s n far ∧ braLo s n far ≤ n ∧ n ≤ braHi s n far ∧ braHi s n far ≤ 3000 ∧ n - max 3 far ≤ braLo s n far ∧ braHi s n far ≤ n + max 3 far := by
  have k1 := halR_b s h0 h1
  have k2 := halR_b (halS s far) h0 h1
  unfold braLo braHi w64
  rw [wrap_i64 (by omega) (by omega), wrap_i64 (by omega) (by omega)]
  omega
end Go.Proofs
namespace Go.Proofs
open Go Go.Idl Go.Dt
set_option linter.unusedSimpArgs false
variable {b : Nat}
structure DD where
  s : Int × Int
  es : List (Int × Int)
  ns : List Nt
  ys : List Int
  fs : List Int
def HPd (d : DD) (g : Nat → Ob) : Nat → Ob := fun i =>
  if i = 0 then urnO d.s else if i = 1 then .arr 2 (d.es.map encS) else if i = 2 then .arr 6 (d.ns.map encN)
  else if i = 3 then .arr 1 (d.ys.map I) else if i = 4 then .arr 1 (d.fs.map I) else g i
section
variable {d : DD} {g : Nat → Ob} {s : Int × Int} {es : List (Int × Int)} {ns : List Nt} {ys fs : List Int}
theorem UrnOk_HPd : UrnOk 0 (HPd d g) := rfl
theorem urnAt_HPd : urnAt 0 (HPd d g) = d.s := rfl
theorem HPd_s {x y : Int} : upd (HPd d g) 0 (.box (.agg [.int .u64 x, .int .u64 y])) = HPd { d with s := (x, y) } g := by
  funext i; by_cases h : i = 0 <;> simp [upd, HPd, h, urnO]
theorem HPd_es {l : List (Int × Int)} : upd (HPd d g) 1 (.arr 2 (l.map encS)) = HPd { d with es := l } g := by
  funext i; by_cases h : i = 1 <;> simp [upd, HPd, h]
theorem HPd_ns {l : List Nt} : upd (HPd d g) 2 (.arr 6 (l.map encN)) = HPd { d with ns := l } g := by
  funext i; by_cases h : i = 2 <;> simp [upd, HPd, h]
theorem HPd_ys {l : List Int} : upd (HPd d g) 3 (.arr 1 (l.map I)) = HPd { d with ys := l } g := by
  funext i; by_cases h : i = 3 <;> simp [upd, HPd, h]
theorem HPd_fs {l : List Int} : upd (HPd d g) 4 (.arr 1 (l.map I)) = HPd { d with fs := l } g := by
  funext i; by_cases h : i = 4 <;> simp [upd, HPd, h]
theorem HPd_g {i : Nat} {o : Ob} (h : 5 ≤ i) : upd (HPd d g) i o = HPd d (upd g i o) := by
  funext j
  by_cases e : j = i
  · subst e
    rw [upd_same]
    unfold HPd
    rw [if_neg (by omega), if_neg (by omega), if_neg (by omega), if_neg (by omega), if_neg (by omega), upd_same]
  · rw [upd_ne _ _ e]
    unfold HPd
    rw [upd_ne _ _ e]
theorem HPd_at {i : Nat} (h : 5 ≤ i) : HPd d g i = g i := by
  unfold HPd
  rw [if_neg (by omega), if_neg (by omega), if_neg (by omega), if_neg (by omega), if_neg (by omega)]
theorem HPd_new : upd (upd (upd (upd (upd noHeap 0 (.box (.agg [.int .u64 s.1, .int .u64 s.2]))) 1 (.arr 2 [])) 2 (.arr 6 [])) 3 (.arr 1 [])) 4 (.arr 1 []) = HPd ⟨s, [], [], [], []⟩ noHeap := by
  funext i
  unfold upd HPd
  by_cases h0 : i = 0
  · subst h0; rfl
  by_cases h1 : i = 1
  · subst h1; rfl
  by_cases h2 : i = 2
  · subst h2; rfl
  by_cases h3 : i = 3
  · subst h3; rfl
  by_cases h4 : i = 4
  · subst h4; rfl
  rw [if_neg h4, if_neg h3, if_neg h2, if_neg h1, if_neg h0, if_neg h0, if_neg h1, if_neg h2, if_neg h3, if_neg h4]
theorem snocI {xs : List Int} {a : Int} : xs.map I ++ [.int .i64 a] = (xs ++ [a]).map I := by simp
theorem snocS {xs : List (Int × Int)} {a c : Int} : xs.map encS ++ [.agg [.int .i64 a, .int .i64 c]] = (xs ++ [(a, c)]).map encS := by simp
end
theorem apd1 {lc : List (Nat × Vl)} {nx n : Nat} {v : Vl} {t : Bool} {s : Int × Int} {es : List (Int × Int)} {ns : List Nt} {ys fs : List Int} {g : Nat → Ob} (hn : es.length = n) (hs : n < 100000) : isAppend Try.prog 22 22 (.own 1 n) (.lst 2 [v] t) { lc := lc, hp := HPd ⟨s, es, ns, ys, fs⟩ g, nx := nx } = some (.own 1 (n + 1), { lc := lc, hp := upd (HPd ⟨s, es, ns, ys, fs⟩ g) 1 (.arr 2 (es.map encS ++ [v])), nx := nx }) :=
  app1_own (by rw [td22]) rfl (by rw [List.length_map]; exact hn) (grow_ok rfl rfl (by decide) (by decide) (by omega))
theorem apd2 {lc : List (Nat × Vl)} {nx n : Nat} {v : Vl} {t : Bool} {s : Int × Int} {es : List (Int × Int)} {ns : List Nt} {ys fs : List Int} {g : Nat → Ob} (hn : ns.length = n) (hs : n < 100000) : isAppend Try.prog 23 23 (.own 2 n) (.lst 6 [v] t) { lc := lc, hp := HPd ⟨s, es, ns, ys, fs⟩ g, nx := nx } = some (.own 2 (n + 1), { lc := lc, hp := upd (HPd ⟨s, es, ns, ys, fs⟩ g) 2 (.arr 6 (ns.map encN ++ [v])), nx := nx }) :=
  app1_own (by rw [td23]) rfl (by rw [List.length_map]; exact hn) (grow_ok rfl rfl (by decide) (by decide) (by omega))
theorem apd3 {lc : List (Nat × Vl)} {nx n : Nat} {v : Vl} {t : Bool} {s : Int × Int} {es : List (Int × Int)} {ns : List Nt} {ys fs : List Int} {g : Nat → Ob} (hn : ys.length = n) (hs : n < 100000) : isAppend Try.prog 26 26 (.own 3 n) (.lst 1 [v] t) { lc := lc, hp := HPd ⟨s, es, ns, ys, fs⟩ g, nx := nx } = some (.own 3 (n + 1), { lc := lc, hp := upd (HPd ⟨s, es, ns, ys, fs⟩ g) 3 (.arr 1 (ys.map I ++ [v])), nx := nx }) :=
  app1_own (by rw [td26]) rfl (by rw [List.length_map]; exact hn) (grow_ok rfl rfl (by decide) (by decide) (by omega))
theorem apd4 {lc : List (Nat × Vl)} {nx n : Nat} {v : Vl} {t : Bool} {s : Int × Int} {es : List (Int × Int)} {ns : List Nt} {ys fs : List Int} {g : Nat → Ob} (hn : fs.length = n) (hs : n < 100000) : isAppend Try.prog 26 26 (.own 4 n) (.lst 1 [v] t) { lc := lc, hp := HPd ⟨s, es, ns, ys, fs⟩ g, nx := nx } = some (.own 4 (n + 1), { lc := lc, hp := upd (HPd ⟨s, es, ns, ys, fs⟩ g) 4 (.arr 1 (fs.map I ++ [v])), nx := nx }) :=
  app1_own (by rw [td26]) rfl (by rw [List.length_map]; exact hn) (grow_ok rfl rfl (by decide) (by decide) (by omega))
section
variable {lc : List (Nat × Vl)} {nx n : Nat} {s : Int × Int} {es : List (Int × Int)} {ns : List Nt} {ys fs : List Int} {g : Nat → Ob}
theorem ixd3 {i : Int} (hn : ys.length = n) (h0 : 0 ≤ i) (hi : i < n) : indexAddrV (.slice 1 8 (.int .i64 0)) (.v (.own 3 n)) (.int .i64 i) { lc := lc, hp := HPd ⟨s, es, ns, ys, fs⟩ g, nx := nx } = some (.v (.ep 3 n i.toNat 0), { lc := lc, hp := HPd ⟨s, es, ns, ys, fs⟩ g, nx := nx }) := by
  subst hn
  exact indexAddr_own (xs := ys.map I) rfl (by simp) ⟨h0, hi⟩ (by decide)
theorem rdd3 {j : Nat} (hn : ys.length = n) (hj : j < n) : Mem.read { lc := lc, hp := HPd ⟨s, es, ns, ys, fs⟩ g, nx := nx } false 1 (.v (.ep 3 n j 0)) = some (.int .i64 ys[j]!) := by
  subst hn
  rw [mread_ep (xs := ys.map I) rfl (by simp) (x := I ys[j]!) (by simp [hj])]; rfl
theorem ixd4 {i : Int} (hn : fs.length = n) (h0 : 0 ≤ i) (hi : i < n) : indexAddrV (.slice 1 8 (.int .i64 0)) (.v (.own 4 n)) (.int .i64 i) { lc := lc, hp := HPd ⟨s, es, ns, ys, fs⟩ g, nx := nx } = some (.v (.ep 4 n i.toNat 0), { lc := lc, hp := HPd ⟨s, es, ns, ys, fs⟩ g, nx := nx }) := by
  subst hn
  exact indexAddr_own (xs := fs.map I) rfl (by simp) ⟨h0, hi⟩ (by decide)
theorem rdd4 {j : Nat} (hn : fs.length = n) (hj : j < n) : Mem.read { lc := lc, hp := HPd ⟨s, es, ns, ys, fs⟩ g, nx := nx } false 1 (.v (.ep 4 n j 0)) = some (.int .i64 fs[j]!) := by
  subst hn
  rw [mread_ep (xs := fs.map I) rfl (by simp) (x := I fs[j]!) (by simp [hj])]; rfl
theorem snocN0 {k st o lo hi : Int} : ns.map encN ++ [.agg [.int .i64 k, .int .i64 st, .int .i64 o, .nils, .int .i64 lo, .int .i64 hi]] = (ns ++ [(⟨k, st, o, lo, hi, [], none⟩ : Nt)]).map encN := by
  rw [List.map_append]; rfl
theorem snocN1 {k st o lo hi : Int} {xs : List Int} : ns.map encN ++ [.agg [.int .i64 k, .int .i64 st, .int .i64 o, .lst 1 (xs.map I) false, .int .i64 lo, .int .i64 hi]] = (ns ++ [(⟨k, st, o, lo, hi, xs, some false⟩ : Nt)]).map encN := by
  rw [List.map_append]; rfl
end
attribute [go_sem] ixd3 rdd3 ixd4 rdd4 snocN0 snocN1
attribute [go_sem] UrnOk_HPd urnAt_HPd HPd_s HPd_es HPd_ns HPd_ys HPd_fs HPd_new apd1 apd2 apd3 apd4 snocI snocS prod_eta
@[reducible] def vD (st : Int) (a c : Nat) : Vl := .agg [I st, .own 1 a, .own 2 c]
@[reducible] def vW (a c : Nat) : Vl := .agg [.own 3 a, .own 4 c]
structure NMade (S : Int) (es : List (Int × Int)) (ys fs : List Int) (n : Nt) : Prop where
  ok : NtOk ⟨S, es, []⟩ n
  t1 : n.kind = 1 → ys[n.stone.toNat]! ∈ n.ys
  t2 : n.kind = 2 → n.lo ≤ ys[n.stone.toNat]! ∧ ys[n.stone.toNat]! ≤ n.hi
  t3 : n.kind = 3 → n.lo ≤ ys[n.stone.toNat]! - fs[n.other.toNat]! + 1 ∧ ys[n.stone.toNat]! - fs[n.other.toNat]! + 1 ≤ n.hi
  t4 : n.kind = 4 → n.lo ≤ ys[n.stone.toNat]! - ys[n.other.toNat]! ∧ ys[n.stone.toNat]! - ys[n.other.toNat]! ≤ n.hi
  bnd : -2000 ≤ n.lo ∧ n.hi ≤ 2000 ∧ ∀ y ∈ n.ys, -2000 ≤ y ∧ y ≤ 2000
structure Made (S N far : Int) (base : Int) (st : Int) (es : List (Int × Int)) (ns : List Nt) (ys fs : List Int) : Prop where
  st_b : 1 ≤ st ∧ st ≤ S
  ys_l : (ys.length : Int) = st
  bs : -400 ≤ base ∧ base ≤ 200
  ys_b : ∀ y ∈ ys, base ≤ y ∧ y ≤ base + 2 * far
  fs_l : fs.length = es.length
  es_l : es.length ≤ 2
  fs_b : ∀ f ∈ fs, base - 60 ≤ f ∧ f ≤ base
  es_ok : ∀ s ∈ es, SpanOk s.1 s.2
  es_b : ∀ s ∈ es, -2000 ≤ s.1 ∧ s.2 ≤ 2000
  es_t : ∀ j, j < es.length → (es[j]!).1 ≤ fs[j]! ∧ fs[j]! ≤ (es[j]!).2
  ns_l : (ns.length : Int) ≤ N
  ns_ok : ∀ n ∈ ns, NMade st es ys fs n
theorem NMade.mk2 {S : Int} {es : List (Int × Int)} {ys fs : List Int} {a lo hi : Int} (h0 : 0 ≤ a ∧ a < S) (h1 : SpanOk lo hi) (h2 : lo ≤ ys[a.toNat]! ∧ ys[a.toNat]! ≤ hi) (hb : -2000 ≤ lo ∧ hi ≤ 2000) : NMade S es ys fs ⟨2, a, 0, lo, hi, [], none⟩ where
  ok := { kind := ⟨(by decide : (1 : Int) ≤ 2), (by decide : (2 : Int) ≤ 4)⟩, stone := h0, years := fun h => absurd h (by decide : (2 : Int) ≠ 1), span := fun _ => ⟨rfl, h1⟩, plain := fun _ => rfl, era := fun h => absurd h (by decide : (2 : Int) ≠ 3), after := fun h => absurd h (by decide : (2 : Int) ≠ 4) }
  bnd := ⟨hb.1, hb.2, fun y hy => by cases hy⟩
  t1 := fun h => absurd h (by decide : (2 : Int) ≠ 1)
  t2 := fun _ => h2
  t3 := fun h => absurd h (by decide : (2 : Int) ≠ 3)
  t4 := fun h => absurd h (by decide : (2 : Int) ≠ 4)
theorem NMade.mk3 {S : Int} {es : List (Int × Int)} {ys fs : List Int} {a o lo hi : Int} (h0 : 0 ≤ a ∧ a < S) (ho : 0 ≤ o ∧ o < es.length) (h1 : SpanOk lo hi) (hl : 1 ≤ lo) (h2 : lo ≤ ys[a.toNat]! - fs[o.toNat]! + 1 ∧ ys[a.toNat]! - fs[o.toNat]! + 1 ≤ hi) (hb : -2000 ≤ lo ∧ hi ≤ 2000) : NMade S es ys fs ⟨3, a, o, lo, hi, [], none⟩ where
  ok := { kind := ⟨(by decide : (1 : Int) ≤ 3), (by decide : (3 : Int) ≤ 4)⟩, stone := h0, years := fun h => absurd h (by decide : (3 : Int) ≠ 1), span := fun _ => ⟨rfl, h1⟩, plain := fun h => absurd h (by decide : (3 : Int) ≠ 2), era := fun _ => ⟨ho.1, ho.2, hl⟩, after := fun h => absurd h (by decide : (3 : Int) ≠ 4) }
  bnd := ⟨hb.1, hb.2, fun y hy => by cases hy⟩
  t1 := fun h => absurd h (by decide : (3 : Int) ≠ 1)
  t2 := fun h => absurd h (by decide : (3 : Int) ≠ 2)
  t3 := fun _ => h2
  t4 := fun h => absurd h (by decide : (3 : Int) ≠ 4)
theorem NMade.mk4 {S : Int} {es : List (Int × Int)} {ys fs : List Int} {a o lo hi : Int} (h0 : 0 ≤ a ∧ a < S) (ho : 0 ≤ o ∧ o < S ∧ o ≠ a) (h1 : SpanOk lo hi) (h2 : lo ≤ ys[a.toNat]! - ys[o.toNat]! ∧ ys[a.toNat]! - ys[o.toNat]! ≤ hi) (hb : -2000 ≤ lo ∧ hi ≤ 2000) : NMade S es ys fs ⟨4, a, o, lo, hi, [], none⟩ where
  ok := { kind := ⟨(by decide : (1 : Int) ≤ 4), (by decide : (4 : Int) ≤ 4)⟩, stone := h0, years := fun h => absurd h (by decide : (4 : Int) ≠ 1), span := fun _ => ⟨rfl, h1⟩, plain := fun h => absurd h (by decide : (4 : Int) ≠ 2), era := fun h => absurd h (by decide : (4 : Int) ≠ 3), after := fun _ => ho }
  bnd := ⟨hb.1, hb.2, fun y hy => by cases hy⟩
  t1 := fun h => absurd h (by decide : (4 : Int) ≠ 1)
  t2 := fun h => absurd h (by decide : (4 : Int) ≠ 2)
  t3 := fun h => absurd h (by decide : (4 : Int) ≠ 3)
  t4 := fun _ => h2
theorem NMade.mk1 {S : Int} {es : List (Int × Int)} {ys fs : List Int} {a : Int} {xs : List Int} {o : Option Bool} (h0 : 0 ≤ a ∧ a < S) (h1 : 1 ≤ xs.length ∧ xs.length ≤ 3) (h2 : ∀ y ∈ xs, -2000 ≤ y ∧ y ≤ 2000) (h3 : ∀ i, 0 < i → i < xs.length → xs[i - 1]! < xs[i]!) (h4 : ys[a.toNat]! ∈ xs) : NMade S es ys fs ⟨1, a, 0, 0, 0, xs, o⟩ where
  ok := { kind := ⟨(by decide : (1 : Int) ≤ 1), (by decide : (1 : Int) ≤ 4)⟩, stone := h0, years := fun _ => ⟨rfl, rfl, rfl, h1.1, h1.2, fun y hy => by have := h2 y hy; omega, h3⟩, span := fun h => absurd rfl h, plain := fun h => absurd h (by decide : (1 : Int) ≠ 2), era := fun h => absurd h (by decide : (1 : Int) ≠ 3), after := fun h => absurd h (by decide : (1 : Int) ≠ 4) }
  bnd := ⟨(by decide : (-2000 : Int) ≤ 0), (by decide : (0 : Int) ≤ 2000), h2⟩
  t1 := fun _ => h4
  t2 := fun h => absurd h (by decide : (1 : Int) ≠ 2)
  t3 := fun h => absurd h (by decide : (1 : Int) ≠ 3)
  t4 := fun h => absurd h (by decide : (1 : Int) ≠ 4)
theorem mem_snoc {ns : List Nt} {t : Nt} {P : Nt → Prop} (h : ∀ x ∈ ns, P x) (ht : P t) : ∀ x ∈ ns ++ [t], P x := fun x hx => by
  rcases List.mem_append.1 hx with hx | hx
  · exact h x hx
  · rw [List.mem_singleton.1 hx]; exact ht
theorem ap26b {m : Mem} {id n : Nat} {xs : List Vl} {x : Vl} {o : Bool} (ho : m.hp id = .arr 1 xs) (hn : xs.length = n) (hs : n < 100000) : isAppend Try.prog 26 26 (.own id n) (.lst 1 [x] o) m = some (.own id (n + 1), { m with hp := upd m.hp id (.arr 1 (xs ++ [x])) }) :=
  app1_own (by rw [td26]) ho hn (grow_ok rfl rfl (by decide) (by decide) (by omega))
set_option maxRecDepth 10000 in
set_option maxHeartbeats 4000000 in
theorem datingOf_to {s : Int × Int} {S N far : Int} (hS : 1 ≤ S ∧ S ≤ 6) (hN : 0 ≤ N ∧ N ≤ 8) (hf : 3 ≤ far ∧ far ≤ 60) :
    HAns Try.prog (AA b) 17 [.bp 0 0, I S, I N, I far] (upd noHeap 0 (urnO s)) 1 (fun v hp' nx' => ∃ s base st es ns ys fs g, Made S N far base st es ns ys fs ∧ v = .tup [vD st es.length ns.length, vW ys.length fs.length] ∧ hp' = HPd ⟨s, es, ns, ys, fs⟩ g ∧ 5 ≤ nx') := by
  refine HAns_of Try.func17 rfl ?_
  have l1 := fromR_b s (lo := 1) (hi := S) (by omega) (by omega) (by omega) (by omega)
  have l2 := fromR_b (fromS s 1 S) (lo := -400) (hi := 200) (by omega) (by omega) (by omega) (by omega)
  simp +contextual (maxSteps := 1000000) (disch := first | omega | (with_reducible first | refine krN ?_ | refine krS ?_ | refine krP ?_ | refine krG ?_); kernel_rfl | refine kr ?_; simp only [go_sem, reduceCtorEq, newBox]; done | fail) only [go_sem, seval, -List.reduceReplicate, newBox]
  generalize fromR (fromS s 1 S) (-400) 200 = base at l2 ⊢
  generalize fromS (fromS s 1 S) (-400) 200 = s1
  generalize fromR s 1 S = st at l1 ⊢
  obtain ⟨S', rfl⟩ := Int.eq_ofNat_of_zero_le (show 0 ≤ st by omega)
  refine wp_loop_to S' (fun i st => ∃ (s : Int × Int) (ys : List Int) (ex : List (Nat × Vl)), ys.length = i ∧ (∀ y ∈ ys, base ≤ y ∧ y ≤ base + 2 * far) ∧ st = ({ sl := (0, .bp 0 0) :: (2, I N) :: (3, I far) :: (8, .loc (.agg [I 0, .nils, .nils])) :: (9, .loc (.agg [.nils, .nils])) :: (10, .loc (vD S' 0 0)) :: (11, .loc (vW i 0)) :: (12, I base) :: (13, I i) :: ex, hp := HPd ⟨s, [], [], ys, []⟩ noHeap, nx := 5 } : FS)) ?_ 0 (Nat.zero_le _) ⟨s1, [], _, rfl, by simp, rfl⟩
  rintro i st hi ⟨s, ys, ex, hl, hy, rfl⟩
  by_cases hc : i < S'
  · have k1 := upR_b s (n := 2 * far + 1) (by omega)
    simp +contextual (maxSteps := 1000000) (disch := first | omega | (with_reducible first | refine krN ?_ | refine krS ?_ | refine krP ?_ | refine krG ?_); kernel_rfl | refine kr ?_; simp only [go_sem, reduceCtorEq, Int.ofNat_lt, hc, hl]; done | fail) only [go_sem, seval, -List.reduceReplicate, Int.ofNat_lt, hc, hl]
    refine ⟨_, _, _, ?_, ?_, rfl⟩
    · rw [List.length_append, hl]; rfl
    · intro y h
      rcases List.mem_append.1 h with h | h
      · exact hy y h
      · rw [List.mem_singleton.1 h]; omega
  have hie : i = S' := by omega
  subst hie
  clear hi hc s1
  have a1 := upR_b s (n := 3) (by omega)
  simp +contextual (maxSteps := 1000000) (disch := first | omega | (with_reducible first | refine krN ?_ | refine krS ?_ | refine krP ?_ | refine krG ?_); kernel_rfl | refine kr ?_; simp only [go_sem, reduceCtorEq, Int.lt_irrefl]; done | fail) only [go_sem, seval, -List.reduceReplicate, Int.lt_irrefl]
  generalize upR s 3 = n0 at a1 ⊢
  generalize upS s 3 = s1
  clear s ex
  obtain ⟨i0, rfl⟩ := Int.eq_ofNat_of_zero_le a1.1
  refine wp_loop_I (fun (i : Nat) st => ∃ (s : Int × Int) (es : List (Int × Int)) (fs : List Int) (n : Nat) (ex : List (Nat × Vl)), es.length = n ∧ fs.length = n ∧ n + i ≤ 2 ∧ (∀ f ∈ fs, base - 60 ≤ f ∧ f ≤ base) ∧ (∀ s ∈ es, SpanOk s.1 s.2 ∧ -2000 ≤ s.1 ∧ s.2 ≤ 2000) ∧ (∀ j, j < n → (es[j]!).1 ≤ fs[j]! ∧ fs[j]! ≤ (es[j]!).2) ∧
    st = ({ sl := (0, .bp 0 0) :: (2, I N) :: (3, I far) :: (8, .loc (.agg [I 0, .nils, .nils])) :: (9, .loc (.agg [.nils, .nils])) :: (10, .loc (vD ys.length n 0)) :: (11, .loc (vW ys.length n)) :: (12, I base) :: (14, I i) :: ex, hp := HPd ⟨s, es, [], ys, fs⟩ noHeap, nx := 5 } : FS)) (fun i => i) ?_ i0
    ⟨s1, [], [], 0, _, rfl, rfl, by omega, by simp, by simp, fun j hj => by omega, by rw [hl]⟩
  clear a1 s1 i0
  rintro j st ⟨s, es, fs, n, ex, e1, e2, e3, e4, e5, e6, rfl⟩
  have a1 := upR_b s (n := 60) (by omega)
  have a2 := bra_b (upS s 60) (n := base - upR s 60) (far := far) (by omega) (by omega) (by omega) (by omega)
  have hw : IntKind.wrap .i64 (base - upR s 60) = base - upR s 60 := wrap_i64 (by omega) (by omega)
  simp +contextual (maxSteps := 1000000) (disch := first | omega | (with_reducible first | refine krN ?_ | refine krS ?_ | refine krP ?_ | refine krG ?_); kernel_rfl | refine kr ?_; simp only [go_sem, reduceCtorEq, e1, e2, hw]; done | fail) only [go_sem, seval, -List.reduceReplicate, e1, e2, hw]
  refine WI_of (fun hc => ?_) (fun hc => ?_)
  · refine ⟨j - 1, ⟨_, es ++ [(braLo (upS s 60) (base - upR s 60) far, braHi (upS s 60) (base - upR s 60) far)], fs ++ [base - upR s 60], n + 1, _, ?_, ?_, ?_, ?_, ?_, ?_, rfl⟩, by omega⟩
    · simp [e1]
    · simp [e2]
    · omega
    · intro f h
      rcases List.mem_append.1 h with h | h
      · exact e4 f h
      · rw [List.mem_singleton.1 h]; omega
    · intro f h
      rcases List.mem_append.1 h with h | h
      · exact e5 f h
      · rw [List.mem_singleton.1 h]; unfold SpanOk; simp only; omega
    · intro k hk
      by_cases h : k < n
      · rw [get!_snoc_lt (by omega), get!_snoc_lt (by omega)]; exact e6 k h
      · have h : k = n := by omega
        subst h
        rw [get!_snoc_eq e1, get!_snoc_eq e2]; exact ⟨a2.2.1, a2.2.2.1⟩
  have hj0 : j = 0 := by omega
  subst hj0
  clear a1 a2 hw hc
  have a1 := upR_b s (n := N + 1) (by omega)
  generalize upR s (N + 1) = n0 at a1 ⊢
  generalize upS s (N + 1) = s1
  clear s ex
  obtain ⟨i0, rfl⟩ := Int.eq_ofNat_of_zero_le a1.1
  have hY : ∀ j, j < ys.length → base ≤ ys[j]! ∧ ys[j]! ≤ base + 2 * far := fun j hj => hy _ (get!_mem hj)
  have hF : ∀ j, j < n → base - 60 ≤ fs[j]! ∧ fs[j]! ≤ base := fun j hj => e4 _ (get!_mem (by omega))
  obtain ⟨L, hL⟩ : ∃ L, ys.length = L := ⟨_, rfl⟩
  rw [hL] at hY ⊢
  refine wp_loop_I (fun (i : Nat) st => ∃ (s : Int × Int) (ns : List Nt) (m : Nat) (g : Nat → Ob) (nx : Nat) (ex : List (Nat × Vl)), ns.length = m ∧ (m : Int) + i ≤ N ∧ 5 ≤ nx ∧ (∀ t ∈ ns, NMade L es ys fs t) ∧
    st = ({ sl := (0, .bp 0 0) :: (3, I far) :: (8, .loc (.agg [I 0, .nils, .nils])) :: (9, .loc (.agg [.nils, .nils])) :: (10, .loc (vD L n m)) :: (11, .loc (vW L n)) :: (16, I i) :: ex, hp := HPd ⟨s, es, ns, ys, fs⟩ g, nx := nx } : FS)) (fun i => i) ?_ i0
    ⟨s1, [], 0, noHeap, 5, _, rfl, by omega, by omega, by simp, rfl⟩
  clear a1 s1 i0
  rintro j st ⟨s, ns, m, g, nx, ex, m1, m2, m3, m4, rfl⟩
  by_cases hj : 0 < (j : Int)
  case neg =>
    simp +contextual (maxSteps := 1000000) (disch := first | omega | (with_reducible first | refine krN ?_ | refine krS ?_ | refine krP ?_ | refine krG ?_); kernel_rfl | refine kr ?_; simp only [go_sem, reduceCtorEq, hj]; done | fail) only [go_sem, seval, -List.reduceReplicate, hj]
    exact ⟨s, base, L, es, ns, ys, fs, g, ⟨by omega, by omega, by omega, hy, by omega, by omega, e4, fun s hs => (e5 s hs).1, fun s hs => (e5 s hs).2, fun k hk => e6 k (by omega), by omega, m4⟩, by rw [e1, e2, m1, hL], rfl, m3⟩
  have a1 := upR_b s (n := L) (by omega)
  have a2 := upR_b (upS s L) (n := L) (by omega)
  have hwj : IntKind.wrap .i64 ((j : Int) - 1) = ((j - 1 : Nat) : Int) := by rw [wrap_i64 (by omega) (by omega)]; omega
  generalize hA : upR s L = a at a1
  generalize hC : upR (upS s L) L = c at a2
  generalize hs2 : upS (upS s L) L = s2
  have a3 := fromR_b s2 (lo := 1) (hi := 4) (by omega) (by omega) (by omega) (by omega)
  generalize hK : fromR s2 1 4 = k at a3
  generalize hs3 : fromS s2 1 4 = s3
  have hya := hY a.toNat (by omega)
  have hyc := hY c.toNat (by omega)
  generalize hyr : ys[a.toNat]! = year at hya
  have hk4 : k = 1 ∨ k = 2 ∨ k = 3 ∨ k = 4 := by omega
  /- the next state, once a note is made -/
  rcases hk4 with rfl | rfl | rfl | rfl
  · simp +contextual (maxSteps := 1000000) (disch := first | omega | (with_reducible first | refine krN ?_ | refine krS ?_ | refine krP ?_ | refine krG ?_); kernel_rfl | refine kr ?_; simp only [go_sem, reduceCtorEq, hj, hA, hC, hs2, hK, hs3, hL, hyr]; done | fail) only [go_sem, seval, -List.reduceReplicate, hj, hA, hC, hs2, hK, hs3, hL, hyr]
    have a4 := upR_b s3 (n := 3) (by omega)
    generalize upR s3 3 = at0 at a4 ⊢
    generalize upS s3 3 = s4
    refine wp_loop_to 3 (fun q st => ∃ (s : Int × Int) (xs : List Int) (ex : List (Nat × Vl)), xs.length ≤ q ∧ (∀ x ∈ xs, -2000 ≤ x ∧ x ≤ 2000) ∧ (∀ i, 0 < i → i < xs.length → xs[i - 1]! < xs[i]!) ∧ (q ≤ at0 → ∀ x ∈ xs, x < year) ∧ (at0 < q → year ∈ xs) ∧
      st = ({ sl := (0, .bp 0 0) :: (3, I far) :: (8, .loc (.agg [I 0, .nils, .nils])) :: (9, .loc (.agg [.nils, .nils])) :: (10, .loc (vD L n m)) :: (11, .loc (vW L n)) :: (16, I j) :: (19, I year) :: (20, .loc (.agg [I 1, I a, I 0, .own nx xs.length, I 0, I 0])) :: (21, I at0) :: (22, I q) :: ex, hp := HPd ⟨s, es, ns, ys, fs⟩ (upd g nx (.arr 1 (xs.map I))), nx := nx + 1 } : FS)) ?_ 0 (Nat.zero_le _) ⟨s4, [], _, Nat.le_refl _, by simp, fun i h1 h2 => by simp at h2, by simp, fun h => by omega, by rw [← HPd_g m3]; rfl⟩
    clear s4
    rintro q st hq ⟨s, xs, ex, x1, x2, x3, x4, x5, rfl⟩
    by_cases hq3 : q < 3
    case neg =>
      have hq3' : ¬ (q : Int) < 3 := by omega
      have hq : q = 3 := by omega
      subst hq
      have hin := x5 (by omega)
      have hrf : reify (HPd ⟨s, es, ns, ys, fs⟩ (upd g nx (.arr 1 (xs.map I)))) (.own nx xs.length) = some (.lst 1 (xs.map I) false, [nx]) := reify_flat (.inl ((HPd_at m3).trans (upd_same _ _ _))) rfl fun _ => rfl
      have hkl : killHp [nx] (HPd ⟨s, es, ns, ys, fs⟩ (upd g nx (.arr 1 (xs.map I)))) = HPd ⟨s, es, ns, ys, fs⟩ (upd (upd g nx (.arr 1 (xs.map I))) nx (froOb (HPd ⟨s, es, ns, ys, fs⟩ (upd g nx (.arr 1 (xs.map I))) nx))) := by rw [killHp_one, HPd_g m3]
      have hx1 : 1 ≤ xs.length := List.length_pos_of_mem hin
      simp +contextual (maxSteps := 1000000) (disch := first | omega | (with_reducible first | refine krN ?_ | refine krS ?_ | refine krP ?_ | refine krG ?_); kernel_rfl | refine kr ?_; simp only [go_sem, reduceCtorEq, hq3', hrf, hkl]; done | fail) only [go_sem, seval, -List.reduceReplicate, hq3', hrf, hkl]
      exact ⟨j - 1, ⟨_, _, m + 1, _, nx + 1, _, by simp [m1], by omega, by omega, mem_snoc m4 (NMade.mk1 (by omega) ⟨hx1, x1⟩ x2 x3 (by rw [hyr]; exact hin)), rfl⟩, by omega⟩
    have hq3' : (q : Int) < 3 := by omega
    have hwf : IntKind.wrap .i64 (far + 1) = far + 1 := wrap_i64 (by omega) (by omega)
    have a5 := fromR_b s (lo := 1) (hi := far + 1) (by omega) (by omega) (by omega) (by omega)
    generalize hR : fromR s 1 (far + 1) = r at a5
    generalize hs5 : fromS s 1 (far + 1) = s5
    have hw1 : IntKind.wrap .i64 ((q : Int) - at0) = (q : Int) - at0 := wrap_i64 (by omega) (by omega)
    have hpb : -200 ≤ ((q : Int) - at0) * r ∧ ((q : Int) - at0) * r ≤ 200 ∧ ((q : Int) = at0 → ((q : Int) - at0) * r = 0) := by
      have : (q : Int) - at0 = -2 ∨ (q : Int) - at0 = -1 ∨ (q : Int) - at0 = 0 ∨ (q : Int) - at0 = 1 ∨ (q : Int) - at0 = 2 := by omega
      rcases this with e | e | e | e | e <;> rw [e] <;> refine ⟨by omega, by omega, fun h => by omega⟩
    have hw2 : IntKind.wrap .i64 (((q : Int) - at0) * r) = ((q : Int) - at0) * r := wrap_i64 (by omega) (by omega)
    generalize hp : ((q : Int) - at0) * r = p at hpb hw2
    have hw3 : IntKind.wrap .i64 (year + p) = year + p := wrap_i64 (by omega) (by omega)
    have hxl : xs.length < 100000 := by omega
    have hap : ∀ (s' : Int × Int) (lc : List (Nat × Vl)) (t : Bool) (x : Int) (nn : Nat), isAppend Try.prog 26 26 (.own nx xs.length) (.lst 1 [.int .i64 x] t) { lc := lc, hp := HPd ⟨s', es, ns, ys, fs⟩ (upd g nx (.arr 1 (xs.map I))), nx := nn } = some (.own nx (xs.length + 1), { lc := lc, hp := HPd ⟨s', es, ns, ys, fs⟩ (upd g nx (.arr 1 ((xs ++ [x]).map I))), nx := nn }) := fun s' lc t x nn => by
      rw [ap26b ((HPd_at m3).trans (upd_same _ _ _)) (by simp) hxl]
      rw [HPd_g m3, upd_upd, List.map_append]; rfl
    have hnb : ∀ i, 0 < i → i < (xs ++ [year + p]).length → (xs ≠ [] → xs[xs.length - 1]! < year + p) → (xs ++ [year + p])[i - 1]! < (xs ++ [year + p])[i]! := fun i h1 h2 h3 => by
      rw [List.length_append] at h2
      simp only [List.length_cons, List.length_nil] at h2
      by_cases h : i < xs.length
      · rw [get!_snoc_lt (by omega), get!_snoc_lt h]; exact x3 i h1 h
      · have h : i = xs.length := by omega
        subst h
        rw [get!_snoc_lt (by omega), get!_snoc_eq rfl]
        exact h3 (by intro e; rw [e] at h1; simp at h1)
    have hbd : ∀ x ∈ xs ++ [year + p], -2000 ≤ x ∧ x ≤ 2000 := fun x hx => by
      rcases List.mem_append.1 hx with hx | hx
      · exact x2 x hx
      · rw [List.mem_singleton.1 hx]; omega
    by_cases hqa : (q : Int) = at0
    · have hp0 := hpb.2.2 hqa
      obtain rfl : at0 = (q : Int) := hqa.symm
      simp +contextual (maxSteps := 1000000) (disch := first | omega | (with_reducible first | refine krN ?_ | refine krS ?_ | refine krP ?_ | refine krG ?_); kernel_rfl | refine kr ?_; simp only [go_sem, reduceCtorEq, hq3, hq3', hwf, hR, hs5, hw1, hp, hw2, hw3, hap]; done | fail) only [go_sem, seval, -List.reduceReplicate, hq3, hq3', hwf, hR, hs5, hw1, hp, hw2, hw3, hap]
      exact ⟨_, xs ++ [year + p], _, by simp; omega, hbd, fun i h1 h2 => hnb i h1 h2 (fun h => by have := x4 (by omega) _ (get!_mem (i := xs.length - 1) (by have := List.length_pos_iff.2 h; omega)); omega), fun h => by omega, fun _ => by rw [hp0, Int.add_zero]; simp, by rw [List.length_append]; rfl⟩
    have hno : ∃ (s' : Int × Int), True := ⟨s, trivial⟩
    clear hno
    cases hod : oddsR s5 1 2 with
    | false =>
      simp +contextual (maxSteps := 1000000) (disch := first | omega | (with_reducible first | refine krN ?_ | refine krS ?_ | refine krP ?_ | refine krG ?_); kernel_rfl | refine kr ?_; simp only [go_sem, reduceCtorEq, hq3, hq3', hwf, hR, hs5, hw1, hp, hw2, hw3, hqa, hod]; done | fail) only [go_sem, seval, -List.reduceReplicate, hq3, hq3', hwf, hR, hs5, hw1, hp, hw2, hw3, hqa, hod]
      exact ⟨_, xs, _, by omega, x2, x3, fun h => x4 (by omega), fun h => x5 (by omega), rfl⟩
    | true =>
      have hfin : (xs ≠ [] → xs[xs.length - 1]! < year + p) → (at0 < q ∨ year + p < year) → (xs ++ [year + p]).length ≤ q + 1 ∧ (∀ i, 0 < i → i < (xs ++ [year + p]).length → (xs ++ [year + p])[i - 1]! < (xs ++ [year + p])[i]!) ∧ (((q + 1 : Nat) : Int) ≤ at0 → ∀ x ∈ xs ++ [year + p], x < year) ∧ (at0 < ((q + 1 : Nat) : Int) → year ∈ xs ++ [year + p]) := fun h1 h2 => by
        refine ⟨by simp; omega, fun i k1 k2 => hnb i k1 k2 h1, fun h x hx => ?_, fun h => List.mem_append_left _ (x5 (by omega))⟩
        rcases List.mem_append.1 hx with hx | hx
        · exact x4 (by omega) x hx
        · rw [List.mem_singleton.1 hx]; omega
      by_cases hx0 : xs = []
      · have hl0 : ((xs.length : Int) = 0) = True := by rw [hx0]; simp
        by_cases hk : at0 < q
        · obtain ⟨f1, f2, f3, f4⟩ := hfin (fun h => absurd hx0 h) (.inl hk)
          simp +contextual (maxSteps := 1000000) (disch := first | omega | (with_reducible first | refine krN ?_ | refine krS ?_ | refine krP ?_ | refine krG ?_); kernel_rfl | refine kr ?_; simp only [go_sem, reduceCtorEq, hq3, hq3', hwf, hR, hs5, hw1, hp, hw2, hw3, hqa, hod, hk, hap, hl0]; done | fail) only [go_sem, seval, -List.reduceReplicate, hq3, hq3', hwf, hR, hs5, hw1, hp, hw2, hw3, hqa, hod, hk, hap, hl0]
          exact ⟨_, xs ++ [year + p], _, f1, hbd, f2, f3, f4, by rw [List.length_append]; rfl⟩
        · by_cases hlt : year + p < year
          · obtain ⟨f1, f2, f3, f4⟩ := hfin (fun h => absurd hx0 h) (.inr hlt)
            simp +contextual (maxSteps := 1000000) (disch := first | omega | (with_reducible first | refine krN ?_ | refine krS ?_ | refine krP ?_ | refine krG ?_); kernel_rfl | refine kr ?_; simp only [go_sem, reduceCtorEq, hq3, hq3', hwf, hR, hs5, hw1, hp, hw2, hw3, hqa, hod, hk, hap, hl0, hlt]; done | fail) only [go_sem, seval, -List.reduceReplicate, hq3, hq3', hwf, hR, hs5, hw1, hp, hw2, hw3, hqa, hod, hk, hap, hl0, hlt]
            exact ⟨_, xs ++ [year + p], _, f1, hbd, f2, f3, f4, by rw [List.length_append]; rfl⟩
          · simp +contextual (maxSteps := 1000000) (disch := first | omega | (with_reducible first | refine krN ?_ | refine krS ?_ | refine krP ?_ | refine krG ?_); kernel_rfl | refine kr ?_; simp only [go_sem, reduceCtorEq, hq3, hq3', hwf, hR, hs5, hw1, hp, hw2, hw3, hqa, hod, hk, hl0, hlt]; done | fail) only [go_sem, seval, -List.reduceReplicate, hq3, hq3', hwf, hR, hs5, hw1, hp, hw2, hw3, hqa, hod, hk, hl0, hlt]
            exact ⟨_, xs, _, by omega, x2, x3, fun h => x4 (by omega), fun h => x5 (by omega), rfl⟩
      · have hlp := List.length_pos_iff.2 hx0
        have hl0 : ¬ (xs.length : Int) = 0 := by omega
        have hlm : xs.length - 1 < xs.length := by omega
        have hix : ∀ (s' : Int × Int) (lc : List (Nat × Vl)) (nn : Nat), indexAddrV (.slice 1 8 (.int .i64 0)) (.v (.own nx xs.length)) (.int .i64 ((xs.length - 1 : Nat) : Int)) { lc := lc, hp := HPd ⟨s', es, ns, ys, fs⟩ (upd g nx (.arr 1 (xs.map I))), nx := nn } = some (.v (.ep nx xs.length (xs.length - 1) 0), { lc := lc, hp := HPd ⟨s', es, ns, ys, fs⟩ (upd g nx (.arr 1 (xs.map I))), nx := nn }) := fun s' lc nn => by
          rw [indexAddr_own ((HPd_at m3).trans (upd_same _ _ _)) (by simp) (by omega) (by decide)]; rfl
        have hrd : ∀ (s' : Int × Int) (lc : List (Nat × Vl)) (nn : Nat), Mem.read { lc := lc, hp := HPd ⟨s', es, ns, ys, fs⟩ (upd g nx (.arr 1 (xs.map I))), nx := nn } false 1 (.v (.ep nx xs.length (xs.length - 1) 0)) = some (.int .i64 xs[xs.length - 1]!) := fun s' lc nn => by
          rw [mread_ep ((HPd_at m3).trans (upd_same _ _ _)) (by simp) (x := I xs[xs.length - 1]!) (by rw [List.getElem?_map, get!_eq hlm, List.getElem?_eq_getElem hlm]; rfl)]; rfl
        by_cases hla : xs[xs.length - 1]! < year + p
        case neg =>
          simp +contextual (maxSteps := 1000000) (disch := first | omega | (with_reducible first | refine krN ?_ | refine krS ?_ | refine krP ?_ | refine krG ?_); kernel_rfl | refine kr ?_; simp only [go_sem, reduceCtorEq, hq3, hq3', hwf, hR, hs5, hw1, hp, hw2, hw3, hqa, hod, hl0, hlp, hix, hrd, hla]; done | fail) only [go_sem, seval, -List.reduceReplicate, hq3, hq3', hwf, hR, hs5, hw1, hp, hw2, hw3, hqa, hod, hl0, hlp, hix, hrd, hla]
          exact ⟨_, xs, _, by omega, x2, x3, fun h => x4 (by omega), fun h => x5 (by omega), rfl⟩
        by_cases hk : at0 < q
        · obtain ⟨f1, f2, f3, f4⟩ := hfin (fun _ => hla) (.inl hk)
          simp +contextual (maxSteps := 1000000) (disch := first | omega | (with_reducible first | refine krN ?_ | refine krS ?_ | refine krP ?_ | refine krG ?_); kernel_rfl | refine kr ?_; simp only [go_sem, reduceCtorEq, hq3, hq3', hwf, hR, hs5, hw1, hp, hw2, hw3, hqa, hod, hk, hap, hl0, hlp, hix, hrd, hla]; done | fail) only [go_sem, seval, -List.reduceReplicate, hq3, hq3', hwf, hR, hs5, hw1, hp, hw2, hw3, hqa, hod, hk, hap, hl0, hlp, hix, hrd, hla]
          exact ⟨_, xs ++ [year + p], _, f1, hbd, f2, f3, f4, by rw [List.length_append]; rfl⟩
        · by_cases hlt : year + p < year
          · obtain ⟨f1, f2, f3, f4⟩ := hfin (fun _ => hla) (.inr hlt)
            simp +contextual (maxSteps := 1000000) (disch := first | omega | (with_reducible first | refine krN ?_ | refine krS ?_ | refine krP ?_ | refine krG ?_); kernel_rfl | refine kr ?_; simp only [go_sem, reduceCtorEq, hq3, hq3', hwf, hR, hs5, hw1, hp, hw2, hw3, hqa, hod, hk, hap, hl0, hlp, hix, hrd, hla, hlt]; done | fail) only [go_sem, seval, -List.reduceReplicate, hq3, hq3', hwf, hR, hs5, hw1, hp, hw2, hw3, hqa, hod, hk, hap, hl0, hlp, hix, hrd, hla, hlt]
            exact ⟨_, xs ++ [year + p], _, f1, hbd, f2, f3, f4, by rw [List.length_append]; rfl⟩
          · simp +contextual (maxSteps := 1000000) (disch := first | omega | (with_reducible first | refine krN ?_ | refine krS ?_ | refine krP ?_ | refine krG ?_); kernel_rfl | refine kr ?_; simp only [go_sem, reduceCtorEq, hq3, hq3', hwf, hR, hs5, hw1, hp, hw2, hw3, hqa, hod, hk, hl0, hlp, hix, hrd, hla, hlt]; done | fail) only [go_sem, seval, -List.reduceReplicate, hq3, hq3', hwf, hR, hs5, hw1, hp, hw2, hw3, hqa, hod, hk, hl0, hlp, hix, hrd, hla, hlt]
            exact ⟨_, xs, _, by omega, x2, x3, fun h => x4 (by omega), fun h => x5 (by omega), rfl⟩
  · have b1 := bra_b s3 (n := year) (far := 2 * far) (by omega) (by omega) (by omega) (by omega)
    simp +contextual (maxSteps := 1000000) (disch := first | omega | (with_reducible first | refine krN ?_ | refine krS ?_ | refine krP ?_ | refine krG ?_); kernel_rfl | refine kr ?_; simp only [go_sem, reduceCtorEq, hj, hA, hC, hs2, hK, hs3, hL, hyr, killHp_nil]; done | fail) only [go_sem, seval, -List.reduceReplicate, hj, hA, hC, hs2, hK, hs3, hL, hyr, killHp_nil]
    exact ⟨j - 1, ⟨_, _, m + 1, g, nx, _, by simp [m1], by omega, m3, mem_snoc m4 (NMade.mk2 (by omega) (by unfold SpanOk; omega) (by rw [hyr]; omega) (by omega)), rfl⟩, by omega⟩
  · by_cases hn0 : n = 0
    · have b1 := bra_b s3 (n := year) (far := 2 * far) (by omega) (by omega) (by omega) (by omega)
      subst hn0
      simp +contextual (maxSteps := 1000000) (disch := first | omega | (with_reducible first | refine krN ?_ | refine krS ?_ | refine krP ?_ | refine krG ?_); kernel_rfl | refine kr ?_; simp only [go_sem, reduceCtorEq, hj, hA, hC, hs2, hK, hs3, hL, hyr, killHp_nil]; done | fail) only [go_sem, seval, -List.reduceReplicate, hj, hA, hC, hs2, hK, hs3, hL, hyr, killHp_nil]
      exact ⟨j - 1, ⟨_, _, m + 1, g, nx, _, by simp [m1], by omega, m3, mem_snoc m4 (NMade.mk2 (by omega) (by unfold SpanOk; omega) (by rw [hyr]; omega) (by omega)), rfl⟩, by omega⟩
    · have hn0' : ¬ (n : Int) = 0 := by omega
      have a4 := upR_b s3 (n := n) (by omega)
      generalize hO : upR s3 n = o at a4
      have hfo := hF o.toNat (by omega)
      generalize hfr : fs[o.toNat]! = first at hfo
      generalize hs4 : upS s3 n = s4
      have b1 := bra_b s4 (n := year - first + 1) (far := far) (by omega) (by omega) (by omega) (by omega)
      have hw1 : IntKind.wrap .i64 (year - first) = year - first := wrap_i64 (by omega) (by omega)
      have hw2 : IntKind.wrap .i64 (year - first + 1) = year - first + 1 := wrap_i64 (by omega) (by omega)
      simp +contextual (maxSteps := 1000000) (disch := first | omega | (with_reducible first | refine krN ?_ | refine krS ?_ | refine krP ?_ | refine krG ?_); kernel_rfl | refine kr ?_; simp only [go_sem, reduceCtorEq, hj, hA, hC, hs2, hK, hs3, hL, hyr, killHp_nil, hn0', hO, hs4, hfr, e2, hw1, hw2]; done | fail) only [go_sem, seval, -List.reduceReplicate, hj, hA, hC, hs2, hK, hs3, hL, hyr, killHp_nil, hn0', hO, hs4, hfr, e2, hw1, hw2]
      exact ⟨j - 1, ⟨_, _, m + 1, g, nx, _, by simp [m1], by omega, m3, mem_snoc m4 (NMade.mk3 (by omega) (by omega) (by unfold SpanOk; omega) (by omega) (by rw [hyr, hfr]; omega) (by omega)), rfl⟩, by omega⟩
  · by_cases hac : a = c
    · have b1 := bra_b s3 (n := year) (far := 2 * far) (by omega) (by omega) (by omega) (by omega)
      subst hac
      simp +contextual (maxSteps := 1000000) (disch := first | omega | (with_reducible first | refine krN ?_ | refine krS ?_ | refine krP ?_ | refine krG ?_); kernel_rfl | refine kr ?_; simp only [go_sem, reduceCtorEq, hj, hA, hC, hs2, hK, hs3, hL, hyr, killHp_nil]; done | fail) only [go_sem, seval, -List.reduceReplicate, hj, hA, hC, hs2, hK, hs3, hL, hyr, killHp_nil]
      exact ⟨j - 1, ⟨_, _, m + 1, g, nx, _, by simp [m1], by omega, m3, mem_snoc m4 (NMade.mk2 (by omega) (by unfold SpanOk; omega) (by rw [hyr]; omega) (by omega)), rfl⟩, by omega⟩
    · generalize hcr : ys[c.toNat]! = other at hyc
      have b1 := bra_b s3 (n := year - other) (far := far) (by omega) (by omega) (by omega) (by omega)
      have hw1 : IntKind.wrap .i64 (year - other) = year - other := wrap_i64 (by omega) (by omega)
      simp +contextual (maxSteps := 1000000) (disch := first | omega | (with_reducible first | refine krN ?_ | refine krS ?_ | refine krP ?_ | refine krG ?_); kernel_rfl | refine kr ?_; simp only [go_sem, reduceCtorEq, hj, hA, hC, hs2, hK, hs3, hL, hyr, killHp_nil, hac, hcr, hw1]; done | fail) only [go_sem, seval, -List.reduceReplicate, hj, hA, hC, hs2, hK, hs3, hL, hyr, killHp_nil, hac, hcr, hw1]
      exact ⟨j - 1, ⟨_, _, m + 1, g, nx, _, by simp [m1], by omega, m3, mem_snoc m4 (NMade.mk4 (by omega) (by omega) (by unfold SpanOk; omega) (by rw [hyr, hcr]; omega) (by omega)), rfl⟩, by omega⟩
end Go.Proofs
