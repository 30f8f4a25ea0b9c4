/- What functions of the given program do in the ideal machine (J22, J23, J24, J26), and the plain laws of what they answer; the conditions stand in each theorem. -/
import Derived.Test.YtoamjmokonnglaaJm
set_option linter.all false
set_option linter.unusedSectionVars false
set_option linter.unusedSimpArgs false
set_option linter.unusedVariables false
namespace Go.Proofs
open Go Go.Idl Go.Dt
set_option linter.unusedSimpArgs false
variable {b : Nat}
section
variable {s : Int × Int} {es : List (Int × Int)} {ns : List Nt} {ys fs : List Int} {g : Nat → Ob}
theorem rfd1 : reify (HPd ⟨s, es, ns, ys, fs⟩ g) (.own 1 es.length) = some (.lst 2 (es.map encS) false, [1]) := reify_flat (.inl rfl) rfl fun _ => rfl
theorem rfd2 : reify (HPd ⟨s, es, ns, ys, fs⟩ g) (.own 2 ns.length) = some (.lst 6 (ns.map encN) false, [2]) := reify_flat (.inl rfl) rfl fun n => reify_closedV _ (clN n)
end
theorem upd_urn {h : Nat → Ob} {s : Int × Int} (e : h 0 = urnO s) : h = upd h 0 (.box (.agg [.int .u64 s.1, .int .u64 s.2])) := (upd_self e).symm
theorem cast_nn {i : Int} (h : 0 ≤ i) : ((i.toNat : Nat) : Int) = i := Int.toNat_of_nonneg h
set_option maxRecDepth 10000 in
set_option maxHeartbeats 4000000 in
theorem true_to {xs : List Int} (hn : xs.length ≤ 9223372036854775807) {o : Option Bool} : Ans Try.prog (AA 2) 10 [SL 1 (xs.map I) o] (fun v => v = .bool true) := by
  refine Ans_of Try.func10 rfl rfl ?_
  simp +contextual (maxSteps := 1000000) (disch := first | omega | (with_reducible first | refine krN ?_ | refine krS ?_ | refine krP ?_ | refine krG ?_); kernel_rfl | refine kr ?_; simp only [go_sem, reduceCtorEq]; done | fail) only [go_sem, seval, -List.reduceReplicate]
  refine wc_heap (by rfl) rfl (newUrn_to (b := 2) hn) ?_
  rintro v hp' nx' ⟨rfl, rfl, s, rfl⟩
  have hfar := anyR_mem s (l := [3, 30]) (by simp) (by simp)
  simp +contextual (maxSteps := 1000000) (disch := first | omega | (with_reducible first | refine krN ?_ | refine krS ?_ | refine krP ?_ | refine krG ?_); kernel_rfl | refine kr ?_; simp only [go_sem, reduceCtorEq, upd_upd]; done | fail) only [go_sem, seval, -List.reduceReplicate, upd_upd]
  generalize anyR s [3, 30] = far at hfar
  have hf : 3 ≤ far ∧ far ≤ 60 := by simp at hfar; omega
  refine wc_heap (by rfl) rfl (datingOf_to (b := 2) (s := anyS s [3, 30]) (S := 6) (N := 7) (far := far) (by decide) (by decide) hf) ?_
  clear hfar
  rintro v hp' nx' ⟨s, base, st, es, ns, ys, fs, g, hM, rfl, rfl, hn5⟩
  have r1 := rfd1 (s := s) (es := es) (ns := ns) (ys := ys) (fs := fs) (g := g)
  have r2 := rfd2 (s := s) (es := es) (ns := ns) (ys := ys) (fs := fs) (g := g)
  have r3 : reify (killHp [1, 2] (HPd ⟨s, es, ns, ys, fs⟩ g)) (.own 3 ys.length) = some (.lst 1 (ys.map I) false, [3]) := reify_flat (.inl rfl) rfl fun _ => rfl
  have r4 : reify (killHp [1, 2] (HPd ⟨s, es, ns, ys, fs⟩ g)) (.own 4 fs.length) = some (.lst 1 (fs.map I) false, [4]) := reify_flat (.inl rfl) rfl fun _ => rfl
  simp +contextual (maxSteps := 1000000) (disch := first | omega | (with_reducible first | refine krN ?_ | refine krS ?_ | refine krP ?_ | refine krG ?_); kernel_rfl | refine kr ?_; simp only [go_sem, reduceCtorEq, r1, r2, r3, r4]; done | fail) only [go_sem, seval, -List.reduceReplicate, r1, r2, r3, r4]
  clear r1 r2 r3 r4
  have hu : killHp [3, 4] (killHp [1, 2] (HPd ⟨s, es, ns, ys, fs⟩ g)) 0 = urnO s := rfl
  generalize killHp [3, 4] (killHp [1, 2] (HPd ⟨s, es, ns, ys, fs⟩ g)) = hk at hu
  rw [upd_urn hu]
  have hd := hM.dtok (by decide) (by decide)
  have hw := hM.truth (by decide) (by omega)
  obtain ⟨D, hD⟩ : ∃ D : Dt, D = ⟨st, es, ns⟩ := ⟨_, rfl⟩
  have e1 : Vl.agg [.int .i64 st, .lst 2 (es.map encS) false, .lst 6 (ns.map encN) false] = encD (some false) (some false) D := by rw [hD]; rfl
  have hDs : D.stones = st := by rw [hD]
  have hDe : D.eras = es := by rw [hD]
  rw [e1]
  rw [← hD] at hd hw
  clear e1 hD
  obtain ⟨hne, hf0, hc0⟩ := tabs_some hd hw
  have hst := hM.st_b
  have hyl := hM.ys_l
  have hfl := hM.fs_l
  have hel := hM.es_l
  have hbs := hM.bs
  have hL : D.stones.toNat = ys.length := by omega
  have hL' : ((ys.length : Nat) : Int) = D.stones := by omega
  have hEl : D.eras.length = fs.length := by rw [hDe, hfl]
  simp +contextual (maxSteps := 1000000) (disch := first | omega | (with_reducible first | refine krN ?_ | refine krS ?_ | refine krP ?_ | refine krG ?_); kernel_rfl | refine kr ?_; simp only [go_sem, reduceCtorEq, wc27, hf0, wc38, len_spans, slot_spans, hL, hL', hEl]; done | fail) only [go_sem, seval, -List.reduceReplicate, wc27, hf0, wc38, len_spans, slot_spans, hL, hL', hEl]
  have hull := fun (v : Nat) (hv : v < 10) => (joinT_hull (tabs_GT hd) hne hv).1 _ ((tabs_tr hd _).2 hw)
  refine wp_loop_to fs.length (fun i st => ∃ ex, st = ({ sl := (3, .bp 0 0) :: (4, .loc (encD (some false) (some false) D)) :: (5, .loc (.agg [.lst 1 (ys.map I) false, .lst 1 (fs.map I) false])) :: (6, spansV (tabsL D) 1 ys.length) :: (8, spansV (tabsL D) 7 fs.length) :: (10, I i) :: ex, hp := upd hk 0 (.box (.agg [.int .u64 s.1, .int .u64 s.2])), nx := nx' } : FS)) ?_ 0 (Nat.zero_le _) ⟨_, rfl⟩
  rintro i st' hi ⟨ex, rfl⟩
  by_cases hc : i < fs.length
  · have hin := hull (7 + i) (by omega)
    rw [wOf_f] at hin
    have hin' := inT hin
    simp +contextual (maxSteps := 1000000) (disch := first | omega | (with_reducible first | refine krN ?_ | refine krS ?_ | refine krP ?_ | refine krG ?_); kernel_rfl | refine kr ?_; simp only [go_sem, reduceCtorEq, Int.ofNat_lt, hc, len_spans, slot_spans, ix_spans, ix_lst, hin']; done | fail) only [go_sem, seval, -List.reduceReplicate, Int.ofNat_lt, hc, len_spans, slot_spans, ix_spans, ix_lst, hin']
    exact ⟨_, rfl⟩
  have hie : i = fs.length := by omega
  subst hie
  simp +contextual (maxSteps := 1000000) (disch := first | omega | (with_reducible first | refine krN ?_ | refine krS ?_ | refine krP ?_ | refine krG ?_); kernel_rfl | refine kr ?_; simp only [go_sem, reduceCtorEq, Int.lt_irrefl, len_spans, slot_spans]; done | fail) only [go_sem, seval, -List.reduceReplicate, Int.lt_irrefl, len_spans, slot_spans]
  clear hi hc ex
  refine wp_loop_to ys.length (fun i st => ∃ (s : Int × Int) (ex : List (Nat × Vl)), st = ({ sl := (3, .bp 0 0) :: (4, .loc (encD (some false) (some false) D)) :: (5, .loc (.agg [.lst 1 (ys.map I) false, .lst 1 (fs.map I) false])) :: (6, spansV (tabsL D) 1 ys.length) :: (11, I i) :: ex, hp := upd hk 0 (.box (.agg [.int .u64 s.1, .int .u64 s.2])), nx := nx' } : FS)) ?_ 0 (Nat.zero_le _) ⟨s, _, rfl⟩
  clear s hu
  rintro i st' hi ⟨s, ex, rfl⟩
  by_cases hc : i < ys.length
  case neg =>
    have hie : i = ys.length := by omega
    subst hie
    simp +contextual (maxSteps := 1000000) (disch := first | omega | (with_reducible first | refine krN ?_ | refine krS ?_ | refine krP ?_ | refine krG ?_); kernel_rfl | refine kr ?_; simp only [go_sem, reduceCtorEq, Int.lt_irrefl, len_spans, slot_spans, wc15]; done | fail) only [go_sem, seval, -List.reduceReplicate, Int.lt_irrefl, len_spans, slot_spans, wc15]
  have a1 := fromR_b s (lo := -3) (hi := 3) (by omega) (by omega) (by omega) (by omega)
  have a2 := anyR_mem (fromS s (-3) 3) (l := [0, fromR s (-3) 3]) (by simp) (by simp)
  simp only [List.mem_cons, List.not_mem_nil, or_false] at a2
  generalize hA : anyR (fromS s (-3) 3) [0, fromR s (-3) 3] = a at a2
  generalize hs1 : anyS (fromS s (-3) 3) [0, fromR s (-3) 3] = s1
  have a3 := upR_b s1 (n := D.stones) (by omega)
  generalize hO : upR s1 D.stones = o at a3
  obtain ⟨on, rfl⟩ := Int.eq_ofNat_of_zero_le a3.1
  have hyi := hM.ys_b _ (get!_mem hc)
  have hw1 : IntKind.wrap .i64 (ys[i]! + a) = ys[i]! + a := wrap_i64 (by omega) (by omega)
  have hyv : -3000 ≤ ys[i]! + a ∧ ys[i]! + a ≤ 3000 := by omega
  obtain ⟨c1, c2⟩ := cut_fits hd hw (i := i) (by omega) hyv
  obtain ⟨d1, d2⟩ := ear_fits hd hw (a := i) (c := on) (by omega) (by omega)
  rw [wOf_y (by omega)] at c2 d2
  rw [wOf_y (by omega)] at d2
  have hin := hull (1 + i) (by omega)
  rw [wOf_y (by omega)] at hin
  have hin' := inT hin
  have hon : on < ys.length := by omega
  simp +contextual (maxSteps := 1000000) (disch := first | omega | (with_reducible first | refine krN ?_ | refine krS ?_ | refine krP ?_ | refine krG ?_); kernel_rfl | refine kr ?_; simp only [go_sem, reduceCtorEq, Int.ofNat_lt, hc, len_spans, slot_spans, ix_spans, ix_lst, hin', upd_upd, hA, hs1, hO, hw1, wc41, wc31, c1, d1, hon, c2, d2]; done | fail) only [go_sem, seval, -List.reduceReplicate, Int.ofNat_lt, hc, len_spans, slot_spans, ix_spans, ix_lst, hin', upd_upd, hA, hs1, hO, hw1, wc41, wc31, c1, d1, hon, c2, d2]
  exact ⟨upS s1 D.stones, _, rfl⟩
end Go.Proofs
namespace Go.Proofs
open Go Go.Idl Go.Dt
set_option linter.unusedSimpArgs false
variable {b : Nat}
theorem apC22 {m : Mem} {o : Option Bool} {l : List (Int × Int)} (hl : l.length ≤ 100000) : isAppend Try.prog 22 22 (.lst 2 [] true) (SL 2 (l.map encS) o) m = some (.own m.nx l.length, { m with hp := upd m.hp m.nx (.arr 2 (l.map encS)), nx := m.nx + 1 }) := by
  have hx : (l = [] ∧ SL 2 (l.map encS) o = .nils) ∨ ∃ x, SL 2 (l.map encS) o = .lst 2 (l.map encS) x := by
    rcases SL_cases 2 (l.map encS) o with ⟨h, h2⟩ | h
    · exact .inl ⟨List.map_eq_nil_iff.1 h, h2⟩
    · exact .inr h
  have hg : okGrow 16 2 (.agg [.int .i64 0, .int .i64 0]) l.length = true := grow_ok rfl rfl (by decide) (by decide) (by omega)
  unfold isAppend appendV
  rw [td22]
  rcases hx with ⟨rfl, hx⟩ | ⟨x, hx⟩
  · have hg : okGrow 16 2 (.agg [.int .i64 0, .int .i64 0]) 0 = true := hg
    rw [hx]
    simp [Mem.elems, hg]
  · rw [hx]
    simp only [Mem.elems, if_true, Option.bind_some, List.length_map, List.length_nil, Nat.zero_add, List.nil_append]
    rw [hg]
    simp
theorem apC26 {m : Mem} {o : Option Bool} {l : List Int} (hl : l.length ≤ 100000) : isAppend Try.prog 26 26 (.lst 1 [] true) (SL 1 (l.map I) o) m = some (.own m.nx l.length, { m with hp := upd m.hp m.nx (.arr 1 (l.map I)), nx := m.nx + 1 }) := by
  have hx : (l = [] ∧ SL 1 (l.map I) o = .nils) ∨ ∃ x, SL 1 (l.map I) o = .lst 1 (l.map I) x := by
    rcases SL_cases 1 (l.map I) o with ⟨h, h2⟩ | h
    · exact .inl ⟨List.map_eq_nil_iff.1 h, h2⟩
    · exact .inr h
  have hg : okGrow 8 1 (.int .i64 0) l.length = true := grow_ok rfl rfl (by decide) (by decide) (by omega)
  unfold isAppend appendV
  rw [td26]
  rcases hx with ⟨rfl, hx⟩ | ⟨x, hx⟩
  · have hg : okGrow 8 1 (.int .i64 0) 0 = true := hg
    rw [hx]
    simp [Mem.elems, hg]
  · rw [hx]
    simp only [Mem.elems, if_true, Option.bind_some, List.length_map, List.length_nil, Nat.zero_add, List.nil_append]
    rw [hg]
    simp
theorem spans58 {l : List (Int × Int)} {o : Option Bool} {hp : Nat → Ob} {nx : Nat} (hl : l.length ≤ 100000) : HAns Try.prog (AA b) 58 [SL 2 (l.map encS) o] hp nx fun v h n => v = .own nx l.length ∧ h = upd hp nx (.arr 2 (l.map encS)) ∧ n = nx + 1 := by
  refine HAns_of Try.func58 rfl ?_
  have hap := fun m : Mem => apC22 (m := m) (o := o) hl
  simp +contextual (maxSteps := 1000000) (disch := first | omega | (with_reducible first | refine krN ?_ | refine krS ?_ | refine krP ?_ | refine krG ?_); kernel_rfl | refine kr ?_; simp only [go_sem, reduceCtorEq, hap]; done | fail) only [go_sem, seval, -List.reduceReplicate, hap]
theorem ints59 {l : List Int} {o : Option Bool} {hp : Nat → Ob} {nx : Nat} (hl : l.length ≤ 100000) : HAns Try.prog (AA b) 59 [SL 1 (l.map I) o] hp nx fun v h n => v = .own nx l.length ∧ h = upd hp nx (.arr 1 (l.map I)) ∧ n = nx + 1 := by
  refine HAns_of Try.func59 rfl ?_
  have hap := fun m : Mem => apC26 (m := m) (o := o) hl
  simp +contextual (maxSteps := 1000000) (disch := first | omega | (with_reducible first | refine krN ?_ | refine krS ?_ | refine krP ?_ | refine krG ?_); kernel_rfl | refine kr ?_; simp only [go_sem, reduceCtorEq, hap]; done | fail) only [go_sem, seval, -List.reduceReplicate, hap]
section
variable {m : Mem} {K : Vl → Mem → Prop}
theorem wc58 {l : List (Int × Int)} {o : Option Bool} (hl : l.length ≤ 100000) : WC Try.prog (AA b) (.fn (.func 58) [] []) [.v (SL 2 (l.map encS) o)] m K = K (.own m.nx l.length) { m with hp := upd m.hp m.nx (.arr 2 (l.map encS)), nx := m.nx + 1 } :=
  WC_heap (by simp only [mkAnn, K58]) rfl (spans58 hl)
theorem wc59 {l : List Int} {o : Option Bool} (hl : l.length ≤ 100000) : WC Try.prog (AA b) (.fn (.func 59) [] []) [.v (SL 1 (l.map I) o)] m K = K (.own m.nx l.length) { m with hp := upd m.hp m.nx (.arr 1 (l.map I)), nx := m.nx + 1 } :=
  WC_heap (by simp only [mkAnn, K59]) rfl (ints59 hl)
end
def recl (n : Nt) : Nt := { n with fl := some false }
def copyD (d : Dt) : Dt := { d with notes := d.notes.map recl }
theorem recl_wk (n : Nt) : (recl n).wk = n.wk := rfl
theorem recl_ok {d d' : Dt} (hs : d'.stones = d.stones) (he : d'.eras = d.eras) {n : Nt} (k : NtOk d n) : NtOk d' (recl n) := ⟨k.kind, by rw [hs]; exact k.stone, k.years, k.span, k.plain, by rw [he]; exact k.era, by rw [hs]; exact k.after⟩
end Go.Proofs
namespace Go.Proofs
open Go Go.Idl Go.Dt
set_option linter.unusedSimpArgs false
variable {b : Nat}
theorem hullD {d : Dt} (h : DtOk d) (hne : tabsL d ≠ []) {v : Nat} (hv : v < 10) :
    (∀ w, TrD d w → (joinT (tabsL d) v).1 ≤ w v ∧ w v ≤ (joinT (tabsL d) v).2) ∧ (∃ w, TrD d w ∧ w v = (joinT (tabsL d) v).1) ∧ ∃ w, TrD d w ∧ w v = (joinT (tabsL d) v).2 := by
  obtain ⟨h1, ⟨w, h2, h3⟩, u, h4, h5⟩ := joinT_hull (tabs_GT h) hne hv
  exact ⟨fun w hw => h1 w ((tabs_tr h w).2 hw), ⟨w, (tabs_tr h w).1 h2, h3⟩, u, (tabs_tr h u).1 h4, h5⟩
theorem hull_eq {d d' : Dt} (h : DtOk d) (hne : tabsL d ≠ []) (h' : DtOk d') (hne' : tabsL d' ≠ []) {v v' : Nat} (hv : v < 10) (hv' : v' < 10) (hT : ∀ x : Int, (∃ w, TrD d w ∧ w v = x) ↔ ∃ w, TrD d' w ∧ w v' = x) : joinT (tabsL d) v = joinT (tabsL d') v' := by
  obtain ⟨a1, a2, a3⟩ := hullD h hne hv
  obtain ⟨b1, b2, b3⟩ := hullD h' hne' hv'
  obtain ⟨w1, c1, c2⟩ := (hT _).1 a2
  obtain ⟨w2, c3, c4⟩ := (hT _).1 a3
  obtain ⟨w3, d1, d2⟩ := (hT _).2 b2
  obtain ⟨w4, d3, d4⟩ := (hT _).2 b3
  have e1 := b1 w1 c1
  have e2 := b1 w2 c3
  have e3 := a1 w3 d1
  have e4 := a1 w4 d3
  exact Prod.ext (by omega) (by omega)
theorem verdT_1 {A N : Bool} : verdT A N = 1 ↔ A = true := by
  unfold verdT
  cases A <;> cases N <;> simp
theorem verdT_2 {A N : Bool} (h : ¬ (A = true ∧ N = true)) : verdT A N = 2 ↔ N = true := by
  unfold verdT
  cases A <;> cases N <;> simp_all
theorem verdT_b {A N : Bool} : 1 ≤ verdT A N ∧ verdT A N ≤ 3 := by
  unfold verdT
  cases A <;> cases N <;> simp
theorem cut_1 {d : Dt} (h : DtOk d) {w : Nat → Int} (hw : TrD d w) {i : Nat} {y : Int} (hi : (i : Int) < d.stones) (hy : -3000 ≤ y ∧ y ≤ 3000) : (cutV d i y).2 = 0 ∧ (1 ≤ (cutV d i y).1 ∧ (cutV d i y).1 ≤ 3) ∧ ((cutV d i y).1 = 1 ↔ ∀ u, TrD d u → u (1 + i) = y) ∧ ((cutV d i y).1 = 2 ↔ ∀ u, TrD d u → u (1 + i) ≠ y) := by
  have h6 := h.stones
  have hA := alwT_all (tabs_GT h) (v := 1 + i) (by omega) (y := y)
  have hN := nevT_all (tabs_GT h) (v := 1 + i) (by omega) (y := y)
  have tr : ∀ P : (Nat → Int) → Prop, (∀ u, Tr (tabsL d) u → P u) ↔ ∀ u, TrD d u → P u := fun P => ⟨fun k u hu => k u ((tabs_tr h u).2 hu), fun k u hu => k u ((tabs_tr h u).1 hu)⟩
  rw [tr] at hA hN
  rw [cutV_ok h hw (by omega) hy]
  refine ⟨rfl, verdT_b, verdT_1.trans hA, (verdT_2 ?_).trans hN⟩
  rintro ⟨a, n⟩
  exact hN.1 n w hw (hA.1 a w hw)
theorem ear_1 {d : Dt} (h : DtOk d) {w : Nat → Int} (hw : TrD d w) {a c : Nat} (ha : (a : Int) < d.stones) (hc : (c : Int) < d.stones) : (earV d a c).2 = 0 ∧ (1 ≤ (earV d a c).1 ∧ (earV d a c).1 ≤ 3) ∧ ((earV d a c).1 = 1 ↔ ∀ u, TrD d u → u (1 + a) < u (1 + c)) ∧ ((earV d a c).1 = 2 ↔ ∀ u, TrD d u → ¬ u (1 + a) < u (1 + c)) := by
  have h6 := h.stones
  have hA := befT_all (tabs_GT h) (a := 1 + a) (b := 1 + c) (by omega) (by omega)
  have hN := notT_all (tabs_GT h) (a := 1 + a) (b := 1 + c) (by omega) (by omega)
  have tr : ∀ P : (Nat → Int) → Prop, (∀ u, Tr (tabsL d) u → P u) ↔ ∀ u, TrD d u → P u := fun P => ⟨fun k u hu => k u ((tabs_tr h u).2 hu), fun k u hu => k u ((tabs_tr h u).1 hu)⟩
  rw [tr] at hA hN
  rw [earV_ok h hw (by omega) (by omega)]
  refine ⟨rfl, verdT_b, verdT_1.trans hA, (verdT_2 ?_).trans hN⟩
  rintro ⟨a, n⟩
  exact hN.1 n w hw (hA.1 a w hw)
def moreD (d : Dt) (n : Nt) : Dt := { d with notes := (copyD d).notes ++ [n] }
theorem moreD_ok {d : Dt} (h : DtOk d) {n : Nt} (hn : NtOk d n) (hl : d.notes.length ≤ 7) : DtOk (moreD d n) where
  stones := h.stones
  eras_l := h.eras_l
  eras := h.eras
  notes_l := by unfold moreD copyD; simp; omega
  notes m hm := by
    rcases List.mem_append.1 hm with hm | hm
    · obtain ⟨k, hk, rfl⟩ := List.mem_map.1 hm
      exact recl_ok (d := d) (d' := moreD d n) rfl rfl (h.notes k hk)
    · rw [List.mem_singleton.1 hm]
      exact ⟨hn.kind, hn.stone, hn.years, hn.span, hn.plain, hn.era, hn.after⟩
theorem moreD_tr {d : Dt} {n : Nt} {w : Nat → Int} : TrD (moreD d n) w ↔ TrD d w ∧ n.right w := by
  constructor
  · rintro ⟨a, c, e, f⟩
    refine ⟨⟨a, c, e, fun m hm => ?_⟩, f n (List.mem_append_right _ (List.mem_singleton.2 rfl))⟩
    exact f (recl m) (List.mem_append_left _ (List.mem_map_of_mem hm))
  · rintro ⟨⟨a, c, e, f⟩, g⟩
    refine ⟨a, c, e, fun m hm => ?_⟩
    rcases List.mem_append.1 hm with hm | hm
    · obtain ⟨k, hk, rfl⟩ := List.mem_map.1 hm
      exact f k hk
    · rw [List.mem_singleton.1 hm]; exact g
def yearNt (k y : Int) (o : Option Bool) : Nt := ⟨1, k, 0, 0, 0, [y], o⟩
theorem yearNt_ok {d : Dt} {k y : Int} {o : Option Bool} (hk : 0 ≤ k ∧ k < d.stones) (hy : -3000 ≤ y ∧ y ≤ 3000) : NtOk d (yearNt k y o) where
  kind := ⟨(by decide : (1 : Int) ≤ 1), (by decide : (1 : Int) ≤ 4)⟩
  stone := hk
  years _ := ⟨rfl, rfl, rfl, Nat.le_refl 1, by show 1 ≤ 3; decide, fun x hx => by rw [List.mem_singleton.1 hx]; exact hy, fun i h1 h2 => by have h2 : i < 1 := h2; omega⟩
  span h := absurd rfl h
  plain h := absurd h (by decide : (1 : Int) ≠ 2)
  era h := absurd h (by decide : (1 : Int) ≠ 3)
  after h := absurd h (by decide : (1 : Int) ≠ 4)
theorem yearNt_right {k : Nat} {y : Int} {o : Option Bool} {w : Nat → Int} (w0 : w 0 = 0) : (yearNt k y o).right w ↔ w (1 + k) = y := by
  have e : (yearNt k y o).wk = ⟨0, 1 + k, [(y, y)]⟩ := by unfold Nt.wk yearNt; rw [if_pos rfl]; rfl
  unfold Nt.right Wk.right
  rw [e]
  simp only [List.mem_singleton]
  constructor
  · rintro ⟨s, rfl, h1, h2⟩; simp only at h1 h2; omega
  · intro h; exact ⟨_, rfl, by simp only; omega, by simp only; omega⟩
theorem told_pure {d : Dt} (h : DtOk d) {w : Nat → Int} (hw : TrD d w) {k : Nat} {y : Int} {o : Option Bool} (hk : (k : Int) < d.stones) (hy : -3000 ≤ y ∧ y ≤ 3000) (hl : d.notes.length ≤ 7) :
    ((foundV (moreD d (yearNt k y o))) = (.nils, 9) ∧ (cutV d k y).1 = 2) ∨
    ((foundV (moreD d (yearNt k y o))).2 = 0 ∧ (cutV d k y).1 ≠ 2 ∧ joinT (tabsL (moreD d (yearNt k y o))) (1 + k) = (y, y) ∧ ((cutV d k y).1 = 1 ↔ joinT (tabsL d) (1 + k) = (y, y))) := by
  have h6 := h.stones
  have hX := moreD_ok h (yearNt_ok (o := o) (k := k) ⟨by omega, hk⟩ hy) hl
  have hX0 := checkE_ok.2 hX
  obtain ⟨hne, _, _⟩ := tabs_some h hw
  obtain ⟨c0, c1, c2, c3⟩ := cut_1 h hw hk hy
  have htr : ∀ u, TrD (moreD d (yearNt k y o)) u ↔ TrD d u ∧ u (1 + k) = y := fun u => by
    rw [moreD_tr]
    exact ⟨fun ⟨a, c⟩ => ⟨a, (yearNt_right a.zero).1 c⟩, fun ⟨a, c⟩ => ⟨a, (yearNt_right a.zero).2 c⟩⟩
  by_cases hP : ∃ u, TrD d u ∧ u (1 + k) = y
  · obtain ⟨u, hu, e⟩ := hP
    right
    obtain ⟨x1, x2, x3⟩ := tabs_some hX ((htr u).2 ⟨hu, e⟩)
    obtain ⟨a1, ⟨p, pT, p1⟩, q, qT, q1⟩ := hullD hX x1 (v := 1 + k) (by omega)
    have ep := ((htr p).1 pT).2
    have eq := ((htr q).1 qT).2
    refine ⟨by rw [x2], fun h2 => (c3.1 h2) u hu e, Prod.ext (by simp only; omega) (by simp only; omega), c2.trans ⟨fun hall => ?_, fun hj u' hu' => ?_⟩⟩
    · obtain ⟨b1, ⟨p', pT', p1'⟩, q', qT', q1'⟩ := hullD h hne (v := 1 + k) (by omega)
      have := hall p' pT'
      have := hall q' qT'
      exact Prod.ext (by simp only; omega) (by simp only; omega)
    · have := (hullD h hne (v := 1 + k) (by omega)).1 u' hu'
      rw [hj] at this
      simp only at this
      omega
  · left
    have hno : tabsL (moreD d (yearNt k y o)) = [] := (tabs_none hX).2 fun u hu => hP ⟨u, (htr u).1 hu⟩
    refine ⟨?_, c3.2 fun u hu e => hP ⟨u, hu, e⟩⟩
    unfold foundV
    rw [if_neg (fun k => k hX0), hno]; rfl
end Go.Proofs
namespace Go.Proofs
open Go Go.Idl Go.Dt
set_option linter.unusedSimpArgs false
variable {b : Nat}
theorem get!_set {α : Type} [Inhabited α] {L : List α} {i j : Nat} {x : α} (h : i < L.length) : (L.set i x)[j]! = if i = j then x else L[j]! := by
  rw [List.getElem!_eq_getElem?_getD, List.getElem!_eq_getElem?_getD, List.getElem?_set]
  by_cases e : i = j
  · subst e; simp [h]
  · simp [e]
theorem upd_swap {α : Type} {hp : Nat → α} {i j : Nat} {x y : α} (h : i ≠ j) : upd (upd hp i x) j y = upd (upd hp j y) i x := by
  funext k
  unfold upd
  by_cases e : k = j
  · have : ¬ k = i := fun g => h (g.symm.trans e)
    simp [e, Ne.symm h]
  · simp [e]
section
variable {α : Type} [Inhabited α] {f : α → Vl} {hp : Nat → Ob} {n' n id e j off : Nat} {xs : List α} {lc : List (Nat × Vl)}
theorem ixM {eb : Nat} {ez : Vl} {kd : IntKind} {i : Int} (ho : hp id = .arr e (xs.map f)) (hl : xs.length = n) (h0 : 0 ≤ i) (h1 : i < n) (he : e ≠ 0) : indexAddrV (.slice e eb ez) (.v (.own id n)) (.int kd i) ⟨lc, hp, n'⟩ = some (.v (.ep id n i.toNat 0), ⟨lc, hp, n'⟩) :=
  indexAddr_own ho (by rw [List.length_map]; exact hl) ⟨h0, h1⟩ he
theorem rdM {ag : Bool} {sz : Nat} (ho : hp id = .arr e (xs.map f)) (hl : xs.length = n) (hj : j < n) : Mem.read ⟨lc, hp, n'⟩ ag sz (.v (.ep id n j off)) = sub ag sz off (f xs[j]!) := by
  have h : (xs.map f).length = n := by rw [List.length_map]; exact hl
  simp only [Mem.read, ho, h, if_true]
  rw [List.getElem?_eq_getElem (by rw [h]; exact hj), List.getElem_map, get!_eq (by omega)]
  rfl
theorem wrM {v : Vl} {y : α} (ho : hp id = .arr e (xs.map f)) (hl : xs.length = n) (hj : j < n) (hput : put off v (f xs[j]!) = some (f y)) : Mem.write ⟨lc, hp, n'⟩ v (.v (.ep id n j off)) = some ⟨lc, upd hp id (.arr e ((xs.set j y).map f)), n'⟩ := by
  have h : (xs.map f).length = n := by rw [List.length_map]; exact hl
  simp only [Mem.write, ho, h, if_true]
  rw [List.getElem?_eq_getElem (by rw [h]; exact hj), List.getElem_map, ← get!_eq (by omega)]
  simp only [Option.bind_some, hput, Option.map_some, List.map_set]
end
theorem put_N {n n' : Nt} : put 0 (encN n) (encN n') = some (encN n) := by
  have h : ∀ n : Nt, (SL 1 (n.ys.map I) n.fl).cells = [SL 1 (n.ys.map I) n.fl] := fun n => by
    rcases SL_cases 1 (n.ys.map I) n.fl with ⟨_, e⟩ | ⟨x, e⟩ <;> rw [e] <;> rfl
  simp [encN, put, Vl.size, Vl.cells, h]
theorem ix_rng {e eb : Nat} {ez : Vl} {f : Nat → Vl} {n i : Nat} {o : Bool} {kd : IntKind} {m : Mem} (h : i < n) (he : e ≠ 0) : indexAddrV (.slice e eb ez) (.v (.lst e ((List.range n).map f) o)) (.int kd (i : Int)) m = some (.v (.fp (f i) 0), m) := by
  have := ix_map (f := f) (xs := List.range n) (o := some o) (k := kd) (m := m) (e := e) (eb := eb) (ez := ez) (Int.natCast_nonneg i) (by rw [List.length_range]; omega) he
  have e2 : SL e ((List.range n).map f) (some o) = .lst e ((List.range n).map f) o := by unfold SL; rfl
  rw [e2] at this
  rw [this, Int.toNat_natCast, get!_eq (by rw [List.length_range]; exact h), List.getElem_range]
def RW (hp : Nat → Ob) (nx : Nat) (s : Int × Int) (L : List Nat) : Nat → Ob := upd (upd hp nx (.arr 1 (L.map fun k : Nat => I k))) 0 (urnO s)
section
variable {hp : Nat → Ob} {nx n' k j : Nat} {s : Int × Int} {L : List Nat} {lc : List (Nat × Vl)}
theorem RW_at (h0 : 0 < nx) : RW hp nx s L nx = .arr 1 (L.map fun k : Nat => I k) := (upd_ne _ _ (by omega)).trans (upd_same _ _ _)
theorem RW_0 : RW hp nx s L 0 = urnO s := upd_same _ _ _
theorem UrnOk_RW : UrnOk 0 (RW hp nx s L) := rfl
theorem urnAt_RW : urnAt 0 (RW hp nx s L) = s := rfl
theorem RW_s {x y : Int} : upd (RW hp nx s L) 0 (.box (.agg [.int .u64 x, .int .u64 y])) = RW hp nx (x, y) L := upd_upd _ _ _ _
theorem RW_L {L' : List Nat} (h0 : 0 < nx) : upd (RW hp nx s L) nx (.arr 1 (L'.map fun k : Nat => I k)) = RW hp nx s L' := by
  unfold RW
  rw [upd_swap (i := 0) (j := nx) (by omega), upd_upd]
theorem RW_ne {i : Nat} (h1 : i ≠ 0) (h2 : i ≠ nx) : RW hp nx s L i = hp i := (upd_ne _ _ h1).trans (upd_ne _ _ h2)
theorem RW_new (h : hp 0 = urnO s) (h0 : 0 < nx) : upd hp nx (.arr 1 []) = RW hp nx s [] := by
  funext i
  by_cases e : i = 0
  · subst e; rw [upd_ne _ _ (by omega), RW_0, h]
  · unfold RW; rw [upd_ne (upd _ _ _) _ e]; rfl
theorem ixRW {eb : Nat} {ez : Vl} {i : Int} (h0 : 0 < nx) (hl : L.length = k) (h1 : 0 ≤ i) (h2 : i < k) : indexAddrV (.slice 1 eb ez) (.v (.own nx k)) (.int .i64 i) ⟨lc, RW hp nx s L, n'⟩ = some (.v (.ep nx k i.toNat 0), ⟨lc, RW hp nx s L, n'⟩) :=
  ixM (RW_at h0) hl h1 h2 (by decide)
theorem rdRW (h0 : 0 < nx) (hl : L.length = k) (hj : j < k) : Mem.read ⟨lc, RW hp nx s L, n'⟩ false 1 (.v (.ep nx k j 0)) = some (.int .i64 (L[j]! : Nat)) := by
  rw [rdM (RW_at h0) hl hj]; rfl
theorem wrRW {y : Nat} (h0 : 0 < nx) (hl : L.length = k) (hj : j < k) : Mem.write ⟨lc, RW hp nx s L, n'⟩ (.int .i64 (y : Int)) (.v (.ep nx k j 0)) = some ⟨lc, RW hp nx s (L.set j y), n'⟩ := by
  rw [wrM (y := y) (RW_at h0) hl hj rfl, RW_L h0]
end
attribute [go_sem] UrnOk_RW urnAt_RW RW_s
set_option maxRecDepth 10000 in
set_option maxHeartbeats 4000000 in
theorem row_to {n nx : Nat} {hp : Nat → Ob} {s : Int × Int} (hn : n ≤ 1000) (h0 : 0 < nx) (hu : hp 0 = urnO s) : HAns Try.prog (AA b) 33 [.bp 0 0, I n] hp nx fun v h' n' => ∃ s L, L.Perm (List.range n) ∧ v = .own nx n ∧ h' = RW hp nx s L ∧ n' = nx + 1 := by
  refine HAns_of Try.func33 rfl ?_
  simp +contextual (maxSteps := 1000000) (disch := first | omega | (with_reducible first | refine krN ?_ | refine krS ?_ | refine krP ?_ | refine krG ?_); kernel_rfl | refine kr ?_; simp only [go_sem, reduceCtorEq, RW_new, hu, h0]; done | fail) only [go_sem, seval, -List.reduceReplicate, RW_new, hu, h0]
  refine wp_loop_to n (fun i st => ∃ (s : Int × Int) (L : List Nat) (ex : List (Nat × Vl)), L.Perm (List.range i) ∧ st = ({ sl := (0, .bp 0 0) :: (1, I n) :: (5, .own nx i) :: (6, I i) :: ex, hp := RW hp nx s L, nx := nx + 1 } : FS)) ?_ 0 (Nat.zero_le _) ⟨s, [], _, List.Perm.refl _, rfl⟩
  clear s hu
  rintro i st hi ⟨s, L, ex, hL, rfl⟩
  have hLl : L.length = i := by rw [hL.length_eq, List.length_range]
  by_cases hc : i < n
  · have hap : ∀ (t : Bool) (n' : Nat), isAppend Try.prog 26 26 (.own nx i) (.lst 1 [I i] t) ⟨[], RW hp nx s L, n'⟩ = some (.own nx (i + 1), ⟨[], RW hp nx s (L ++ [i]), n'⟩) := fun t n' => by
      refine (ap26b (m := ⟨[], RW hp nx s L, n'⟩) (RW_at h0) (by rw [List.length_map]; exact hLl) (by omega)).trans ?_
      show some (Vl.own nx (i + 1), ({ lc := [], hp := upd (RW hp nx s L) nx (.arr 1 ((L.map fun k : Nat => I k) ++ [I i])), nx := n' } : Mem)) = _
      rw [show (L.map fun k : Nat => I k) ++ [I i] = (L ++ [i]).map fun k : Nat => I k by simp, RW_L h0]
    have hu := upR_b s (n := ((i + 1 : Nat) : Int)) (by omega)
    have hl1 : (L ++ [i]).length = i + 1 := by rw [List.length_append, hLl]; rfl
    have hi1 : (i : Int) < ((i + 1 : Nat) : Int) := by omega
    have hp1 : (L ++ [i]).Perm (List.range (i + 1)) := by
      rw [List.range_succ]; exact hL.append_right _
    generalize hM : L ++ [i] = N at hap hl1 hp1
    have hmi : (upR s ((i + 1 : Nat) : Int)).toNat < i + 1 := by omega
    have hii : i < i + 1 := Nat.lt_succ_self _
    simp +contextual (maxSteps := 1000000) (disch := first | omega | (with_reducible first | refine krN ?_ | refine krS ?_ | refine krP ?_ | refine krG ?_); kernel_rfl | refine kr ?_; simp only [go_sem, reduceCtorEq, Int.ofNat_lt, hc, hap, ixRW, rdRW, wrRW, h0, hl1, hu, hmi, hii, List.length_set]; done | fail) only [go_sem, seval, -List.reduceReplicate, Int.ofNat_lt, hc, hap, ixRW, rdRW, wrRW, h0, hl1, hu, hmi, hii, List.length_set]
    refine ⟨_, _, [], ?_, rfl⟩
    rw [← List.range_succ, get!_eq (by omega), get!_eq (by omega)]
    exact (List.set_set_perm (by omega) (by omega)).trans hp1
  · have hie : i = n := by omega
    subst hie
    simp +contextual (maxSteps := 1000000) (disch := first | omega | (with_reducible first | refine krN ?_ | refine krS ?_ | refine krP ?_ | refine krG ?_); kernel_rfl | refine kr ?_; simp only [go_sem, reduceCtorEq, Int.lt_irrefl]; done | fail) only [go_sem, seval, -List.reduceReplicate, Int.lt_irrefl]
    exact ⟨s, L, hL, rfl⟩
theorem eqS1 (x y z w : Int) (h : x = z ∧ y = w) : binOpV { ok := true, agg := true, size := 2, zero := Vl.agg [I 0, I 0], flat := some [CK.i, CK.i], k := TK.struct [(0, false, 1), (1, false, 1)] } .eql (Vl.agg [.int .i64 x, .int .i64 y]) (Vl.agg [.int .i64 z, .int .i64 w]) = some (.bool true) := by
  obtain ⟨rfl, rfl⟩ := h
  simp [binOpV, eqCells, eqCell]
section
variable {m : Mem} {K : Vl → Mem → Prop}
theorem sameSpans_to {A : List (Int × Int)} (hl : A.length ≤ 1000) {o1 o2 : Option Bool} : Ans Try.prog (AA b) 34 [SL 2 (A.map encS) o1, SL 2 (A.map encS) o2] (fun v => v = .bool true) := by
  refine Ans_of Try.func34 rfl rfl ?_
  simp +contextual (maxSteps := 1000000) (disch := first | omega | (with_reducible first | refine krN ?_ | refine krS ?_ | refine krP ?_ | refine krG ?_); kernel_rfl | refine kr ?_; simp only [go_sem, reduceCtorEq, List.length_map]; done | fail) only [go_sem, seval, -List.reduceReplicate, List.length_map]
  refine wp_loop_to A.length (fun i st => ∃ (ex : List (Nat × Vl)), st = ({ sl := (0, SL 2 (A.map encS) o1) :: (1, SL 2 (A.map encS) o2) :: (5, .bool true) :: (6, I i) :: ex, hp := noHeap, nx := 0 } : FS)) ?_ 0 (Nat.zero_le _) ⟨_, rfl⟩
  rintro i st hi ⟨ex, rfl⟩
  by_cases hc : i < A.length
  · simp +contextual (maxSteps := 1000000) (disch := first | omega | (with_reducible first | refine krN ?_ | refine krS ?_ | refine krP ?_ | refine krG ?_); kernel_rfl | refine kr ?_; simp only [go_sem, reduceCtorEq, Int.ofNat_lt, hc, ix_map, List.length_map, encS, eqS1, and_self]; done | fail) only [go_sem, seval, -List.reduceReplicate, Int.ofNat_lt, hc, ix_map, List.length_map, encS, eqS1, and_self]
    exact ⟨_, rfl⟩
  · have hie : i = A.length := by omega
    subst hie
    simp +contextual (maxSteps := 1000000) (disch := first | omega | (with_reducible first | refine krN ?_ | refine krS ?_ | refine krP ?_ | refine krG ?_); kernel_rfl | refine kr ?_; simp only [go_sem, reduceCtorEq, Int.lt_irrefl, List.length_map]; done | fail) only [go_sem, seval, -List.reduceReplicate, Int.lt_irrefl, List.length_map]
theorem wc34 {A : List (Int × Int)} (hl : A.length ≤ 1000) {o1 o2 : Option Bool} : WC Try.prog (AA b) (.fn (.func 34) [] []) [.v (SL 2 (A.map encS) o1), .v (SL 2 (A.map encS) o2)] m K = K (.bool true) m :=
  WC_flat (by simp only [mkAnn, K34]) (rfAs (xs := [SL 2 (A.map encS) o1, SL 2 (A.map encS) o2]) (by show ((SL 2 (A.map encS) o1).closed && ((SL 2 (A.map encS) o2).closed && true)) = true; rw [closed_SL (closedL_map clS A), closed_SL (closedL_map clS A)]; rfl)) (sameSpans_to hl) rfl
theorem wc34s {l : List (List Int)} {k n : Nat} (hl : n ≤ 1000) : WC Try.prog (AA b) (.fn (.func 34) [] []) [.v (spansV l k n), .v (spansV l k n)] m K = K (.bool true) m := by
  have := wc34 (b := b) (m := m) (K := K) (A := (List.range n).map fun i => joinT l (k + i)) (o1 := none) (o2 := none) (by rw [List.length_map, List.length_range]; exact hl)
  rw [List.map_map] at this
  exact this
theorem sameInts_to {A : List Int} (hl : A.length ≤ 1000) {o1 o2 : Option Bool} : Ans Try.prog (AA b) 23 [SL 1 (A.map I) o1, SL 1 (A.map I) o2] (fun v => v = .bool true) := by
  refine Ans_of Try.func23 rfl rfl ?_
  simp +contextual (maxSteps := 1000000) (disch := first | omega | (with_reducible first | refine krN ?_ | refine krS ?_ | refine krP ?_ | refine krG ?_); kernel_rfl | refine kr ?_; simp only [go_sem, reduceCtorEq, List.length_map]; done | fail) only [go_sem, seval, -List.reduceReplicate, List.length_map]
  refine wp_loop_to A.length (fun i st => ∃ (ex : List (Nat × Vl)), st = ({ sl := (0, SL 1 (A.map I) o1) :: (1, SL 1 (A.map I) o2) :: (5, .bool true) :: (6, I i) :: ex, hp := noHeap, nx := 0 } : FS)) ?_ 0 (Nat.zero_le _) ⟨_, rfl⟩
  rintro i st hi ⟨ex, rfl⟩
  by_cases hc : i < A.length
  · simp +contextual (maxSteps := 1000000) (disch := first | omega | (with_reducible first | refine krN ?_ | refine krS ?_ | refine krP ?_ | refine krG ?_); kernel_rfl | refine kr ?_; simp only [go_sem, reduceCtorEq, Int.ofNat_lt, hc, ix_map, List.length_map]; done | fail) only [go_sem, seval, -List.reduceReplicate, Int.ofNat_lt, hc, ix_map, List.length_map]
    exact ⟨_, rfl⟩
  · have hie : i = A.length := by omega
    subst hie
    simp +contextual (maxSteps := 1000000) (disch := first | omega | (with_reducible first | refine krN ?_ | refine krS ?_ | refine krP ?_ | refine krG ?_); kernel_rfl | refine kr ?_; simp only [go_sem, reduceCtorEq, Int.lt_irrefl, List.length_map]; done | fail) only [go_sem, seval, -List.reduceReplicate, Int.lt_irrefl, List.length_map]
theorem wc23 {A : List Int} (hl : A.length ≤ 1000) {o1 o2 : Option Bool} : WC Try.prog (AA b) (.fn (.func 23) [] []) [.v (SL 1 (A.map I) o1), .v (SL 1 (A.map I) o2)] m K = K (.bool true) m :=
  WC_flat (by simp only [mkAnn, K23]) (rfAs (xs := [SL 1 (A.map I) o1, SL 1 (A.map I) o2]) (by show ((SL 1 (A.map I) o1).closed && ((SL 1 (A.map I) o2).closed && true)) = true; rw [clIs, clIs]; rfl)) (sameInts_to hl) rfl
end
end Go.Proofs
