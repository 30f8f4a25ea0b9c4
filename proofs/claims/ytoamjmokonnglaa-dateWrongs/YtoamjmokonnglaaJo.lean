/- What functions of the given program do in the ideal machine (J25, J29), and the plain laws of what they answer; the conditions stand in each theorem. -/
import Derived.Test.YtoamjmokonnglaaJn
set_option linter.all false
set_option linter.unusedSectionVars false
set_option linter.unusedSimpArgs false
set_option linter.unusedVariables false
namespace Go.Proofs
open Go Go.Idl Go.Dt
set_option linter.unusedSimpArgs false
variable {b : Nat}
theorem to28 {lo hi : Int} : Ans Try.prog (AA b) 28 [I lo, I hi] (fun v => v = Sp lo hi) := by
  refine Ans_of Try.func28 rfl rfl ?_
  simp +contextual (maxSteps := 1000000) (disch := first | omega | (with_reducible first | refine krN ?_ | refine krS ?_ | refine krP ?_ | refine krG ?_); kernel_rfl | refine kr ?_; simp only [go_sem, reduceCtorEq]; done | fail) only [go_sem, seval, -List.reduceReplicate]
theorem wc28 {lo hi : Int} {m : Mem} {K : Vl → Mem → Prop} : WC Try.prog (AA b) (.fn (.func 28) [] []) [.v (.int .i64 lo), .v (.int .i64 hi)] m K = K (Sp lo hi) m := WC_flat (by simp only [mkAnn, K28]) rfl to28 rfl
theorem eqB {x y : Bool} : binOpV { ok := true, agg := false, size := 1, zero := Vl.bool false, flat := some [CK.b], k := TK.bool } .eql (.bool x) (.bool y) = some (.bool (x == y)) := rfl
theorem ap23b {m : Mem} {id n : Nat} {xs : List Vl} {x : Vl} {o : Bool} (ho : m.hp id = .arr 6 xs) (hn : xs.length = n) (hs : n < 100000) : isAppend Try.prog 23 23 (.own id n) (.lst 6 [x] o) m = some (.own id (n + 1), { m with hp := upd m.hp id (.arr 6 (xs ++ [x])) }) :=
  app1_own (by rw [td23]) ho hn (grow_ok rfl rfl (by decide) (by decide) (by omega))
set_option maxRecDepth 10000 in
set_option maxHeartbeats 4000000 in
theorem told_to {xs : List Int} (hn : xs.length ≤ 9223372036854775807) {o : Option Bool} : Ans Try.prog (AA 2) 9 [SL 1 (xs.map I) o] (fun v => v = .bool true) := by
  refine Ans_of Try.func9 rfl rfl ?_
  simp +contextual (maxSteps := 1000000) (disch := first | omega | (with_reducible first | refine krN ?_ | refine krS ?_ | refine krP ?_ | refine krG ?_); kernel_rfl | refine kr ?_; simp only [go_sem, reduceCtorEq]; done | fail) only [go_sem, seval, -List.reduceReplicate]
  refine wc_heap (by rfl) rfl (newUrn_to (b := 2) hn) ?_
  rintro v hp' nx' ⟨rfl, rfl, s, rfl⟩
  simp +contextual (maxSteps := 1000000) (disch := first | omega | (with_reducible first | refine krN ?_ | refine krS ?_ | refine krP ?_ | refine krG ?_); kernel_rfl | refine kr ?_; simp only [go_sem, reduceCtorEq]; done | fail) only [go_sem, seval, -List.reduceReplicate]
  refine wc_heap (by rfl) rfl (datingOf_to (b := 2) (s := s) (S := 4) (N := 7) (far := 12) (by decide) (by decide) (by first | decide | assumption)) ?_
  rintro v hp' nx' ⟨s, base, st, es, ns, ys, fs, g, hM, rfl, rfl, hn5⟩
  have r1 := rfd1 (s := s) (es := es) (ns := ns) (ys := ys) (fs := fs) (g := g)
  have r2 := rfd2 (s := s) (es := es) (ns := ns) (ys := ys) (fs := fs) (g := g)
  have r3 : reify (killHp [1, 2] (HPd ⟨s, es, ns, ys, fs⟩ g)) (.own 3 ys.length) = some (.lst 1 (ys.map I) false, [3]) := reify_flat (.inl rfl) rfl fun _ => rfl
  have r4 : reify (killHp [1, 2] (HPd ⟨s, es, ns, ys, fs⟩ g)) (.own 4 fs.length) = some (.lst 1 (fs.map I) false, [4]) := reify_flat (.inl rfl) rfl fun _ => rfl
  simp +contextual (maxSteps := 1000000) (disch := first | omega | (with_reducible first | refine krN ?_ | refine krS ?_ | refine krP ?_ | refine krG ?_); kernel_rfl | refine kr ?_; simp only [go_sem, reduceCtorEq, r1, r2, r3, r4]; done | fail) only [go_sem, seval, -List.reduceReplicate, r1, r2, r3, r4]
  clear r1 r2 r3 r4
  have hu : killHp [3, 4] (killHp [1, 2] (HPd ⟨s, es, ns, ys, fs⟩ g)) 0 = urnO s := rfl
  generalize killHp [3, 4] (killHp [1, 2] (HPd ⟨s, es, ns, ys, fs⟩ g)) = hk at hu
  rw [upd_urn hu]
  have hd := hM.dtok (by decide) (by decide)
  have hw := hM.truth (by decide) (by omega)
  obtain ⟨D, hD⟩ : ∃ D : Dt, D = ⟨st, es, ns⟩ := ⟨_, rfl⟩
  have e1 : Vl.agg [.int .i64 st, .lst 2 (es.map encS) false, .lst 6 (ns.map encN) false] = encD (some false) (some false) D := by rw [hD]; rfl
  have hDs : D.stones = st := by rw [hD]
  have hDe : D.eras = es := by rw [hD]
  have hDn : D.notes = ns := by rw [hD]
  rw [e1]
  rw [← hD] at hd hw
  clear e1 hD
  obtain ⟨hne, hf0, hc0⟩ := tabs_some hd hw
  have hst := hM.st_b
  have hyl := hM.ys_l
  have hfl := hM.fs_l
  have hel := hM.es_l
  have hbs := hM.bs
  have hnl := hM.ns_l
  have hL : D.stones.toNat = ys.length := by omega
  have hL' : ((ys.length : Nat) : Int) = D.stones := by omega
  have hEl : D.eras.length = fs.length := by rw [hDe, hfl]
  subst hDs
  have a1 := upR_b s (n := D.stones) (by omega)
  generalize hK : upR s D.stones = k at a1
  generalize hs1 : upS s D.stones = s1
  obtain ⟨k, rfl⟩ := Int.eq_ofNat_of_zero_le a1.1
  have hkl : k < ys.length := by omega
  have b1 := fromR_b s1 (lo := -6) (hi := 6) (by omega) (by omega) (by omega) (by omega)
  have b2 := anyR_mem (fromS s1 (-6) 6) (l := [0, fromR s1 (-6) 6]) (by simp) (by simp)
  simp only [List.mem_cons, List.not_mem_nil, or_false] at b2
  generalize hA : anyR (fromS s1 (-6) 6) [0, fromR s1 (-6) 6] = a at b2
  generalize hs2 : anyS (fromS s1 (-6) 6) [0, fromR s1 (-6) 6] = s2
  have hyi := hM.ys_b _ (get!_mem hkl)
  have hw1 : IntKind.wrap .i64 (ys[k]! + a) = ys[k]! + a := wrap_i64 (by omega) (by omega)
  have hyv : -3000 ≤ ys[k]! + a ∧ ys[k]! + a ≤ 3000 := by omega
  generalize hY : ys[k]! + a = year at hw1 hyv
  simp +contextual (maxSteps := 1000000) (disch := first | omega | (with_reducible first | refine krN ?_ | refine krS ?_ | refine krP ?_ | refine krG ?_); kernel_rfl | refine kr ?_; simp only [go_sem, reduceCtorEq, hK, hs1, upd_upd, hA, hs2, hkl, ix_lst, hY, hw1]; done | fail) only [go_sem, seval, -List.reduceReplicate, hK, hs1, upd_upd, hA, hs2, hkl, ix_lst, hY, hw1]
  have he3 := hd.eras_l
  have hn8 := hd.notes_l
  refine wc_heap (by rfl) rfl (copy_to (b := 2) (d := D) (o1 := some false) (o2 := some false) (by omega) (by omega) (fun n hn => ?_)) ?_
  · have k := hd.notes n hn
    by_cases e : n.kind = 1
    · have := (k.years e).2.2.2.2.1; omega
    · rw [(k.span e).1]; simp
  rintro v hp2 nx2 ⟨rfl, q1, q2, q3, q4⟩
  obtain ⟨nt, hnt⟩ : ∃ nt, nt = yearNt k year (some true) := ⟨_, rfl⟩
  have hcl : (copyD D).notes.length = D.notes.length := by unfold copyD; simp
  have hap : ∀ t, isAppend Try.prog 23 23 (.own (nx' + 1) D.notes.length) (.lst 6 [.agg [.int .i64 1, .int .i64 k, .int .i64 0, .lst 1 [.int .i64 year] true, .int .i64 0, .int .i64 0]] t) { lc := [], hp := hp2, nx := nx2 } = some (.own (nx' + 1) (D.notes.length + 1), { lc := [], hp := upd hp2 (nx' + 1) (.arr 6 ((moreD D nt).notes.map encN)), nx := nx2 }) := fun t => by
    rw [ap23b q2 (by rw [List.length_map]; exact hcl) (by omega), hnt]
    unfold moreD
    rw [List.map_append]; rfl
  have hr1 : reify (upd hp2 (nx' + 1) (.arr 6 ((moreD D nt).notes.map encN))) (.own nx' D.eras.length) = some (.lst 2 (D.eras.map encS) false, [nx']) := reify_flat (.inl (by rw [upd_ne _ _ (by omega)]; exact q1)) rfl fun _ => rfl
  have hr2 : reify (upd hp2 (nx' + 1) (.arr 6 ((moreD D nt).notes.map encN))) (.own (nx' + 1) (D.notes.length + 1)) = some (.lst 6 ((moreD D nt).notes.map encN) false, [nx' + 1]) := reify_flat (.inl (upd_same _ _ _)) (by unfold moreD; simp [hcl]) fun n => reify_closedV _ (clN n)
  simp +contextual (maxSteps := 1000000) (disch := first | omega | (with_reducible first | refine krN ?_ | refine krS ?_ | refine krP ?_ | refine krG ?_); kernel_rfl | refine kr ?_; simp only [go_sem, reduceCtorEq, hap, hr1, hr2]; done | fail) only [go_sem, seval, -List.reduceReplicate, hap, hr1, hr2]
  have e2 : Vl.agg [.int .i64 D.stones, .lst 2 (D.eras.map encS) false, .lst 6 ((moreD D nt).notes.map encN) false] = encD (some false) (some false) (moreD D nt) := rfl
  rw [e2]
  have e3 : (moreD D nt).stones = D.stones := rfl
  have hp := told_pure hd hw (k := k) (y := year) (o := some true) (by omega) hyv (by rw [hDn]; omega)
  rw [← hnt] at hp
  obtain ⟨c0, c1, _, _⟩ := cut_1 hd hw (i := k) (y := year) (by omega) hyv
  clear hap hr1 hr2 e2 q1 q2 q3 q4
  generalize moreD D nt = X at hp e3
  have hX6 : X.stones.toNat = ys.length := by rw [e3]; exact hL
  rcases hp with ⟨hX, hv⟩ | ⟨hX, hv, hj, hiff⟩
  · rw [hv] at c1
    simp +contextual (maxSteps := 1000000) (disch := first | omega | (with_reducible first | refine krN ?_ | refine krS ?_ | refine krP ?_ | refine krG ?_); kernel_rfl | refine kr ?_; simp only [go_sem, reduceCtorEq, wc41, c0, hv, wc27, hf0, hX, len_spans, slot_spans, hL, hL', wc15]; done | fail) only [go_sem, seval, -List.reduceReplicate, wc41, c0, hv, wc27, hf0, hX, len_spans, slot_spans, hL, hL', wc15]
  · by_cases hjD : joinT (tabsL D) (1 + k) = (year, year)
    · have hv1 := hiff.2 hjD
      simp +contextual (maxSteps := 1000000) (disch := first | omega | (with_reducible first | refine krN ?_ | refine krS ?_ | refine krP ?_ | refine krG ?_); kernel_rfl | refine kr ?_; simp only [go_sem, reduceCtorEq, wc41, c0, hv1, wc27, hf0, hX, len_spans, slot_spans, hL, hL', wc15, hX6, ix_spans, hkl, hj, hjD, wc28, eqB, beq_self_eq_true]; done | fail) only [go_sem, seval, -List.reduceReplicate, wc41, c0, hv1, wc27, hf0, hX, len_spans, slot_spans, hL, hL', wc15, hX6, ix_spans, hkl, hj, hjD, wc28, eqB, beq_self_eq_true]
    · have hv3 : (cutV D k year).1 = 3 := by have : (cutV D k year).1 ≠ 1 := fun h => hjD (hiff.1 h); omega
      have hne2 : ¬ ((joinT (tabsL D) (1 + k)).1 = year ∧ (joinT (tabsL D) (1 + k)).2 = year) := fun h => hjD (Prod.ext h.1 h.2)
      simp +contextual (maxSteps := 1000000) (disch := first | omega | (with_reducible first | refine krN ?_ | refine krS ?_ | refine krP ?_ | refine krG ?_); kernel_rfl | refine kr ?_; simp only [go_sem, reduceCtorEq, wc41, c0, hv3, wc27, hf0, hX, len_spans, slot_spans, hL, hL', wc15, hX6, ix_spans, hkl, hj, hne2, wc28, eqB, beq_self_eq_true]; done | fail) only [go_sem, seval, -List.reduceReplicate, wc41, c0, hv3, wc27, hf0, hX, len_spans, slot_spans, hL, hL', wc15, hX6, ix_spans, hkl, hj, hne2, wc28, eqB, beq_self_eq_true]
end Go.Proofs
namespace Go.Proofs
open Go Go.Idl Go.Dt
set_option linter.unusedSimpArgs false
variable {b : Nat}
def nrS (s : Int × Int) (lo n : Int) : Int × Int := anyS (fromS s lo n) [lo, fromR s lo n]
def nrLo (s : Int × Int) (lo n : Int) : Int := anyR (fromS s lo n) [lo, fromR s lo n]
def nrHi (s : Int × Int) (lo hi n : Int) : Int := anyR (fromS (nrS s lo n) n hi) [hi, fromR (nrS s lo n) n hi]
def nrE (s : Int × Int) (lo hi n : Int) : Int × Int := anyS (fromS (nrS s lo n) n hi) [hi, fromR (nrS s lo n) n hi]
theorem narrow_x {u nx : Nat} {hp : Nat → Ob} {lo hi n : Int} (h : UrnOk u hp) : HAns Try.prog (AA b) 49 [.bp u 0, Sp lo hi, I n] hp nx fun v h' n' => v = Sp (nrLo (urnAt u hp) lo n) (nrHi (urnAt u hp) lo hi n) ∧ h' = upd hp u (.box (.agg [U (nrE (urnAt u hp) lo hi n).1, U (nrE (urnAt u hp) lo hi n).2])) ∧ n' = nx := by
  refine HAns_of Try.func49 rfl ?_
  simp +contextual (maxSteps := 1000000) (disch := first | omega | (with_reducible first | refine krN ?_ | refine krS ?_ | refine krP ?_ | refine krG ?_); kernel_rfl | refine kr ?_; simp only [go_sem, reduceCtorEq, h]; done | fail) only [go_sem, seval, -List.reduceReplicate, h]
  repeat' (first | exact trivial | rfl | apply And.intro)
theorem nr_b (s : Int × Int) {lo hi n : Int} (h0 : -3000 ≤ lo) (h1 : lo ≤ n) (h2 : n ≤ hi) (h3 : hi ≤ 3000) : lo ≤ nrLo s lo n ∧ nrLo s lo n ≤ n ∧ n ≤ nrHi s lo hi n ∧ nrHi s lo hi n ≤ hi := by
  have a1 := fromR_b s (lo := lo) (hi := n) (by omega) (by omega) (by omega) (by omega)
  have a2 := fromR_b (nrS s lo n) (lo := n) (hi := hi) (by omega) (by omega) (by omega) (by omega)
  have a3 := anyR_mem (fromS s lo n) (l := [lo, fromR s lo n]) (by simp) (by simp)
  have a4 := anyR_mem (fromS (nrS s lo n) n hi) (l := [hi, fromR (nrS s lo n) n hi]) (by simp) (by simp)
  simp only [List.mem_cons, List.not_mem_nil, or_false] at a3 a4
  unfold nrLo nrHi
  omega
section
variable {m : Mem} {K : Vl → Mem → Prop} {u : Nat}
theorem wc49 {lo hi n : Int} (h : UrnOk u m.hp) : WC Try.prog (AA b) (.fn (.func 49) [] []) [.v (.bp u 0), .v (.agg [.int .i64 lo, .int .i64 hi]), .v (.int .i64 n)] m K = K (Sp (nrLo (urnAt u m.hp) lo n) (nrHi (urnAt u m.hp) lo hi n)) { m with hp := upd m.hp u (.box (.agg [U (nrE (urnAt u m.hp) lo hi n).1, U (nrE (urnAt u m.hp) lo hi n).2])) } :=
  WC_heap (by simp only [mkAnn, K49]) rfl (narrow_x h)
theorem within50_to {a c x y : Int} (h : x ≤ a ∧ c ≤ y) : Ans Try.prog (AA b) 50 [.agg [I a, I c], .agg [I x, I y]] (fun v => v = .bool true) := by
  refine Ans_of Try.func50 rfl rfl ?_
  obtain ⟨h1, h2⟩ := h
  simp +contextual (maxSteps := 1000000) (disch := first | omega | (with_reducible first | refine krN ?_ | refine krS ?_ | refine krP ?_ | refine krG ?_); kernel_rfl | refine kr ?_; simp only [go_sem, reduceCtorEq, h1, h2]; done | fail) only [go_sem, seval, -List.reduceReplicate, h1, h2]
theorem wc50 {a c x y : Int} (h : x ≤ a ∧ c ≤ y) : WC Try.prog (AA b) (.fn (.func 50) [] []) [.v (.agg [.int .i64 a, .int .i64 c]), .v (.agg [.int .i64 x, .int .i64 y])] m K = K (.bool true) m :=
  WC_flat (by simp only [mkAnn, K50]) (rfAs (xs := [.agg [I a, I c], .agg [I x, I y]]) rfl) (within50_to h) rfl
end
def nrwD (d : Dt) (es : List (Int × Int)) (n : Nt) : Dt := ⟨d.stones, es, (copyD d).notes ++ [n]⟩
def spanNt (k lo hi : Int) : Nt := ⟨2, k, 0, lo, hi, [], none⟩
theorem spanNt_ok {d : Dt} {k lo hi : Int} (hk : 0 ≤ k ∧ k < d.stones) (hs : SpanOk lo hi) : NtOk d (spanNt k lo hi) where
  kind := ⟨(by decide : (1 : Int) ≤ 2), (by decide : (2 : Int) ≤ 4)⟩
  stone := hk
  years h := absurd h (by decide : (2 : Int) ≠ 1)
  span _ := ⟨rfl, hs⟩
  plain _ := rfl
  era h := absurd h (by decide : (2 : Int) ≠ 3)
  after h := absurd h (by decide : (2 : Int) ≠ 4)
theorem nrwD_ok {d : Dt} (h : DtOk d) {es : List (Int × Int)} (hl : es.length = d.eras.length) (he : ∀ s ∈ es, SpanOk s.1 s.2) {n : Nt} (hn : NtOk d n) (hl7 : d.notes.length ≤ 7) : DtOk (nrwD d es n) where
  stones := h.stones
  eras_l := by have := h.eras_l; show es.length ≤ 3; omega
  eras := he
  notes_l := by unfold nrwD copyD; simp; omega
  notes m hm := by
    rcases List.mem_append.1 hm with hm | hm
    · obtain ⟨k, hk, rfl⟩ := List.mem_map.1 hm
      have g := h.notes k hk
      exact ⟨g.kind, g.stone, g.years, g.span, g.plain, fun e => by have := g.era e; refine ⟨this.1, ?_, this.2.2⟩; show _ < ((es.length : Nat) : Int); rw [hl]; exact this.2.1, g.after⟩
    · rw [List.mem_singleton.1 hm]
      have g := hn
      exact ⟨g.kind, g.stone, g.years, g.span, g.plain, fun e => by have := g.era e; refine ⟨this.1, ?_, this.2.2⟩; show _ < ((es.length : Nat) : Int); rw [hl]; exact this.2.1, g.after⟩
theorem nrwD_tr {d : Dt} {es : List (Int × Int)} (hl : es.length = d.eras.length) (he : ∀ j, j < d.eras.length → (d.eras[j]!).1 ≤ (es[j]!).1 ∧ (es[j]!).2 ≤ (d.eras[j]!).2) {n : Nt} {w : Nat → Int} (hw : TrD (nrwD d es n) w) : TrD d w := by
  obtain ⟨a, c, e, f⟩ := hw
  refine ⟨a, c, fun j hj => ?_, fun m hm => ?_⟩
  · have h1 := e j (by show j < es.length; omega)
    have h2 := he j hj
    have h1 : (es[j]!).1 ≤ w (7 + j) ∧ w (7 + j) ≤ (es[j]!).2 := h1
    omega
  · exact f (recl m) (List.mem_append_left _ (List.mem_map_of_mem hm))
theorem sub_hull {d d' : Dt} (h : DtOk d) (h' : DtOk d') (hne : tabsL d ≠ []) (hne' : tabsL d' ≠ []) (hT : ∀ u, TrD d' u → TrD d u) {v : Nat} (hv : v < 10) : (joinT (tabsL d) v).1 ≤ (joinT (tabsL d') v).1 ∧ (joinT (tabsL d') v).2 ≤ (joinT (tabsL d) v).2 := by
  obtain ⟨a1, _, _⟩ := hullD h hne hv
  obtain ⟨_, ⟨w1, b1, b2⟩, w2, b3, b4⟩ := hullD h' hne' hv
  have := a1 w1 (hT _ b1)
  have := a1 w2 (hT _ b3)
  omega
theorem sub_cut {d d' : Dt} (h : DtOk d) (h' : DtOk d') (hs : d'.stones = d.stones) {w w' : Nat → Int} (hw : TrD d w) (hw' : TrD d' w') (hT : ∀ u, TrD d' u → TrD d u) {i : Nat} {y : Int} (hi : (i : Int) < d.stones) (hy : -3000 ≤ y ∧ y ≤ 3000) : (cutV d i y).2 = 0 ∧ (cutV d' i y).2 = 0 ∧ ((cutV d i y).1 = 3 ∨ (cutV d' i y).1 = (cutV d i y).1) := by
  obtain ⟨a1, a2, a3, a4⟩ := cut_1 h hw hi hy
  obtain ⟨b1, b2, b3, b4⟩ := cut_1 h' hw' (by omega) hy (i := i)
  refine ⟨a1, b1, ?_⟩
  by_cases e1 : (cutV d i y).1 = 1
  · right; rw [e1, b3]; exact fun u hu => a3.1 e1 u (hT u hu)
  · by_cases e2 : (cutV d i y).1 = 2
    · right; rw [e2, b4]; exact fun u hu => a4.1 e2 u (hT u hu)
    · left; omega
theorem sub_ear {d d' : Dt} (h : DtOk d) (h' : DtOk d') (hs : d'.stones = d.stones) {w w' : Nat → Int} (hw : TrD d w) (hw' : TrD d' w') (hT : ∀ u, TrD d' u → TrD d u) {a c : Nat} (ha : (a : Int) < d.stones) (hc : (c : Int) < d.stones) : (earV d a c).2 = 0 ∧ (earV d' a c).2 = 0 ∧ ((earV d a c).1 = 3 ∨ (earV d' a c).1 = (earV d a c).1) := by
  obtain ⟨a1, a2, a3, a4⟩ := ear_1 h hw ha hc
  obtain ⟨b1, b2, b3, b4⟩ := ear_1 h' hw' (by omega) (by omega) (a := a) (c := c)
  refine ⟨a1, b1, ?_⟩
  by_cases e1 : (earV d a c).1 = 1
  · right; rw [e1, b3]; exact fun u hu => a3.1 e1 u (hT u hu)
  · by_cases e2 : (earV d a c).1 = 2
    · right; rw [e2, b4]; exact fun u hu => a4.1 e2 u (hT u hu)
    · left; omega
end Go.Proofs
