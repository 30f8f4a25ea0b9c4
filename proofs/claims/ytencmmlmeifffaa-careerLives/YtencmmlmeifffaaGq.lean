/- What functions of the given program do in the ideal machine (G53, N1), and the plain laws of what they answer; the conditions stand in each theorem. -/
import Derived.Test.YtencmmlmeifffaaGp
import Derived.Test.YtencmmlmeifffaaGg
import Derived.Test.YtencmmlmeifffaaGf
import Derived.Test.YtencmmlmeifffaaIf
import Derived.Test.YtencmmlmeifffaaGa
import Derived.Test.YtencmmlmeifffaaChecked
set_option linter.all false
set_option linter.unusedSectionVars false
set_option linter.unusedSimpArgs false
set_option linter.unusedVariables false
namespace Go.Proofs
open Go Go.Idl
set_option linter.unusedSimpArgs false
variable {b : Bool}
theorem killC_low {h : Nat → Ob} {n : Nat} {s : Int × Int} {os : List Office} {ms : List Man} {cs : List Rec} {fs : List (List Bool)} {ks : List Nat} (hn : 0 < n) (hk : ∀ k ∈ ks, n ≤ k) : killHp ks (CPr h n ⟨s, os, ms, cs, fs⟩) 0 = urnO s := by
  rw [killHp_ne (fun h0 => by have := hk 0 h0; omega)]
  rfl
theorem Narrow20.wf {r : Roll} (h : WF r) : Narrow20 r := by
  have h1 := h.os_l
  have h2 := h.fs_l
  have h3 := h.ms_l
  have h4 := h.cs_l
  exact ⟨by omega, by omega, by omega, by omega, fun i hi => by rw [h.fs_ok _ (get!_mem hi)]; omega⟩
section
variable {r : Roll} {m : Mem} {K : Vl → Mem → Prop} {o1 o2 o3 o4 : Option Bool}
theorem wide_wc (hf : r.fs.length ≤ 9223372036854775807) (h : ∀ t : Bool, (t = false → Narrow20 r) → K (.bool t) m) : WC Try.prog (AA b) (.fn (.func 14) [] []) [.v (encRoll o1 o2 o3 o4 r)] m K := by
  refine wc_ans (by simp only [mkAnn, K14]) (rfAs (xs := [encRoll o1 o2 o3 o4 r]) clR1) (wide_to (b := b) (o1 := o1) (o2 := o2) (o3 := o3) (o4 := o4) hf) ?_
  rintro v ⟨t, rfl, ht⟩
  exact ⟨rfl, h t ht⟩
theorem busyX_wc (hn : Narrow20 r) (h : ∀ t : Bool, K (.bool t) m) : WC Try.prog (AA b) (.fn (.func 15) [] []) [.v (encRoll o1 o2 o3 o4 r)] m K := by
  obtain ⟨h1, h2, h3, h4⟩ := n20 hn
  refine wc_ans (by simp only [mkAnn, K15]) (rfAs (xs := [encRoll o1 o2 o3 o4 r]) clR1) (busyX_to (b := b) (o1 := o1) (o2 := o2) (o3 := o3) (o4 := o4) h1 h2 h3 h4) ?_
  rintro v ⟨t, rfl⟩
  exact ⟨rfl, h t⟩
end
section
variable {life plo phi : Int} {T : Nat} {F : Nat → Nat → Bool} {os : List Office} {ms : List Man} {cs : List Rec}
theorem enc_rollE : Vl.agg [.lst 3 (os.map encO) false, I life, I plo, I phi, .lst 1 ((rowsL T F).map encRow) false, .lst 5 (ms.map encM) false, .lst 7 (cs.map encC) false] = encRoll (some false) (some false) (some false) (some false) (rollD life plo phi T F os ms cs) := rfl
end
def moreR (R : Roll) (c : Rec) : Roll := ⟨R.os, R.life, R.plo, R.phi, R.fs, R.ms, R.cs ++ [c]⟩
theorem apC4 {h : Nat → Ob} {n : Nat} {s : Int × Int} {os : List Office} {ms : List Man} {cs : List Rec} {fs : List (List Bool)} {c : Rec} {t : Bool} {lc : List (Nat × Vl)} {nx : Nat} (hl : cs.length ≤ 1000) :
    isAppend Try.prog 27 27 (.own (n + 2) cs.length) (.lst 7 [.agg [.bool c.kin, I c.man, I c.office, I c.town, I c.child, I c.lo, I c.hi]] t) ⟨lc, CPr h n ⟨s, os, ms, cs, fs⟩, nx⟩ = some (.own (n + 2) (cs.length + 1), ⟨lc, CPr h n ⟨s, os, ms, cs ++ [c], fs⟩, nx⟩) := by
  have := app1_own (P := Try.prog) (t := 27) (e := 7) (eb := 56) (ez := .agg [.bool false, I 0, I 0, I 0, I 0, I 0, I 0]) (x := encC c) (b := t) (id := n + 2) (n := cs.length) (xs := cs.map encC) (m := ⟨lc, CPr h n ⟨s, os, ms, cs, fs⟩, nx⟩) (by rw [td27]) CPr_4 (List.length_map encC) (grow_ok rfl rfl (by decide) (by decide) (by omega))
  rw [show (cs.map encC ++ [encC c]) = (cs ++ [c]).map encC by rw [List.map_append]; rfl] at this
  simp only [CPr_cs] at this
  exact this
theorem wc26l {A : List (Int × Int)} {t1 t2 : Bool} {m : Mem} {K : Vl → Mem → Prop} (hl : A.length ≤ 1000) : WC Try.prog (AA b) (.fn (.func 26) [] []) [.v (.lst 2 (A.map encS) t1), .v (.lst 2 (A.map encS) t2)] m K = K (.bool true) m := wc26 (o1 := some t1) (o2 := some t2) hl
theorem wc26n {m : Mem} {K : Vl → Mem → Prop} : WC Try.prog (AA b) (.fn (.func 26) [] []) [.v .nils, .v .nils] m K = K (.bool true) m := wc26 (A := []) (o1 := none) (o2 := none) (by decide)
set_option maxRecDepth 10000 in
set_option maxHeartbeats 8000000 in
theorem lives3_to {x : Roll} {c : Rec} {ns : List Int} (hx : x.fs.length ≤ 9223372036854775807) (hn : ns.length ≤ 9223372036854775807) {o1 o2 o3 o4 o : Option Bool} : Ans Try.prog (AA true) 3 [encRoll o1 o2 o3 o4 x, encC c, SL 1 (ns.map I) o] (fun v => v = .bool true) := by
  refine Ans_of Try.func3 rfl rfl ?_
  simp +contextual (maxSteps := 1000000) (disch := first | omega | (with_reducible first | refine krN ?_ | refine krS ?_ | refine krP ?_ | refine krG ?_); kernel_rfl | refine kr ?_; simp only [go_sem, reduceCtorEq, encC]; done | fail) only [go_sem, seval, -List.reduceReplicate, encC]
  refine wide_wc hx fun t ht => ?_
  cases t with
  | true => simp +contextual (maxSteps := 1000000) (disch := first | omega | (with_reducible first | refine krN ?_ | refine krS ?_ | refine krP ?_ | refine krG ?_); kernel_rfl | refine kr ?_; simp only [go_sem, reduceCtorEq, wc16]; done | fail) only [go_sem, seval, -List.reduceReplicate, wc16]
  | false =>
  have hx20 := ht rfl
  clear ht
  simp +contextual (maxSteps := 1000000) (disch := first | omega | (with_reducible first | refine krN ?_ | refine krS ?_ | refine krP ?_ | refine krG ?_); kernel_rfl | refine kr ?_; simp only [go_sem, reduceCtorEq]; done | fail) only [go_sem, seval, -List.reduceReplicate]
  refine busyX_wc hx20 fun t => ?_
  cases t with
  | true => simp +contextual (maxSteps := 1000000) (disch := first | omega | (with_reducible first | refine krN ?_ | refine krS ?_ | refine krP ?_ | refine krG ?_); kernel_rfl | refine kr ?_; simp only [go_sem, reduceCtorEq, wc16]; done | fail) only [go_sem, seval, -List.reduceReplicate, wc16]
  | false =>
  simp +contextual (maxSteps := 1000000) (disch := first | omega | (with_reducible first | refine krN ?_ | refine krS ?_ | refine krP ?_ | refine krG ?_); kernel_rfl | refine kr ?_; simp only [go_sem, reduceCtorEq]; done | fail) only [go_sem, seval, -List.reduceReplicate]
  refine wc_heap (by simp only [mkAnn, K18]) rfl (newUrn_to (b := true) hn) ?_
  rintro v hp' nx' ⟨rfl, rfl, p, q, rfl⟩
  simp +contextual (maxSteps := 1000000) (disch := first | omega | (with_reducible first | refine krN ?_ | refine krS ?_ | refine krP ?_ | refine krG ?_); kernel_rfl | refine kr ?_; simp only [go_sem, reduceCtorEq]; done | fail) only [go_sem, seval, -List.reduceReplicate]
  refine wc_heap (by simp only [mkAnn, K17]) rfl (rollOf_to (b := true) (s := (p, q)) (men := 4) (recs := 5) (by decide) (by decide) (by decide) (by decide)) ?_
  rintro v hp' nx' ⟨s, life, plo, phi, T, F, os, ms, cs, bs, ds, ys, hR, rfl, rfl, rfl⟩
  have hw := hR.wf (by decide) (by decide)
  have hT1 := hR.T_b
  have hcl := hR.cs_b
  clear hR
  have r1 := rfR1 (s := s) (os := os) (ms := ms) (cs := cs) (T := T) (t := T) (F := F) (x := true) (bs := bs) (ds := ds) (ys := ys) rfl
  have r2 := rfR2 (s := s) (os := os) (ms := ms) (cs := cs) (T := T) (F := F) (x := true) (bs := bs) (ds := ds) (ys := ys)
  have r3 := rfR3 (s := s) (os := os) (ms := ms) (cs := cs) (T := T) (t := T) (F := F) (x := true) (bs := bs) (ds := ds) (ys := ys) rfl
  have r4 := rfR4 (s := s) (os := os) (ms := ms) (cs := cs) (T := T) (t := T) (F := F) (x := true) (bs := bs) (ds := ds) (ys := ys) rfl
  simp +contextual (maxSteps := 1000000) (disch := first | omega | (with_reducible first | refine krN ?_ | refine krS ?_ | refine krP ?_ | refine krG ?_); kernel_rfl | refine kr ?_; simp only [go_sem, reduceCtorEq, r1, r2, r3, r4]; done | fail) only [go_sem, seval, -List.reduceReplicate, r1, r2, r3, r4]
  clear r1 r2 r3 r4
  generalize hhk : killHp _ (HPr _) = hk
  have hk0 := killHp_low hT1.1 hhk
  rw [enc_rollE]
  obtain ⟨R, hRd⟩ : ∃ R, R = rollD life plo phi T F os ms cs := ⟨_, rfl⟩
  have hcl : (R.cs.length : Int) ≤ 5 := by rw [hRd]; exact hcl
  rw [← hRd] at hw ⊢
  obtain ⟨nx, hnx⟩ : ∃ nx, nx = 5 + T + 1 + 1 + 1 := ⟨_, rfl⟩
  have hnx0 : 0 < nx := by omega
  rw [← hnx]
  clear hhk hRd hnx hT1
  have hos := hw.os_l
  have hms := hw.ms_l
  have hfs := hw.fs_l
  refine wc_heap (by simp only [mkAnn, K19]) rfl (copy_to (b := true) (s := s) (by omega) (by omega) (by omega) (by omega) (fun w h => by rw [hw.fs_ok w h]; omega) hnx0 hk0) ?_
  rintro v hp' nx' ⟨rfl, rfl, rfl⟩
  have f1 := rfC1 (h := hk) (n := nx) (s := s) (os := R.os) (ms := R.ms) (cs := R.cs ++ [c]) (fs := R.fs) hnx0 rfl
  have f2 := rfC2 (h := hk) (n := nx) (s := s) (os := R.os) (ms := R.ms) (cs := R.cs ++ [c]) (fs := R.fs) rfl
  have f3 := rfC3 (h := hk) (n := nx) (s := s) (os := R.os) (ms := R.ms) (cs := R.cs ++ [c]) (fs := R.fs) rfl
  have f4 := rfC4 (h := hk) (n := nx) (s := s) (os := R.os) (ms := R.ms) (cs := R.cs ++ [c]) (fs := R.fs) (k := R.cs.length + 1) (by simp)
  have ap := fun (t : Bool) (lc : List (Nat × Vl)) (k : Nat) => apC4 (h := hk) (n := nx) (s := s) (os := R.os) (ms := R.ms) (cs := R.cs) (fs := R.fs) (c := c) (t := t) (lc := lc) (nx := k) (by omega)
  simp +contextual (maxSteps := 1000000) (disch := first | omega | (with_reducible first | refine krN ?_ | refine krS ?_ | refine krP ?_ | refine krG ?_); kernel_rfl | refine kr ?_; simp only [go_sem, reduceCtorEq, ap, f1, f2, f3, f4]; done | fail) only [go_sem, seval, -List.reduceReplicate, ap, f1, f2, f3, f4]
  clear f1 f2 f3 f4 ap
  generalize hL : (List.cons (Vl.agg _) (List.cons (Vl.agg _) (List.cons (Vl.agg _) List.nil))) = L
  have hLl : L.length = 3 := by rw [← hL]; rfl
  have hR20 := Narrow20.wf hw
  have hLe : ∀ i, i < 3 → ∃ (p1 p2 p3 p4 : Option Bool) (r : Roll), L.getD i .undef = encRoll p1 p2 p3 p4 r ∧ Narrow20 r := fun i hi => by
    rw [← hL]
    obtain rfl | rfl | rfl : i = 0 ∨ i = 1 ∨ i = 2 := by omega
    · exact ⟨o1, o2, o3, o4, x, rfl, hx20⟩
    · exact ⟨some false, some false, some false, some false, R, rfl, hR20⟩
    · refine ⟨some false, some false, some false, some false, moreR R c, rfl, ?_⟩
      obtain ⟨n1, n2, n3, n4, n5⟩ := hR20
      refine ⟨n1, n2, n3, ?_, n5⟩
      show (R.cs ++ [c]).length ≤ 20
      rw [List.length_append]; show R.cs.length + 1 ≤ 20; omega
  clear hL
  generalize hk2e : killHp _ (CPr _ _ _) = hk2
  have hk20 : hk2 0 = urnO s := by
    rw [← hk2e]
    refine killC_low hnx0 fun k hk => ?_
    simp only [List.mem_cons, List.mem_append, List.mem_flatten, List.mem_map, List.mem_range, List.not_mem_nil, or_false] at hk
    rcases hk with rfl | rfl | ⟨l, ⟨j, hj, rfl⟩, hm⟩ | rfl | rfl
    · omega
    · omega
    · rw [List.mem_singleton] at hm; omega
    · omega
    · omega
  clear hk2e hk0 hR20 hfs hms hos hcl hw
  obtain ⟨ny, hny⟩ : ∃ ny, ny = nx + 4 + R.fs.length := ⟨_, rfl⟩
  have hny0 : 0 < ny := by omega
  rw [← hny]
  clear hny
  refine wp_loop_to 3 (fun i st => ∃ (hp : Nat → Ob) (nx : Nat) (s : Int × Int) (ex : List (Nat × Vl)), hp 0 = urnO s ∧ 0 < nx ∧ st = ({ sl := (10, .lst 7 L true) :: (11, I i) :: ex, hp := hp, nx := nx } : FS)) ?_ 0 (Nat.zero_le _) ⟨hk2, ny, s, [], hk20, hny0, rfl⟩
  clear hk20 hny0 hk2 ny hnx0 nx R s hk
  rintro i st hi ⟨hp, nx, s, ex, hp0, hnx, rfl⟩
  by_cases hc : i < 3
  case neg =>
    obtain rfl : i = 3 := by omega
    simp +contextual (maxSteps := 1000000) (disch := first | omega | (with_reducible first | refine krN ?_ | refine krS ?_ | refine krP ?_ | refine krG ?_); kernel_rfl | refine kr ?_; simp only [go_sem, reduceCtorEq, hLl, wc16]; done | fail) only [go_sem, seval, -List.reduceReplicate, hLl, wc16]
  obtain ⟨p1, p2, p3, p4, r, hr, hr20⟩ := hLe i hc
  have hix : ∀ m, indexAddrV (.slice 7 120 (.agg [.nils, I 0, I 0, I 0, .nils, .nils, .nils])) (.v (.lst 7 L true)) (.int .i64 i) m = some (.v (.fp (encRoll p1 p2 p3 p4 r) 0), m) := fun m => by
    have := indexAddr_SL (e := 7) (xs := L) (o := some true) (eb := 120) (ez := .agg [.nils, I 0, I 0, I 0, .nils, .nils, .nils]) (k := .i64) (i := i) (m := m) (by rw [hLl]; omega) (by decide)
    rw [show ((i : Int)).toNat = i from Int.toNat_natCast i, hr] at this
    exact this
  have hci : (i : Int) < 3 := by omega
  simp +contextual (maxSteps := 1000000) (disch := first | omega | (with_reducible first | refine krN ?_ | refine krS ?_ | refine krP ?_ | refine krG ?_); kernel_rfl | refine kr ?_; simp only [go_sem, reduceCtorEq, hLl, hix, hci]; done | fail) only [go_sem, seval, -List.reduceReplicate, hLl, hix, hci]
  refine busyX_wc hr20 fun t => ?_
  cases t with
  | true =>
    simp +contextual (maxSteps := 1000000) (disch := first | omega | (with_reducible first | refine krN ?_ | refine krS ?_ | refine krP ?_ | refine krG ?_); kernel_rfl | refine kr ?_; simp only [go_sem, reduceCtorEq]; done | fail) only [go_sem, seval, -List.reduceReplicate]
    exact ⟨hc, hp, nx, s, _, hp0, hnx, rfl⟩
  | false =>
  simp +contextual (maxSteps := 1000000) (disch := first | omega | (with_reducible first | refine krN ?_ | refine krS ?_ | refine krP ?_ | refine krG ?_); kernel_rfl | refine kr ?_; simp only [go_sem, reduceCtorEq, hLl, hix]; done | fail) only [go_sem, seval, -List.reduceReplicate, hLl, hix]
  obtain ⟨n1, n2, n3, n4, n5⟩ := id hr20
  refine wc_heap (by simp only [mkAnn, K19]) rfl (copy_to (b := true) (s := s) (by omega) (by omega) (by omega) (by omega) (fun w h => by
    obtain ⟨j, hj, rfl⟩ := List.getElem_of_mem h
    have := n5 j hj
    rw [get!_eq hj] at this; omega) hnx hp0) ?_
  rintro v hp' nx' ⟨rfl, rfl, rfl⟩
  have f1 := rfC1 (h := hp) (n := nx) (s := s) (os := r.os) (ms := r.ms) (cs := r.cs) (fs := r.fs) hnx rfl
  have f2 := rfC2 (h := hp) (n := nx) (s := s) (os := r.os) (ms := r.ms) (cs := r.cs) (fs := r.fs) rfl
  have f3 := rfC3 (h := hp) (n := nx) (s := s) (os := r.os) (ms := r.ms) (cs := r.cs) (fs := r.fs) rfl
  have f4 := rfC4 (h := hp) (n := nx) (s := s) (os := r.os) (ms := r.ms) (cs := r.cs) (fs := r.fs) rfl
  simp +contextual (maxSteps := 1000000) (disch := first | omega | (with_reducible first | refine krN ?_ | refine krS ?_ | refine krP ?_ | refine krG ?_); kernel_rfl | refine kr ?_; simp only [go_sem, reduceCtorEq, f1, f2, f3, f4]; done | fail) only [go_sem, seval, -List.reduceReplicate, f1, f2, f3, f4]
  clear f1 f2 f3 f4
  generalize hk2e : killHp _ (CPr _ _ _) = hk2
  have hk20 : hk2 0 = urnO s := by
    rw [← hk2e]
    refine killC_low hnx fun k hk => ?_
    simp only [List.mem_cons, List.mem_append, List.mem_flatten, List.mem_map, List.mem_range, List.not_mem_nil, or_false] at hk
    rcases hk with rfl | rfl | ⟨l, ⟨j, hj, rfl⟩, hm⟩ | rfl | rfl
    · omega
    · omega
    · rw [List.mem_singleton] at hm; omega
    · omega
    · omega
  clear hk2e hp0
  have e2 : Vl.agg [.lst 3 (r.os.map encO) false, I r.life, I r.plo, I r.phi, .lst 1 (r.fs.map encRow) false, .lst 5 (r.ms.map encM) false, .lst 7 (r.cs.map encC) false] = encRoll (some false) (some false) (some false) (some false) r := rfl
  rw [e2]
  have l1 : (bornL r).length ≤ 1000 := by unfold bornL; rw [List.length_map, List.length_range]; omega
  have l2 : (diedL r).length ≤ 1000 := by unfold diedL; rw [List.length_map, List.length_map, List.length_range]; omega
  have l3 : (yrsL' r).length ≤ 1000 := by unfold yrsL'; rw [List.length_map, List.length_range]; omega
  obtain ⟨q1, q2, q3, q4⟩ := n20 hr20
  have hfin : ∀ (sl ex : List (Nat × Vl)), sl = (10, .lst 7 L true) :: (11, I ((i + 1 : Nat) : Int)) :: ex → ∃ (hp' : Nat → Ob) (nx' : Nat) (s : Int × Int) (ex : List (Nat × Vl)), hp' 0 = urnO s ∧ 0 < nx' ∧ ({ sl := sl, hp := hk2, nx := nx + 4 + r.fs.length } : FS) = { sl := (10, .lst 7 L true) :: (11, I ((i + 1 : Nat) : Int)) :: ex, hp := hp', nx := nx' } := fun sl ex h => by
    subst h
    exact ⟨hk2, _, s, ex, hk20, by omega, rfl⟩
  by_cases h : checkF r = 0
  case neg =>
    have v1 : ∀ t, livesX t r = .tup [.nils, .nils, I (checkF r)] := fun t => if_neg h
    have v2 : ∀ t, yearsX t r = .tup [.nils, I (checkF r)] := fun t => if_neg h
    simp +contextual (maxSteps := 1000000) (disch := first | omega | (with_reducible first | refine krN ?_ | refine krS ?_ | refine krP ?_ | refine krG ?_); kernel_rfl | refine kr ?_; simp only [go_sem, reduceCtorEq, hLl, hix, wc20x, wc21, wc22x, wc23, wc24x, wc25x, wc26n, wc27, hr20, v1, v2]; done | fail) only [go_sem, seval, -List.reduceReplicate, hLl, hix, wc20x, wc21, wc22x, wc23, wc24x, wc25x, wc26n, wc27, hr20, v1, v2]
    exact ⟨hc, hfin _ _ rfl⟩
  by_cases hs : (solveF false r).2 = true
  · have v1 : ∀ t, livesX t r = .tup [.lst 2 ((bornL r).map encS) t, .lst 2 ((diedL r).map encS) t, I 0] := fun t => by unfold livesX; rw [if_pos h, if_pos hs]
    have v2 : ∀ t, yearsX t r = .tup [.lst 2 ((yrsL' r).map encS) t, I 0] := fun t => by unfold yearsX; rw [if_pos h, if_pos hs]
    simp +contextual (maxSteps := 1000000) (disch := first | omega | (with_reducible first | refine krN ?_ | refine krS ?_ | refine krP ?_ | refine krG ?_); kernel_rfl | refine kr ?_; simp only [go_sem, reduceCtorEq, hLl, hix, wc20x, wc21, wc22x, wc23, wc24x, wc25x, wc26l, wc27, hr20, v1, v2]; done | fail) only [go_sem, seval, -List.reduceReplicate, hLl, hix, wc20x, wc21, wc22x, wc23, wc24x, wc25x, wc26l, wc27, hr20, v1, v2]
    exact ⟨hc, hfin _ _ rfl⟩
  · have v1 : ∀ t, livesX t r = .tup [.nils, .nils, I 9] := fun t => by unfold livesX; rw [if_pos h, if_neg hs]
    have v2 : ∀ t, yearsX t r = .tup [.nils, I 9] := fun t => by unfold yearsX; rw [if_pos h, if_neg hs]
    simp +contextual (maxSteps := 1000000) (disch := first | omega | (with_reducible first | refine krN ?_ | refine krS ?_ | refine krP ?_ | refine krG ?_); kernel_rfl | refine kr ?_; simp only [go_sem, reduceCtorEq, hLl, hix, wc20x, wc21, wc22x, wc23, wc24x, wc25x, wc26n, wc27, hr20, v1, v2]; done | fail) only [go_sem, seval, -List.reduceReplicate, hLl, hix, wc20x, wc21, wc22x, wc23, wc24x, wc25x, wc26n, wc27, hr20, v1, v2]
    exact ⟨hc, hfin _ _ rfl⟩
end Go.Proofs
namespace Go.Proofs
open Go Go.Idl
set_option linter.unusedSimpArgs false
variable {b : Bool}
theorem list_dec {α : Type} {f : α → Vl} {ag : Bool} : ∀ {ys : List (List Vl)}, (∀ y ∈ ys, ∃ a, mkE ag y = f a) → ∃ l : List α, ys.map (mkE ag) = l.map f ∧ l.length = ys.length
  | [], _ => ⟨[], rfl, rfl⟩
  | y :: ys, h => by
    obtain ⟨a, ha⟩ := h y List.mem_cons_self
    obtain ⟨l, hl, hn⟩ := list_dec fun y' hy' => h y' (List.mem_cons_of_mem _ hy')
    exact ⟨a :: l, by rw [List.map_cons, List.map_cons, ha, hl], by simp [hn]⟩
structure UT (P : Program) : Prop where
  u3 : P.underlying 3 = some (.int .i64)
  u4 : P.underlying 4 = some (.bool)
  u24 : P.underlying 24 = some (.struct #[{ name := "Low", type := 3, offset := 0, embedded := false, tag := "", pkgPath := "", byteOffset := 0 }, { name := "High", type := 3, offset := 1, embedded := false, tag := "", pkgPath := "", byteOffset := 8 }])
  u79 : P.underlying 79 = some (.struct #[{ name := "Age", type := 3, offset := 0, embedded := false, tag := "", pkgPath := "", byteOffset := 0 }, { name := "Gap", type := 3, offset := 1, embedded := false, tag := "", pkgPath := "", byteOffset := 8 }, { name := "Again", type := 3, offset := 2, embedded := false, tag := "", pkgPath := "", byteOffset := 16 }])
  u64 : P.underlying 64 = some (.struct #[{ name := "Name", type := 3, offset := 0, embedded := false, tag := "", pkgPath := "", byteOffset := 0 }, { name := "Born", type := 24, offset := 1, embedded := false, tag := "", pkgPath := "", byteOffset := 8 }, { name := "Died", type := 24, offset := 3, embedded := false, tag := "", pkgPath := "", byteOffset := 24 }])
  u31 : P.underlying 31 = some (.struct #[{ name := "Kin", type := 4, offset := 0, embedded := false, tag := "", pkgPath := "", byteOffset := 0 }, { name := "Man", type := 3, offset := 1, embedded := false, tag := "", pkgPath := "", byteOffset := 8 }, { name := "Office", type := 3, offset := 2, embedded := false, tag := "", pkgPath := "", byteOffset := 16 }, { name := "Town", type := 3, offset := 3, embedded := false, tag := "", pkgPath := "", byteOffset := 24 }, { name := "Child", type := 3, offset := 4, embedded := false, tag := "", pkgPath := "", byteOffset := 32 }, { name := "When", type := 24, offset := 5, embedded := false, tag := "", pkgPath := "", byteOffset := 40 }])
  u80 : P.underlying 80 = some (.slice 4)
  u22 : P.underlying 22 = some (.slice 79)
  u26 : P.underlying 26 = some (.slice 64)
  u27 : P.underlying 27 = some (.slice 31)
  u25 : P.underlying 25 = some (.slice 80)
  u29 : P.underlying 29 = some (.struct #[{ name := "Offices", type := 22, offset := 0, embedded := false, tag := "", pkgPath := "", byteOffset := 0 }, { name := "Life", type := 3, offset := 1, embedded := false, tag := "", pkgPath := "", byteOffset := 24 }, { name := "Parents", type := 24, offset := 2, embedded := false, tag := "", pkgPath := "", byteOffset := 32 }, { name := "Far", type := 25, offset := 4, embedded := false, tag := "", pkgPath := "", byteOffset := 48 }, { name := "Men", type := 26, offset := 5, embedded := false, tag := "", pkgPath := "", byteOffset := 72 }, { name := "Records", type := 27, offset := 6, embedded := false, tag := "", pkgPath := "", byteOffset := 96 }])
  u32 : P.underlying 32 = some (.slice 3)
  c79 : P.cellsOf 79 = 3 ∧ aggT P 79 = true
  c80 : P.cellsOf 80 = 1 ∧ aggT P 80 = false
  c64 : P.cellsOf 64 = 5 ∧ aggT P 64 = true
  c31 : P.cellsOf 31 = 7 ∧ aggT P 31 = true
  c4 : P.cellsOf 4 = 1 ∧ aggT P 4 = false
  c3 : P.cellsOf 3 = 1 ∧ aggT P 3 = false
variable {P : Program}
theorem ty3 (U : UT P) {d : Nat} {xs : List Vl} (h : TyL P (d + 1) 3 xs) : ∃ n, xs = [I n] := by
  simp only [TyL, U.u3] at h
  obtain ⟨n, h, _⟩ := h
  exact ⟨n, h⟩
theorem ty4 (U : UT P) {d : Nat} {xs : List Vl} (h : TyL P (d + 1) 4 xs) : ∃ n, xs = [Vl.bool n] := by
  simp only [TyL, U.u4] at h
  exact h
theorem ty24 (U : UT P) {d : Nat} {xs : List Vl} (h : TyL P (d + 2) 24 xs) : ∃ a c, xs = [I a, I c] := by
  unfold TyL at h
  simp only [U.u24, TyF] at h
  obtain ⟨y1, z1, rfl, h1, y2, z2, rfl, h2, rfl⟩ := h
  obtain ⟨a, rfl⟩ := ty3 U h1
  obtain ⟨c, rfl⟩ := ty3 U h2
  exact ⟨a, c, rfl⟩
theorem ty79 (U : UT P) {d : Nat} {xs : List Vl} (h : TyL P (d + 2) 79 xs) : ∃ o : Office, .agg xs = encO o := by
  unfold TyL at h
  simp only [U.u79, TyF] at h
  obtain ⟨y1, z1, rfl, h1, y2, z2, rfl, h2, y3, z3, rfl, h3, rfl⟩ := h
  obtain ⟨a, rfl⟩ := ty3 U h1
  obtain ⟨c, rfl⟩ := ty3 U h2
  obtain ⟨e, rfl⟩ := ty3 U h3
  exact ⟨⟨a, c, e⟩, rfl⟩
theorem ty64 (U : UT P) {d : Nat} {xs : List Vl} (h : TyL P (d + 3) 64 xs) : ∃ o : Man, .agg xs = encM o := by
  unfold TyL at h
  simp only [U.u64, TyF] at h
  obtain ⟨y1, z1, rfl, h1, y2, z2, rfl, h2, y3, z3, rfl, h3, rfl⟩ := h
  obtain ⟨a, rfl⟩ := ty3 U h1
  obtain ⟨c, e, rfl⟩ := ty24 U h2
  obtain ⟨f, g, rfl⟩ := ty24 U h3
  exact ⟨⟨a, c, e, f, g⟩, rfl⟩
theorem ty31 (U : UT P) {d : Nat} {xs : List Vl} (h : TyL P (d + 3) 31 xs) : ∃ o : Rec, .agg xs = encC o := by
  unfold TyL at h
  simp only [U.u31, TyF] at h
  obtain ⟨y1, z1, rfl, h1, y2, z2, rfl, h2, y3, z3, rfl, h3, y4, z4, rfl, h4, y5, z5, rfl, h5, y6, z6, rfl, h6, rfl⟩ := h
  obtain ⟨a, rfl⟩ := ty4 U h1
  obtain ⟨c, rfl⟩ := ty3 U h2
  obtain ⟨e, rfl⟩ := ty3 U h3
  obtain ⟨f, rfl⟩ := ty3 U h4
  obtain ⟨g, rfl⟩ := ty3 U h5
  obtain ⟨p, q, rfl⟩ := ty24 U h6
  exact ⟨⟨a, c, e, f, g, p, q⟩, rfl⟩
theorem ty80 (U : UT P) {d : Nat} {xs : List Vl} (h : TyL P (d + 2) 80 xs) : ∃ w : List Bool, mkE false xs = encRow w := by
  unfold TyL at h
  simp only [U.u80, U.c4.1, U.c4.2] at h
  obtain ⟨ys, rfl, _, h⟩ := h
  obtain ⟨l, hl, _⟩ := list_dec (f := Vl.bool) (ag := false) fun y hy => by
    obtain ⟨n, rfl⟩ := ty4 U (h y hy)
    exact ⟨n, rfl⟩
  exact ⟨l, by rw [hl]; rfl⟩
theorem ty22 (U : UT P) {d : Nat} {xs : List Vl} (h : TyL P (d + 4) 22 xs) : ∃ l : List Office, xs = [.lst 3 (l.map encO) false] ∧ l.length ≤ maxLen := by
  unfold TyL at h
  simp only [U.u22, U.c79.1, U.c79.2] at h
  obtain ⟨ys, rfl, hl, h⟩ := h
  obtain ⟨l, e, hn⟩ := list_dec (f := encO) (ag := true) fun y hy => ty79 U (h y hy)
  exact ⟨l, by rw [e], by omega⟩
theorem ty26 (U : UT P) {d : Nat} {xs : List Vl} (h : TyL P (d + 4) 26 xs) : ∃ l : List Man, xs = [.lst 5 (l.map encM) false] ∧ l.length ≤ maxLen := by
  unfold TyL at h
  simp only [U.u26, U.c64.1, U.c64.2] at h
  obtain ⟨ys, rfl, hl, h⟩ := h
  obtain ⟨l, e, hn⟩ := list_dec (f := encM) (ag := true) fun y hy => ty64 U (h y hy)
  exact ⟨l, by rw [e], by omega⟩
theorem ty27 (U : UT P) {d : Nat} {xs : List Vl} (h : TyL P (d + 4) 27 xs) : ∃ l : List Rec, xs = [.lst 7 (l.map encC) false] ∧ l.length ≤ maxLen := by
  unfold TyL at h
  simp only [U.u27, U.c31.1, U.c31.2] at h
  obtain ⟨ys, rfl, hl, h⟩ := h
  obtain ⟨l, e, hn⟩ := list_dec (f := encC) (ag := true) fun y hy => ty31 U (h y hy)
  exact ⟨l, by rw [e], by omega⟩
theorem ty25 (U : UT P) {d : Nat} {xs : List Vl} (h : TyL P (d + 4) 25 xs) : ∃ l : List (List Bool), xs = [.lst 1 (l.map encRow) false] ∧ l.length ≤ maxLen := by
  unfold TyL at h
  simp only [U.u25, U.c80.1, U.c80.2] at h
  obtain ⟨ys, rfl, hl, h⟩ := h
  obtain ⟨l, e, hn⟩ := list_dec (f := encRow) (ag := false) fun y hy => ty80 U (h y hy)
  exact ⟨l, by rw [e], by omega⟩
theorem ty29 (U : UT P) {xs : List Vl} (h : TyL P 6 29 xs) : ∃ r : Roll, .agg xs = encRoll (some false) (some false) (some false) (some false) r ∧ r.fs.length ≤ maxLen := by
  unfold TyL at h
  simp only [U.u29, TyF] at h
  obtain ⟨y1, z1, rfl, h1, y2, z2, rfl, h2, y3, z3, rfl, h3, y4, z4, rfl, h4, y5, z5, rfl, h5, y6, z6, rfl, h6, rfl⟩ := h
  obtain ⟨os, rfl, _⟩ := ty22 U h1
  obtain ⟨life, rfl⟩ := ty3 U h2
  obtain ⟨p, q, rfl⟩ := ty24 U h3
  obtain ⟨fs, rfl, hf⟩ := ty25 U h4
  obtain ⟨ms, rfl, _⟩ := ty26 U h5
  obtain ⟨cs, rfl, _⟩ := ty27 U h6
  exact ⟨⟨os, life, p, q, fs, ms, cs⟩, rfl, hf⟩
theorem ty32 (U : UT P) {xs : List Vl} (h : TyL P 6 32 xs) : ∃ l : List Int, xs = [SL 1 (l.map I) (some false)] ∧ l.length ≤ maxLen := by
  unfold TyL at h
  simp only [U.u32, U.c3.1, U.c3.2] at h
  obtain ⟨ys, rfl, hl, h⟩ := h
  obtain ⟨l, e, hn⟩ := list_dec (f := I) (ag := false) fun y hy => by
    obtain ⟨n, rfl⟩ := ty3 U (h y hy)
    exact ⟨n, rfl⟩
  exact ⟨l, by rw [e]; rfl, by omega⟩
theorem UT_try : UT Try.prog where
  u3 := Try.underlying3
  u4 := Try.underlying4
  u24 := Try.underlying24
  u79 := Try.underlying79
  u64 := Try.underlying64
  u31 := Try.underlying31
  u80 := Try.underlying80
  u22 := Try.underlying22
  u26 := Try.underlying26
  u27 := Try.underlying27
  u25 := Try.underlying25
  u29 := Try.underlying29
  u32 := Try.underlying32
  c79 := ⟨by kernel_rfl, by kernel_rfl⟩
  c80 := ⟨by kernel_rfl, by kernel_rfl⟩
  c64 := ⟨by kernel_rfl, by kernel_rfl⟩
  c31 := ⟨by kernel_rfl, by kernel_rfl⟩
  c4 := ⟨by kernel_rfl, by kernel_rfl⟩
  c3 := ⟨by kernel_rfl, by kernel_rfl⟩
end Go.Proofs
