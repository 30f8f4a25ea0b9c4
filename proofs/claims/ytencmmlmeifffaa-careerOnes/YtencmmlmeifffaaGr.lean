/- What functions of the given program do in the ideal machine (G28, G29, G30), and the plain laws of what they answer; the conditions stand in each theorem. -/
import Derived.Test.YtencmmlmeifffaaGg
import Derived.Test.YtencmmlmeifffaaGb
set_option linter.all false
set_option linter.unusedSectionVars false
set_option linter.unusedSimpArgs false
set_option linter.unusedVariables false
namespace Go.Proofs
open Go Go.Idl
set_option linter.unusedSimpArgs false
variable {b : Bool}
def mpI (b i : Nat) : Nat := if i < b then i else i - 1
def menTo (r : Roll) (b n : Nat) : List Man := ((List.range n).filter fun i => decide (i ≠ b)).map fun i => r.ms[i]!
def nowTo (b n : Nat) : List Int := (List.range n).map fun i => if i = b then -1 else (mpI b i : Int)
theorem menTo_succ {r : Roll} {c n : Nat} : menTo r c (n + 1) = menTo r c n ++ (if n = c then [] else [r.ms[n]!]) := by
  unfold menTo
  rw [List.range_succ, List.filter_append, List.map_append]
  congr 1
  by_cases h : n = c
  · rw [if_pos h, List.filter_cons_of_neg (by simpa using h)]; rfl
  · rw [if_neg h, List.filter_cons_of_pos (by simpa using h)]; rfl
theorem nowTo_succ {c n : Nat} : nowTo c (n + 1) = nowTo c n ++ [if n = c then -1 else (mpI c n : Int)] := by
  unfold nowTo
  rw [List.range_succ, List.map_append]; rfl
theorem menTo_len {r : Roll} {c n : Nat} : (menTo r c n).length = if c < n then n - 1 else n := by
  induction n with
  | zero => rfl
  | succ n ih =>
    rw [menTo_succ, List.length_append, ih]
    by_cases h : n = c
    · subst h; rw [if_pos rfl, if_neg (by omega), if_pos (by omega)]; simp
    · rw [if_neg h]
      by_cases h2 : c < n
      · rw [if_pos h2, if_pos (by omega)]; simp; omega
      · rw [if_neg h2, if_neg (by omega)]; rfl
theorem nowTo_len {c n : Nat} : (nowTo c n).length = n := by unfold nowTo; simp
theorem menTo_mp {r : Roll} {c n : Nat} (h : n ≠ c) : (menTo r c n).length = mpI c n := by
  rw [menTo_len]; unfold mpI
  by_cases h2 : c < n
  · rw [if_pos h2, if_neg (by omega)]
  · rw [if_neg h2, if_pos (by omega)]
theorem menTo_lt {r : Roll} {c n a : Nat} (h : a < n) (hac : a ≠ c) : mpI c a < (menTo r c n).length := by
  rw [menTo_len]; unfold mpI
  by_cases h2 : c < n
  · rw [if_pos h2]; split <;> omega
  · rw [if_neg h2]; split <;> omega
theorem menTo_get {r : Roll} {c n a : Nat} (h : a < n) (hac : a ≠ c) : (menTo r c n)[mpI c a]! = r.ms[a]! := by
  induction n with
  | zero => omega
  | succ n ih =>
    rw [menTo_succ]
    by_cases h1 : n = c
    · rw [if_pos h1, List.append_nil]
      exact ih (by omega)
    · rw [if_neg h1]
      by_cases h2 : a = n
      · subst h2
        exact get!_snoc_eq (menTo_mp h1)
      · rw [get!_snoc_lt (menTo_lt (by omega) hac)]
        exact ih (by omega)
theorem nowTo_get {c n a : Nat} (h : a < n) (hac : a ≠ c) : (nowTo c n)[a]! = (mpI c a : Int) := by
  unfold nowTo
  rw [map_get! (by rw [List.length_range]; exact h), range_get! h, if_neg hac]
structure MD where
  ms : List Man
  cs : List Rec
  nw : List Int
def HM (d : MD) : Nat → Ob := fun i => if i = 0 then .arr 5 (d.ms.map encM) else if i = 1 then .arr 7 (d.cs.map encC) else if i = 2 then .arr 1 (d.nw.map I) else .dead
section
variable {ms : List Man} {cs : List Rec} {nw : List Int} {lc : List (Nat × Vl)} {nx n : Nat}
theorem HM_new : upd (upd (upd noHeap 0 (.arr 5 [])) 1 (.arr 7 [])) 2 (.arr 1 []) = HM ⟨[], [], []⟩ := by
  funext i
  unfold upd HM
  by_cases h0 : i = 0
  · subst h0; rfl
  by_cases h1 : i = 1
  · subst h1; rfl
  by_cases h2 : i = 2
  · subst h2; rfl
  simp [h0, h1, h2, noHeap]
theorem HM_ms {ms' : List Man} : upd (HM ⟨ms, cs, nw⟩) 0 (.arr 5 (ms'.map encM)) = HM ⟨ms', cs, nw⟩ := by
  funext i; by_cases h : i = 0 <;> simp [upd, HM, h]
theorem HM_cs {cs' : List Rec} : upd (HM ⟨ms, cs, nw⟩) 1 (.arr 7 (cs'.map encC)) = HM ⟨ms, cs', nw⟩ := by
  funext i; by_cases h : i = 1 <;> simp [upd, HM, h]
theorem HM_nw {nw' : List Int} : upd (HM ⟨ms, cs, nw⟩) 2 (.arr 1 (nw'.map I)) = HM ⟨ms, cs, nw'⟩ := by
  funext i; by_cases h : i = 2 <;> simp [upd, HM, h]
theorem HM_0 : HM ⟨ms, cs, nw⟩ 0 = .arr 5 (ms.map encM) := rfl
theorem HM_1 : HM ⟨ms, cs, nw⟩ 1 = .arr 7 (cs.map encC) := rfl
theorem HM_2 : HM ⟨ms, cs, nw⟩ 2 = .arr 1 (nw.map I) := rfl
theorem apM0 {v : Vl} {o : Bool} (hn : ms.length = n) (hs : n < 1000) : isAppend Try.prog 26 26 (.own 0 n) (.lst 5 [v] o) ⟨lc, HM ⟨ms, cs, nw⟩, nx⟩ = some (.own 0 (n + 1), ⟨lc, upd (HM ⟨ms, cs, nw⟩) 0 (.arr 5 (ms.map encM ++ [v])), nx⟩) :=
  app1_own (by rw [td26]) HM_0 (by rw [List.length_map]; exact hn) (grow_ok rfl rfl (by decide) (by decide) (by omega))
theorem apM1 {v : Vl} {o : Bool} (hn : cs.length = n) (hs : n < 1000) : isAppend Try.prog 27 27 (.own 1 n) (.lst 7 [v] o) ⟨lc, HM ⟨ms, cs, nw⟩, nx⟩ = some (.own 1 (n + 1), ⟨lc, upd (HM ⟨ms, cs, nw⟩) 1 (.arr 7 (cs.map encC ++ [v])), nx⟩) :=
  app1_own (by rw [td27]) HM_1 (by rw [List.length_map]; exact hn) (grow_ok rfl rfl (by decide) (by decide) (by omega))
theorem apM2 {v : Vl} {o : Bool} (hn : nw.length = n) (hs : n < 1000) : isAppend Try.prog 32 32 (.own 2 n) (.lst 1 [v] o) ⟨lc, HM ⟨ms, cs, nw⟩, nx⟩ = some (.own 2 (n + 1), ⟨lc, upd (HM ⟨ms, cs, nw⟩) 2 (.arr 1 (nw.map I ++ [v])), nx⟩) :=
  app1_own (by rw [td32]) HM_2 (by rw [List.length_map]; exact hn) (grow_ok rfl rfl (by decide) (by decide) (by omega))
theorem ixM2 {k : Nat} {eb : Nat} {ez : Vl} {i : Int} (hn : nw.length = k) (h0 : 0 ≤ i) (hi : i < k) : indexAddrV (.slice 1 eb ez) (.v (.own 2 k)) (.int .i64 i) ⟨lc, HM ⟨ms, cs, nw⟩, nx⟩ = some (.v (.ep 2 k i.toNat 0), ⟨lc, HM ⟨ms, cs, nw⟩, nx⟩) :=
  indexAddr_own HM_2 (by rw [List.length_map]; exact hn) ⟨h0, hi⟩ (by decide)
theorem rdM2 {k j : Nat} (hn : nw.length = k) (hj : j < k) : Mem.read ⟨lc, HM ⟨ms, cs, nw⟩, nx⟩ false 1 (.v (.ep 2 k j 0)) = some (.int .i64 nw[j]!) := by
  have h : (nw.map I).length = k := by rw [List.length_map]; exact hn
  simp only [Mem.read, HM_2, h, if_true]
  rw [List.getElem?_eq_getElem (by rw [h]; exact hj), List.getElem_map, get!_eq (by omega)]
  rfl
theorem wrM2 {k j : Nat} {y : Int} (hn : nw.length = k) (hj : j < k) : Mem.write ⟨lc, HM ⟨ms, cs, nw⟩, nx⟩ (.int .i64 y) (.v (.ep 2 k j 0)) = some ⟨lc, HM ⟨ms, cs, nw.set j y⟩, nx⟩ := by
  have h : (nw.map I).length = k := by rw [List.length_map]; exact hn
  simp only [Mem.write, HM_2, h, if_true]
  rw [List.getElem?_eq_getElem (by rw [h]; exact hj), List.getElem_map]
  show some ({ lc := lc, hp := upd (HM ⟨ms, cs, nw⟩) 2 (.arr 1 ((nw.map I).set j (I y))), nx := nx } : Mem) = _
  rw [show (nw.map I).set j (I y) = (nw.set j y).map I by rw [List.map_set], HM_nw]
theorem ixM0 {k : Nat} {eb : Nat} {ez : Vl} {i : Int} (hn : ms.length = k) (h0 : 0 ≤ i) (hi : i < k) : indexAddrV (.slice 5 eb ez) (.v (.own 0 k)) (.int .i64 i) ⟨lc, HM ⟨ms, cs, nw⟩, nx⟩ = some (.v (.ep 0 k i.toNat 0), ⟨lc, HM ⟨ms, cs, nw⟩, nx⟩) :=
  indexAddr_own HM_0 (by rw [List.length_map]; exact hn) ⟨h0, hi⟩ (by decide)
theorem rdM0 {k j off sz : Nat} {ag : Bool} (hn : ms.length = k) (hj : j < k) : Mem.read ⟨lc, HM ⟨ms, cs, nw⟩, nx⟩ ag sz (.v (.ep 0 k j off)) = sub ag sz off (encM ms[j]!) := by
  have h : (ms.map encM).length = k := by rw [List.length_map]; exact hn
  simp only [Mem.read, HM_0, h, if_true]
  rw [List.getElem?_eq_getElem (by rw [h]; exact hj), List.getElem_map, get!_eq (by omega)]
  rfl
theorem wrM0 {k j off : Nat} {v : Vl} (hn : ms.length = k) (hj : j < k) : Mem.write ⟨lc, HM ⟨ms, cs, nw⟩, nx⟩ v (.v (.ep 0 k j off)) = (put off v (encM ms[j]!)).map fun c => ⟨lc, upd (HM ⟨ms, cs, nw⟩) 0 (.arr 5 ((ms.map encM).set j c)), nx⟩ := by
  have h : (ms.map encM).length = k := by rw [List.length_map]; exact hn
  simp only [Mem.write, HM_0, h, if_true]
  rw [List.getElem?_eq_getElem (by rw [h]; exact hj), List.getElem_map, get!_eq (by omega)]
  rfl
theorem HM_set0 {j : Nat} {a p q u v : Int} : upd (HM ⟨ms, cs, nw⟩) 0 (.arr 5 ((ms.map encM).set j (.agg [.int .i64 a, .int .i64 p, .int .i64 q, .int .i64 u, .int .i64 v]))) = HM ⟨ms.set j ⟨a, p, q, u, v⟩, cs, nw⟩ := by
  have e : (ms.map encM).set j (.agg [.int .i64 a, .int .i64 p, .int .i64 q, .int .i64 u, .int .i64 v]) = (ms.set j ⟨a, p, q, u, v⟩).map encM := by rw [List.map_set]; rfl
  rw [e, HM_ms]
end
def mergeM (x y : Man) : Man := ⟨x.name, max x.blo y.blo, min x.bhi y.bhi, max x.dlo y.dlo, min x.dhi y.dhi⟩
def mpF (a b i : Nat) : Nat := if i = b then mpI b a else mpI b i
def mapRec (a b : Nat) (c : Rec) : Rec := { c with man := (mpF a b c.man.toNat : Int), child := if c.kin = true then (mpF a b c.child.toNat : Int) else c.child }
def mergedMs (r : Roll) (a b : Nat) : List Man := (menTo r b r.ms.length).set (mpI b a) (mergeM r.ms[a]! r.ms[b]!)
def mergedR (r : Roll) (a b : Nat) : Roll := { r with ms := mergedMs r a b, cs := r.cs.map (mapRec a b) }
def okM (x y : Man) : Bool := decide (max x.blo y.blo ≤ min x.bhi y.bhi) && decide (max x.dlo y.dlo ≤ min x.dhi y.dhi)
def kinOk (a b : Nat) (c : Rec) : Bool := !c.kin || decide (mpF a b c.child.toNat ≠ mpF a b c.man.toNat)
def mergedIs (r : Roll) (a b : Nat) : Bool := okM r.ms[a]! r.ms[b]! && (r.cs.all (kinOk a b))
set_option maxRecDepth 10000 in
set_option maxHeartbeats 4000000 in
theorem merged_to {r : Roll} (hv : Val r) {a c : Nat} (ha : a < r.ms.length) (hc : c < r.ms.length) (hac : a ≠ c) {o1 o2 o3 o4 : Option Bool} : Ans Try.prog (AA b) 70 [encRoll o1 o2 o3 o4 r, I a, I c] (fun v => v = .tup [encRoll o1 o2 (some false) (some false) (mergedR r a c), .bool (mergedIs r a c)]) := by
  refine Ans_of Try.func70 rfl rfl ?_
  have hm6 := hv.ms_l
  have hc8 := hv.cs_l
  simp +contextual (maxSteps := 1000000) (disch := first | omega | (with_reducible first | refine krN ?_ | refine krS ?_ | refine krP ?_ | refine krG ?_); kernel_rfl | refine kr ?_; simp only [go_sem, reduceCtorEq, HM_new]; done | fail) only [go_sem, seval, -List.reduceReplicate, HM_new]
  obtain ⟨Z, hZ⟩ : ∃ Z, Z = Vl.agg [.nils, I 0, I 0, I 0, .nils, .nils, .nils] := ⟨_, rfl⟩
  refine wp_loop_to r.ms.length (fun i st => ∃ (ex : List (Nat × Vl)), st = ({ sl := (1, I a) :: (2, I c) :: (3, .loc (encRoll o1 o2 o3 o4 r)) :: (6, .loc Z) :: (8, .loc (.agg [SL 3 (r.os.map encO) o1, I r.life, I r.plo, I r.phi, SL 1 (r.fs.map encRow) o2, .own 0 (menTo r c i).length, .own 1 0])) :: (9, .own 2 i) :: (22, SL 5 (r.ms.map encM) o3) :: (23, I r.ms.length) :: (24, I i) :: ex, hp := HM ⟨menTo r c i, [], nowTo c i⟩, nx := 3 } : FS)) ?_ 0 (Nat.zero_le _) ⟨_, by rw [hZ]; rfl⟩
  rintro i st hi ⟨ex, rfl⟩
  by_cases hci : i < r.ms.length
  · have hs1 := @menTo_succ r c i
    have hs2 := @nowTo_succ c i
    have hnl : (nowTo c i).length = i := nowTo_len
    have hml : (menTo r c i).length ≤ i := by rw [menTo_len]; split <;> omega
    by_cases hic : i = c
    · subst hic
      rw [if_pos rfl, List.append_nil] at hs1
      rw [if_pos rfl] at hs2
      simp +contextual (maxSteps := 1000000) (disch := first | omega | (with_reducible first | refine krN ?_ | refine krS ?_ | refine krP ?_ | refine krG ?_); kernel_rfl | refine kr ?_; simp only [go_sem, reduceCtorEq, Int.ofNat_lt, hci, ix_map, encM, apM2, hnl, HM_nw]; done | fail) only [go_sem, seval, -List.reduceReplicate, Int.ofNat_lt, hci, ix_map, encM, apM2, hnl, HM_nw]
      exact ⟨_, by rw [hs1, hs2]⟩
    · rw [if_neg hic] at hs1 hs2
      have hic' : ¬ (i : Int) = (c : Int) := by omega
      have hmp := menTo_mp (r := r) hic
      generalize menTo r c i = P at hs1 hml hmp
      simp +contextual (maxSteps := 1000000) (disch := first | omega | (with_reducible first | refine krN ?_ | refine krS ?_ | refine krP ?_ | refine krG ?_); kernel_rfl | refine kr ?_; simp only [go_sem, reduceCtorEq, Int.ofNat_lt, hci, ix_map, encM, hic', apM2, hnl, apM0, hml, HM_nw, HM_ms]; done | fail) only [go_sem, seval, -List.reduceReplicate, Int.ofNat_lt, hci, ix_map, encM, hic', apM2, hnl, apM0, hml, HM_nw, HM_ms]
      exact ⟨_, by rw [hs1, hs2, List.length_append, ← hmp]; rfl⟩
  · have hie : i = r.ms.length := by omega
    subst hie
    clear hi hci
    have hmL : (menTo r c r.ms.length).length = r.ms.length - 1 := by rw [menTo_len, if_pos hc]
    have hmg := menTo_get (r := r) ha hac
    have hml := menTo_lt (r := r) ha hac
    have hnL : (nowTo c r.ms.length).length = r.ms.length := nowTo_len
    have hng := nowTo_get ha hac
    have hmdef : mergedMs r a c = (menTo r c r.ms.length).set (mpI c a) (mergeM r.ms[a]! r.ms[c]!) := rfl
    have hrc : ∀ i, i < r.ms.length → ((nowTo c r.ms.length).set c (mpI c a : Int))[i]! = (mpF a c i : Int) := fun i hi => by
      rw [get!_set (by omega)]
      unfold mpF
      by_cases e : i = c
      · subst e; rw [if_pos rfl, if_pos rfl]
      · rw [if_neg (by omega), if_neg e, nowTo_get hi e]
    generalize menTo r c r.ms.length = P at hmL hmg hml hmdef
    generalize nowTo c r.ms.length = N at hnL hng hrc
    generalize mpI c a = p at hmg hml hng hmdef hrc
    have hcN : c < N.length := by omega
    have haN : (N.set c (p : Int))[a]! = (p : Int) := by rw [get!_set hcN, if_neg (by omega)]; exact hng
    simp +contextual (maxSteps := 1000000) (disch := first | omega | (with_reducible first | refine krN ?_ | refine krS ?_ | refine krP ?_ | refine krG ?_); kernel_rfl | refine kr ?_; simp only [go_sem, reduceCtorEq, Int.lt_irrefl, ixM2, rdM2, wrM2, hnL, ha, hc, hng, haN, List.length_set, ixM0, rdM0, wrM0, HM_set0, hml, hmg, get!_set_eq, List.set_set, ix_map, encM]; done | fail) only [go_sem, seval, -List.reduceReplicate, Int.lt_irrefl, ixM2, rdM2, wrM2, hnL, ha, hc, hng, haN, List.length_set, ixM0, rdM0, wrM0, HM_set0, hml, hmg, get!_set_eq, List.set_set, ix_map, encM]
    have hok : D (max r.ms[a]!.blo r.ms[c]!.blo ≤ min r.ms[a]!.bhi r.ms[c]!.bhi ∧ max r.ms[a]!.dlo r.ms[c]!.dlo ≤ min r.ms[a]!.dhi r.ms[c]!.dhi) = okM r.ms[a]! r.ms[c]! := by
      unfold okM
      rw [D_dec]
      by_cases h1 : max r.ms[a]!.blo r.ms[c]!.blo ≤ min r.ms[a]!.bhi r.ms[c]!.bhi <;> by_cases h2 : max r.ms[a]!.dlo r.ms[c]!.dlo ≤ min r.ms[a]!.dhi r.ms[c]!.dhi <;> simp [h1, h2]
    rw [hok]
    have hPl : (mergedMs r a c).length = P.length := by rw [hmdef, List.length_set]
    have hmd2 : mergedMs r a c = P.set p ⟨r.ms[a]!.name, max r.ms[a]!.blo r.ms[c]!.blo, min r.ms[a]!.bhi r.ms[c]!.bhi, max r.ms[a]!.dlo r.ms[c]!.dlo, min r.ms[a]!.dhi r.ms[c]!.dhi⟩ := hmdef
    rw [← hmd2]
    have hNl : (N.set c (p : Int)).length = r.ms.length := by rw [List.length_set]; exact hnL
    generalize N.set c (p : Int) = N2 at hrc hNl ⊢
    rw [← hPl]
    have hisd : mergedIs r a c = (okM r.ms[a]! r.ms[c]! && r.cs.all (kinOk a c)) := rfl
    generalize okM r.ms[a]! r.ms[c]! = B at hisd ⊢
    have hout : mergedR r a c = { r with ms := mergedMs r a c, cs := r.cs.map (mapRec a c) } := rfl
    generalize mergedMs r a c = Q at hout ⊢
    clear hmd2 hmdef hPl hok hmg hml hmL haN hcN hnL hng
    refine wp_loop_to r.cs.length (fun i st => ∃ (ex : List (Nat × Vl)), st = ({ sl := (6, .loc Z) :: (8, .loc (.agg [SL 3 (r.os.map encO) o1, I r.life, I r.plo, I r.phi, SL 1 (r.fs.map encRow) o2, .own 0 Q.length, .own 1 i])) :: (9, .own 2 r.ms.length) :: (15, .bool (B && (r.cs.take i).all (kinOk a c))) :: (134, SL 7 (r.cs.map encC) o4) :: (135, I r.cs.length) :: (136, I i) :: ex, hp := HM ⟨Q, (r.cs.take i).map (mapRec a c), N2⟩, nx := 3 } : FS)) ?_ 0 (Nat.zero_le _) ⟨_, by rw [List.take_zero, List.all_nil, Bool.and_true]; rfl⟩
    clear ex
    rintro i st hi ⟨ex, rfl⟩
    by_cases hci : i < r.cs.length
    · have hts : r.cs.take (i + 1) = r.cs.take i ++ [r.cs[i]!] := take_snoc hci
      have htl : ((r.cs.take i).map (mapRec a c)).length = i := by rw [List.length_map, List.length_take]; omega
      obtain ⟨v1, v2, v3, v4⟩ := hv.cs_ok _ (get!_mem hci)
      have hall : (B && (r.cs.take (i + 1)).all (kinOk a c)) = ((B && (r.cs.take i).all (kinOk a c)) && kinOk a c r.cs[i]!) := by
        rw [hts, List.all_append, Bool.and_assoc]; simp
      have hmr : (r.cs.take (i + 1)).map (mapRec a c) = (r.cs.take i).map (mapRec a c) ++ [mapRec a c r.cs[i]!] := by rw [hts, List.map_append]; rfl
      have g1 := hrc (r.cs[i]!.man).toNat (by omega)
      have hi1 : (r.cs[i]!.man).toNat < r.ms.length := by omega
      cases hk : r.cs[i]!.kin with
      | true =>
        obtain ⟨w1, w2, w3, _⟩ := v3 hk
        have g2 := hrc (r.cs[i]!.child).toNat (by omega)
        have hi2 : (r.cs[i]!.child).toNat < r.ms.length := by omega
        have hmk : mapRec a c r.cs[i]! = ⟨true, mpF a c r.cs[i]!.man.toNat, r.cs[i]!.office, r.cs[i]!.town, mpF a c r.cs[i]!.child.toNat, r.cs[i]!.lo, r.cs[i]!.hi⟩ := by
          unfold mapRec; rw [if_pos hk, hk]
        have hko : kinOk a c r.cs[i]! = !decide ((mpF a c r.cs[i]!.child.toNat : Int) = (mpF a c r.cs[i]!.man.toNat : Int)) := by
          unfold kinOk
          rw [hk]
          by_cases e : mpF a c r.cs[i]!.child.toNat = mpF a c r.cs[i]!.man.toNat
          · rw [e]; simp
          · have e' : ¬ ((mpF a c r.cs[i]!.child.toNat : Int) = (mpF a c r.cs[i]!.man.toNat : Int)) := fun h => e (Int.natCast_inj.1 h)
            rw [decide_eq_false e', decide_eq_true e]; rfl
        cases hB : (B && (r.cs.take i).all (kinOk a c)) with
        | true =>
          simp +contextual (maxSteps := 1000000) (disch := first | omega | (with_reducible first | refine krN ?_ | refine krS ?_ | refine krP ?_ | refine krG ?_); kernel_rfl | refine kr ?_; simp only [go_sem, reduceCtorEq, Int.ofNat_lt, hci, ix_map, encC, ixM2, rdM2, hNl, g1, g2, hi1, hi2, apM1, htl, hk]; done | fail) only [go_sem, seval, -List.reduceReplicate, Int.ofNat_lt, hci, ix_map, encC, ixM2, rdM2, hNl, g1, g2, hi1, hi2, apM1, htl, hk]
          exact ⟨[], by rw [HM_cs, hmr, hmk, hall, hB, hko, Bool.true_and]⟩
        | false =>
          simp +contextual (maxSteps := 1000000) (disch := first | omega | (with_reducible first | refine krN ?_ | refine krS ?_ | refine krP ?_ | refine krG ?_); kernel_rfl | refine kr ?_; simp only [go_sem, reduceCtorEq, Int.ofNat_lt, hci, ix_map, encC, ixM2, rdM2, hNl, g1, g2, hi1, hi2, apM1, htl, hk]; done | fail) only [go_sem, seval, -List.reduceReplicate, Int.ofNat_lt, hci, ix_map, encC, ixM2, rdM2, hNl, g1, g2, hi1, hi2, apM1, htl, hk]
          exact ⟨[], by rw [HM_cs, hmr, hmk, hall, hB, Bool.false_and]⟩
      | false =>
        have hmk : mapRec a c r.cs[i]! = ⟨false, mpF a c r.cs[i]!.man.toNat, r.cs[i]!.office, r.cs[i]!.town, r.cs[i]!.child, r.cs[i]!.lo, r.cs[i]!.hi⟩ := by
          unfold mapRec; rw [if_neg (by rw [hk]; decide), hk]
        have hko : kinOk a c r.cs[i]! = true := by unfold kinOk; rw [hk]; rfl
        simp +contextual (maxSteps := 1000000) (disch := first | omega | (with_reducible first | refine krN ?_ | refine krS ?_ | refine krP ?_ | refine krG ?_); kernel_rfl | refine kr ?_; simp only [go_sem, reduceCtorEq, Int.ofNat_lt, hci, ix_map, encC, ixM2, rdM2, hNl, g1, hi1, apM1, htl, hk]; done | fail) only [go_sem, seval, -List.reduceReplicate, Int.ofNat_lt, hci, ix_map, encC, ixM2, rdM2, hNl, g1, hi1, apM1, htl, hk]
        exact ⟨[], by rw [HM_cs, hmr, hmk, hall, hko, Bool.and_true]⟩
    · have hie : i = r.cs.length := by omega
      subst hie
      rw [List.take_length]
      simp +contextual (maxSteps := 1000000) (disch := first | omega | (with_reducible first | refine krN ?_ | refine krS ?_ | refine krP ?_ | refine krG ?_); kernel_rfl | refine kr ?_; simp only [go_sem, reduceCtorEq, Int.lt_irrefl, hZ]; done | fail) only [go_sem, seval, -List.reduceReplicate, Int.lt_irrefl, hZ]
      rw [hisd, hout]
      have hl2 : (r.cs.map (mapRec a c)).length = r.cs.length := List.length_map _
      exact OB_intro (rfC (clSL 3 encO clO r.os o1)) (OB_intro (rfC (clSL 1 encRow clRw r.fs o2)) (OB_intro (reify_flat (.inl HM_0) rfl fun _ => rfl) (OB_intro (reify_flat (.inl HM_1) hl2 fun _ => rfl) rfl)))
end Go.Proofs
namespace Go.Proofs
open Go Go.Idl
set_option linter.unusedSimpArgs false
variable {b : Bool}
def cls (a b i : Nat) : Nat := if i = b then a else i
structure LivedM (r : Roll) (a b : Nat) (t : Nat → Int) : Prop where
  eqb : t a = t b
  eqd : t (6 + a) = t (6 + b)
  born : ∀ i, i < r.ms.length → r.ms[i]!.blo ≤ t i ∧ t i ≤ r.ms[i]!.bhi
  died : ∀ i, i < r.ms.length → r.ms[i]!.dlo ≤ t (6 + i) ∧ t (6 + i) ≤ r.ms[i]!.dhi
  life : ∀ i, i < r.ms.length → t i ≤ t (6 + i) ∧ t (6 + i) ≤ t i + r.life
  year : ∀ i, i < r.cs.length → r.cs[i]!.lo ≤ t (12 + i) ∧ t (12 + i) ≤ r.cs[i]!.hi
  kin : ∀ i, i < r.cs.length → r.cs[i]!.kin = true → t r.cs[i]!.man.toNat + r.plo ≤ t r.cs[i]!.child.toNat ∧ t r.cs[i]!.child.toNat ≤ t r.cs[i]!.man.toNat + r.phi ∧ t r.cs[i]!.child.toNat ≤ t (6 + r.cs[i]!.man.toNat) + 1
  held : ∀ i, i < r.cs.length → r.cs[i]!.kin = false → t r.cs[i]!.man.toNat + ageOf r.os r.cs[i]! ≤ t (12 + i) ∧ t (12 + i) ≤ t (6 + r.cs[i]!.man.toNat)
  fit : ∀ i k, i < k → k < r.cs.length → r.cs[i]!.kin = false → r.cs[k]!.kin = false → cls a b r.cs[i]!.man.toNat = cls a b r.cs[k]!.man.toNat → FitP r.os r.fs r.cs[i]! (t (12 + i)) r.cs[k]! (t (12 + k))
  kins : ∀ i, i < r.cs.length → r.cs[i]!.kin = true → cls a b r.cs[i]!.child.toNat ≠ cls a b r.cs[i]!.man.toNat
theorem cls_symm {a b i j : Nat} : cls a b i = cls a b j ↔ cls b a i = cls b a j := by
  unfold cls; split <;> split <;> split <;> split <;> omega
theorem LivedM.symm {r : Roll} {a b : Nat} {t : Nat → Int} (h : LivedM r a b t) : LivedM r b a t :=
  ⟨h.eqb.symm, h.eqd.symm, h.born, h.died, h.life, h.year, h.kin, h.held, fun i k h1 h2 h3 h4 h5 => h.fit i k h1 h2 h3 h4 (cls_symm.2 h5), fun i h1 h2 h3 => h.kins i h1 h2 (cls_symm.2 h3)⟩
def iv (b j : Nat) : Nat := if j < b then j else j + 1
theorem mpI_iv {b j : Nat} : mpI b (iv b j) = j := by
  unfold mpI iv; split <;> (try split) <;> omega
theorem iv_ne {b j : Nat} : iv b j ≠ b := by unfold iv; split <;> omega
theorem iv_lt {b j n : Nat} (h : j < n - 1) : iv b j < n := by unfold iv; split <;> omega
theorem mpF_lt {a b i n : Nat} (ha : a < n) (hb : b < n) (hab : a ≠ b) (hi : i < n) : mpF a b i < n - 1 := by
  unfold mpF mpI; split <;> split <;> omega
section
variable {r : Roll} {a b : Nat} {t : Nat → Int}
theorem merged_len (hb : b < r.ms.length) : (mergedMs r a b).length = r.ms.length - 1 := by
  unfold mergedMs; rw [List.length_set, menTo_len, if_pos hb]
theorem merged_get (ha : a < r.ms.length) (hb : b < r.ms.length) (hab : a ≠ b) {j : Nat} (hj : j < r.ms.length - 1) : (mergedMs r a b)[j]! = if iv b j = a then mergeM r.ms[a]! r.ms[b]! else r.ms[iv b j]! := by
  unfold mergedMs
  rw [get!_set (menTo_lt ha hab)]
  have e : (menTo r b r.ms.length)[j]! = r.ms[iv b j]! := by
    have := menTo_get (r := r) (c := b) (iv_lt (b := b) hj) iv_ne
    rw [mpI_iv] at this
    exact this
  rw [e]
  by_cases h : iv b j = a
  · rw [if_pos h, ← h, mpI_iv, if_pos rfl]
  · rw [if_neg h, if_neg]
    intro h2
    apply h
    rw [← h2]
    unfold mpI iv; split <;> (try split) <;> omega
theorem merged_val (hv : Val r) (ha : a < r.ms.length) (hb : b < r.ms.length) (hab : a ≠ b) (hf : mergedIs r a b = true) : Val (mergedR r a b) := by
  have hl := merged_len (r := r) (a := a) hb
  have hm6 := hv.ms_l
  unfold mergedIs okM at hf
  rw [Bool.and_eq_true, Bool.and_eq_true, decide_eq_true_eq, decide_eq_true_eq, List.all_eq_true] at hf
  obtain ⟨⟨f1, f2⟩, f3⟩ := hf
  refine ⟨hv.os_l, hv.os_ok, hv.life, hv.par, hv.fs_l, hv.fs_ok, ?_, ?_, ?_, ?_⟩
  · show 1 ≤ (mergedMs r a b).length ∧ (mergedMs r a b).length ≤ 6
    omega
  · intro m hm
    have hm : m ∈ mergedMs r a b := hm
    obtain ⟨j, hj, rfl⟩ := List.getElem_of_mem hm
    rw [← get!_eq hj, merged_get ha hb hab (by omega)]
    by_cases h : iv b j = a
    · rw [if_pos h]
      obtain ⟨x1, x2⟩ := hv.ms_ok _ (get!_mem ha)
      obtain ⟨y1, y2⟩ := hv.ms_ok _ (get!_mem hb)
      unfold YearsOk at *
      unfold mergeM
      simp only
      omega
    · rw [if_neg h]
      exact hv.ms_ok _ (get!_mem (iv_lt (by omega)))
  · show (r.cs.map (mapRec a b)).length ≤ 8
    rw [List.length_map]; exact hv.cs_l
  · intro c hc
    have hc : c ∈ r.cs.map (mapRec a b) := hc
    obtain ⟨d, hd, rfl⟩ := List.mem_map.1 hc
    obtain ⟨c1, c2, c3, c4⟩ := hv.cs_ok d hd
    have hk := f3 d hd
    have hml : (mergedR r a b).ms.length = r.ms.length - 1 := hl
    have hman := mpF_lt (a := a) (b := b) ha hb hab (i := d.man.toNat) (by omega)
    refine ⟨?_, ?_, fun e => ?_, fun e => ?_⟩
    · show (0 : Int) ≤ (mpF a b d.man.toNat : Int); omega
    · rw [hml]; show (mpF a b d.man.toNat : Int) < _; omega
    · have e : d.kin = true := e
      obtain ⟨k1, k2, k3, k4⟩ := c3 e
      have hch := mpF_lt (a := a) (b := b) ha hb hab (i := d.child.toNat) (by omega)
      have ec : (mapRec a b d).child = (mpF a b d.child.toNat : Int) := by unfold mapRec; simp only; rw [if_pos e]
      rw [ec, hml]
      unfold kinOk at hk
      rw [e] at hk
      simp only [Bool.not_true, Bool.false_or, decide_eq_true_eq] at hk
      refine ⟨by omega, by omega, ?_, k4⟩
      show (mpF a b d.child.toNat : Int) ≠ (mpF a b d.man.toNat : Int)
      omega
    · have e : d.kin = false := e
      obtain ⟨k1, k2, k3, k4, k5, k6⟩ := c4 e
      have ec : (mapRec a b d).child = d.child := by unfold mapRec; simp only; rw [if_neg (by rw [e]; decide)]
      exact ⟨k1, k2, k3, k4, by rw [ec]; exact k5, k6⟩
noncomputable def sameB (r : Roll) (a b : Nat) : Bool := mergedIs r a b && (decide (r.ms[a]!.name = r.ms[b]!.name) && (solveF true (mergedR r a b)).2)
end
end Go.Proofs
namespace Go.Proofs
open Go Go.Idl
set_option linter.unusedSimpArgs false
variable {b : Bool}
theorem merged_flat {r : Roll} {a c : Nat} {o1 o2 : Option Bool} {x : Bool} : (Vl.tup [encRoll o1 o2 (some false) (some false) (mergedR r a c), .bool x]).flat = false := by
  show (flatL _) = false
  simp only [flatL, Vl.flat, SL, Bool.and_false, Bool.false_and]
theorem wc70 {r : Roll} (hv : Val r) {a c : Nat} (ha : a < r.ms.length) (hc : c < r.ms.length) (hac : a ≠ c) {o1 o2 o3 o4 : Option Bool} {m : Mem} {K : Vl → Mem → Prop} : WC Try.prog (AA b) (.fn (.func 70) [] []) [.v (encRoll o1 o2 o3 o4 r), .v (I a), .v (I c)] m K = K (.tup [encRoll o1 o2 (some false) (some false) (mergedR r a c), .bool (mergedIs r a c)]) m :=
  WC_pure (by simp only [mkAnn, K70]) (rfAs (xs := [encRoll o1 o2 o3 o4 r, I a, I c]) (by show ((encRoll o1 o2 o3 o4 r).closed && true) = true; rw [clRoll]; rfl)) merged_flat (by show ((encRoll o1 o2 (some false) (some false) (mergedR r a c)).closed && true) = true; rw [clRoll]; rfl) (merged_to hv ha hc hac)
set_option maxRecDepth 10000 in
set_option maxHeartbeats 4000000 in
theorem sameV_to {r : Roll} (hv : WF r) (hs : (solveF true r).2 = true) {a c : Nat} (ha : a < r.ms.length) (hc : c < r.ms.length) (hac : a ≠ c) {o1 o2 o3 o4 : Option Bool} : Ans Try.prog (AA b) 28 [encRoll o1 o2 o3 o4 r, I a, I c] (fun v => v = .tup [.bool (sameB r a c), I 0]) := by
  refine Ans_of Try.func28 rfl rfl ?_
  have hm6 := hv.ms_l
  have hvv := hv.toVal
  have e1 : (decide ((0 : Int) ≤ (a : Int)) && decide ((a : Int) ≤ ((r.ms.length - 1 : Nat) : Int))) = true := by simp only [Bool.and_eq_true, decide_eq_true_eq]; omega
  have e2 : (decide ((0 : Int) ≤ (c : Int)) && decide ((c : Int) ≤ ((r.ms.length - 1 : Nat) : Int))) = true := by simp only [Bool.and_eq_true, decide_eq_true_eq]; omega
  have e3 : ¬ ((a : Int) = (c : Int)) := by omega
  have hlen := solveF_len (r := r) (enough := true) hvv
  cases hf : mergedIs r a c with
  | false =>
    have hB : sameB r a c = false := by unfold sameB; rw [hf]; rfl
    simp +contextual (maxSteps := 1000000) (disch := first | omega | (with_reducible first | refine krN ?_ | refine krS ?_ | refine krP ?_ | refine krG ?_); kernel_rfl | refine kr ?_; simp only [go_sem, reduceCtorEq, wc24, hv, e1, e2, e3, wc69, hvv, hs, hlen, sub_kc_all, put_kc_all, kc_length, List.length_replicate, wc70, ha, hc, hac, hf, hB]; done | fail) only [go_sem, seval, -List.reduceReplicate, wc24, hv, e1, e2, e3, wc69, hvv, hs, hlen, sub_kc_all, put_kc_all, kc_length, List.length_replicate, wc70, ha, hc, hac, hf, hB]
  | true =>
    have hvm := merged_val hvv ha hc hac hf
    have hlen2 := solveF_len (r := mergedR r a c) (enough := true) hvm
    by_cases hn : r.ms[a]!.name = r.ms[c]!.name
    · have hB : sameB r a c = (solveF true (mergedR r a c)).2 := by unfold sameB; rw [hf, hn, decide_eq_true rfl, Bool.true_and, Bool.true_and]
      simp +contextual (maxSteps := 1000000) (disch := first | omega | (with_reducible first | refine krN ?_ | refine krS ?_ | refine krP ?_ | refine krG ?_); kernel_rfl | refine kr ?_; simp only [go_sem, reduceCtorEq, wc24, hv, e1, e2, e3, wc69, hvv, hs, hlen, sub_kc_all, put_kc_all, kc_length, List.length_replicate, wc70, ha, hc, hac, hf, ix_map, encM, hn, hvm, hB]; done | fail) only [go_sem, seval, -List.reduceReplicate, wc24, hv, e1, e2, e3, wc69, hvv, hs, hlen, sub_kc_all, put_kc_all, kc_length, List.length_replicate, wc70, ha, hc, hac, hf, ix_map, encM, hn, hvm, hB]
    · have hB : sameB r a c = false := by unfold sameB; rw [decide_eq_false hn, Bool.false_and, Bool.and_false]
      simp +contextual (maxSteps := 1000000) (disch := first | omega | (with_reducible first | refine krN ?_ | refine krS ?_ | refine krP ?_ | refine krG ?_); kernel_rfl | refine kr ?_; simp only [go_sem, reduceCtorEq, wc24, hv, e1, e2, e3, wc69, hvv, hs, hlen, sub_kc_all, put_kc_all, kc_length, List.length_replicate, wc70, ha, hc, hac, hf, ix_map, encM, hn, hvm, hB]; done | fail) only [go_sem, seval, -List.reduceReplicate, wc24, hv, e1, e2, e3, wc69, hvv, hs, hlen, sub_kc_all, put_kc_all, kc_length, List.length_replicate, wc70, ha, hc, hac, hf, ix_map, encM, hn, hvm, hB]
end Go.Proofs
