/- What functions of the given program do in the ideal machine (G1, G2), and the plain laws of what they answer; the conditions stand in each theorem. -/
import Derived.Test.YtencmmlmeifffaaFb
import Derived.Test.YtencmmlmeifffaaIe
set_option linter.all false
set_option linter.unusedSectionVars false
set_option linter.unusedSimpArgs false
set_option linter.unusedVariables false
namespace Go.Proofs
open Go Go.Idl
set_option linter.unusedSimpArgs false
variable {b : Bool}
attribute [go_sem low] upd_ne
attribute [go_sem] endSt_normal endSt_ret endSt_exit
instance : Inhabited Rule := ⟨⟨0, 0, 0⟩⟩
theorem take_snoc {α : Type} [Inhabited α] {L : List α} {j : Nat} (h : j < L.length) : L.take (j + 1) = L.take j ++ [L[j]!] := by
  rw [get!_eq h]; exact List.take_succ_eq_append_getElem h
structure Roll where
  os : List Office
  life : Int
  plo : Int
  phi : Int
  fs : List (List Bool)
  ms : List Man
  cs : List Rec
@[reducible] def encRoll (o1 o2 o3 o4 : Option Bool) (r : Roll) : Vl := .agg [SL 3 (r.os.map encO) o1, I r.life, I r.plo, I r.phi, SL 1 (r.fs.map encRow) o2, SL 5 (r.ms.map encM) o3, SL 7 (r.cs.map encC) o4]
def YearsOk (lo hi : Int) : Prop := -3000 ≤ lo ∧ lo ≤ hi ∧ hi ≤ 3000
def OffOk (o : Office) : Prop := 0 ≤ o.age ∧ o.age ≤ 100 ∧ 0 ≤ o.gap ∧ o.gap ≤ 100 ∧ 1 ≤ o.again ∧ o.again ≤ 100
def RecVal (r : Roll) (c : Rec) : Prop := 0 ≤ c.man ∧ c.man < r.ms.length ∧
  (c.kin = true → 0 ≤ c.child ∧ c.child < r.ms.length ∧ c.child ≠ c.man ∧ c.office = 0 ∧ c.town = 0 ∧ c.lo = 0 ∧ c.hi = 0) ∧
  (c.kin = false → -1 ≤ c.office ∧ c.office < r.os.length ∧ 0 ≤ c.town ∧ c.town < r.fs.length ∧ c.child = 0 ∧ YearsOk c.lo c.hi)
structure Val (r : Roll) : Prop where
  os_l : r.os.length ≤ 5
  os_ok : ∀ o ∈ r.os, OffOk o
  life : 0 ≤ r.life ∧ r.life ≤ 100
  par : 1 ≤ r.plo ∧ r.plo ≤ r.phi ∧ r.phi ≤ 100
  fs_l : 1 ≤ r.fs.length ∧ r.fs.length ≤ 4
  fs_ok : ∀ w ∈ r.fs, w.length = r.fs.length
  ms_l : 1 ≤ r.ms.length ∧ r.ms.length ≤ 6
  ms_ok : ∀ m ∈ r.ms, YearsOk m.blo m.bhi ∧ YearsOk m.dlo m.dhi
  cs_l : r.cs.length ≤ 8
  cs_ok : ∀ c ∈ r.cs, RecVal r c
def ageOf (os : List Office) (c : Rec) : Int := if 0 ≤ c.office then os[c.office.toNat]!.age else 0
def manRules (r : Roll) (i : Nat) : List Rule := [⟨i, 6 + i, 0⟩, ⟨6 + i, i, -r.life⟩]
def recRules (r : Roll) (i : Nat) (c : Rec) : List Rule :=
  if c.kin = true then [⟨c.man.toNat, c.child.toNat, r.plo⟩, ⟨c.child.toNat, c.man.toNat, -r.phi⟩, ⟨c.child.toNat, 6 + c.man.toNat, -1⟩]
  else [⟨c.man.toNat, 12 + i, ageOf r.os c⟩, ⟨12 + i, 6 + c.man.toNat, 0⟩]
def menRulesTo (r : Roll) (n : Nat) : List Rule := ((List.range n).map (manRules r)).flatten
def recRulesTo (r : Roll) (n : Nat) : List Rule := ((List.range n).map fun i => recRules r i r.cs[i]!).flatten
def rulesF (r : Roll) : List Rule := menRulesTo r r.ms.length ++ recRulesTo r r.cs.length
theorem menRules_succ {r : Roll} {n : Nat} : menRulesTo r (n + 1) = menRulesTo r n ++ manRules r n := by simp [menRulesTo, List.range_succ]
theorem recRules_succ {r : Roll} {n : Nat} : recRulesTo r (n + 1) = recRulesTo r n ++ recRules r n r.cs[n]! := by simp [recRulesTo, List.range_succ]
theorem menRules_len {r : Roll} {n : Nat} : (menRulesTo r n).length = 2 * n := by
  induction n with
  | zero => rfl
  | succ n ih => rw [menRules_succ, List.length_append, ih]; simp [manRules]; omega
theorem recRules_len {r : Roll} {n : Nat} : (recRulesTo r n).length ≤ 3 * n := by
  induction n with
  | zero => simp [recRulesTo]
  | succ n ih =>
    rw [recRules_succ, List.length_append]
    have : (recRules r n r.cs[n]!).length ≤ 3 := by unfold recRules; split <;> simp
    omega
theorem wcYldMono {k : Nat} {args : List Arg} {m : Mem} {K K' : Vl → Mem → Prop} (h : WC Try.prog (AA b) (.yld k) args m K) (h2 : ∀ v m', K v m' → K' v m') : WC Try.prog (AA b) (.yld k) args m K' := h.mono h2
set_option maxRecDepth 10000 in
set_option maxHeartbeats 4000000 in
theorem rules_to {r : Roll} {o1 o2 o3 o4 : Option Bool} (hv : Val r) {k nx : Nat} {hp : Nat → Ob} {J : List Rule → (Nat → Ob) → Nat → Prop}
    (hJ : ∀ done x (m : Mem), done.length < 100 → J done m.hp m.nx → WC Try.prog (AA b) (.yld k) [.v (encR x)] m fun v m' => v = .bool true ∧ m'.lc = m.lc ∧ J (done ++ [x]) m'.hp m'.nx) (hF : ∀ done hp nx o, J done hp nx → J done (upd hp nx o) (nx + 1)) (h0 : J [] hp nx) :
    HAns Try.prog (AA b) 98 [.yld k, .fp (encRoll o1 o2 o3 o4 r) 0] hp nx fun v hp' nx' => J (rulesF r) hp' nx' := by
  refine HAns_of Try.func98 rfl ?_
  simp +contextual (maxSteps := 1000000) (disch := first | omega | (with_reducible first | refine krN ?_ | refine krS ?_ | refine krP ?_ | refine krG ?_); kernel_rfl | refine kr ?_; simp only [go_sem, seval, -List.reduceReplicate]; done | fail) only [go_sem, seval, -List.reduceReplicate]
  have hml := hv.ms_l
  have hlf := hv.life
  have hwl : IntKind.wrap .i64 (0 - r.life) = -r.life := by rw [wrap_i64 (by omega) (by omega)]; omega
  refine wp_loop_to r.ms.length (fun i st => ∃ hp nx ex, J (menRulesTo r i) hp nx ∧ st = ({ sl := (0, .yld k) :: (1, .fp (encRoll o1 o2 o3 o4 r) 0) :: (11, I r.ms.length) :: (12, I i) :: ex, hp := hp, nx := nx } : FS)) ?_ 0 (Nat.zero_le _) ⟨hp, nx, _, h0, rfl⟩
  clear h0 hp nx
  rintro i st hi ⟨hp, nx, ex, hj, rfl⟩
  by_cases hc : i < r.ms.length
  · have hw6 : IntKind.wrap .i64 (6 + (i : Int)) = ((6 + i : Nat) : Int) := by rw [wrap_i64 (by omega) (by omega)]; omega
    simp +contextual (maxSteps := 1000000) (disch := first | omega | (with_reducible first | refine krN ?_ | refine krS ?_ | refine krP ?_ | refine krG ?_); kernel_rfl | refine kr ?_; simp only [go_sem, seval, -List.reduceReplicate, Int.ofNat_lt, hc, hw6]; done | fail) only [go_sem, seval, -List.reduceReplicate, Int.ofNat_lt, hc, hw6]
    refine wcYldMono (hJ _ ⟨i, 6 + i, 0⟩ _ (by rw [menRules_len]; omega) hj) ?_
    rintro v ⟨lc', hp', nx'⟩ ⟨rfl, hlc, hj'⟩
    simp only at hlc hj'
    subst hlc
    simp +contextual (maxSteps := 1000000) (disch := first | omega | (with_reducible first | refine krN ?_ | refine krS ?_ | refine krP ?_ | refine krG ?_); kernel_rfl | refine kr ?_; simp only [go_sem, seval, -List.reduceReplicate, hw6, hwl]; done | fail) only [go_sem, seval, -List.reduceReplicate, hw6, hwl]
    refine wcYldMono (hJ _ ⟨6 + i, i, -r.life⟩ _ (by rw [List.length_append, menRules_len]; simp only [List.length_cons, List.length_nil]; omega) hj') ?_
    rintro v ⟨lc', hp'', nx''⟩ ⟨rfl, hlc, hj''⟩
    simp only at hlc hj''
    subst hlc
    simp +contextual (maxSteps := 1000000) (disch := first | omega | (with_reducible first | refine krN ?_ | refine krS ?_ | refine krP ?_ | refine krG ?_); kernel_rfl | refine kr ?_; simp only [go_sem, seval, -List.reduceReplicate]; done | fail) only [go_sem, seval, -List.reduceReplicate]
    refine ⟨_, _, _, ?_, rfl⟩
    rw [menRules_succ]
    simpa [manRules, List.append_assoc] using hj''
  · have : i = r.ms.length := by omega
    subst this
    clear hc hi
    simp +contextual (maxSteps := 1000000) (disch := first | omega | (with_reducible first | refine krN ?_ | refine krS ?_ | refine krP ?_ | refine krG ?_); kernel_rfl | refine kr ?_; simp only [go_sem, seval, -List.reduceReplicate, Int.lt_irrefl]; done | fail) only [go_sem, seval, -List.reduceReplicate, Int.lt_irrefl]
    have hcl := hv.cs_l
    have hol := hv.os_l
    have hpr := hv.par
    have hwp : IntKind.wrap .i64 (0 - r.phi) = -r.phi := by rw [wrap_i64 (by omega) (by omega)]; omega
    refine wp_loop_to r.cs.length (fun i st => ∃ hp nx ex, J (menRulesTo r r.ms.length ++ recRulesTo r i) hp nx ∧ st = ({ sl := (0, .yld k) :: (1, .fp (encRoll o1 o2 o3 o4 r) 0) :: (38, SL 7 (r.cs.map encC) o4) :: (39, I r.cs.length) :: (40, I i) :: ex, hp := hp, nx := nx } : FS)) ?_ 0 (Nat.zero_le _) ⟨hp, nx, _, by simpa [recRulesTo] using hj, rfl⟩
    clear hj hp nx ex
    rintro i st hi ⟨hp, nx, ex, hj, rfl⟩
    by_cases hc : i < r.cs.length
    · obtain ⟨v1, v2, v3, v4⟩ := hv.cs_ok _ (get!_mem hc)
      obtain ⟨M, hM⟩ := Int.eq_ofNat_of_zero_le v1
      have hw12 : IntKind.wrap .i64 (12 + (i : Int)) = ((12 + i : Nat) : Int) := by rw [wrap_i64 (by omega) (by omega)]; omega
      have hwM : IntKind.wrap .i64 (6 + (M : Int)) = ((6 + M : Nat) : Int) := by rw [wrap_i64 (by omega) (by omega)]; omega
      have hrl : recRulesTo r (i + 1) = recRulesTo r i ++ recRules r i r.cs[i]! := recRules_succ
      cases hk : r.cs[i]!.kin with
      | true =>
        obtain ⟨w1, w2, w3, w4, w5, w6, w7⟩ := v3 hk
        obtain ⟨C, hC⟩ := Int.eq_ofNat_of_zero_le w1
        have hr : recRules r i r.cs[i]! = [⟨M, C, r.plo⟩, ⟨C, M, -r.phi⟩, ⟨C, 6 + M, -1⟩] := by simp only [recRules, hk, hM, hC, if_true]; rfl
        have hr2 : [Vl.agg [I M, I C, I r.plo], Vl.agg [I C, I M, I (-r.phi)], Vl.agg [I C, I ((6 + M : Nat) : Int), I (-1)]] = (recRules r i r.cs[i]!).map encR := by rw [hr]; rfl
        have hr3 : (Vl.int .i64 3 : Vl) = I ((recRules r i r.cs[i]!).length : Nat) := by rw [hr]; rfl
        simp +contextual (maxSteps := 1000000) (disch := first | omega | (with_reducible first | refine krN ?_ | refine krS ?_ | refine krP ?_ | refine krG ?_); kernel_rfl | refine kr ?_; simp only [go_sem, seval, -List.reduceReplicate, encC, ix_map, Int.ofNat_lt, hc, hk, hM, hC, hwM, hwp, run_frz]; done | fail) only [go_sem, seval, -List.reduceReplicate, encC, ix_map, Int.ofNat_lt, hc, hk, hM, hC, hwM, hwp, run_frz]
        rw [hr2, hr3]
        clear hr hr2 hr3
        have hLb : (recRules r i r.cs[i]!).length ≤ 3 := by unfold recRules; split <;> simp
        generalize recRules r i r.cs[i]! = L at hrl hj hLb ⊢
        refine wp_loop_to L.length (fun j st => ∃ hp nx ex, J (menRulesTo r r.ms.length ++ recRulesTo r i ++ L.take j) hp nx ∧ st = ({ sl := (0, .yld k) :: (1, .fp (encRoll o1 o2 o3 o4 r) 0) :: (38, SL 7 (r.cs.map encC) o4) :: (39, I r.cs.length) :: (40, I i) :: (102, .lst 3 (L.map encR) true) :: (103, I L.length) :: (104, I j) :: ex, hp := hp, nx := nx } : FS)) ?_ 0 (Nat.zero_le _) ⟨_, _, _, by simpa using hj, rfl⟩
        clear hj hp nx ex
        rintro j st hjl ⟨hp, nx, ex, hj, rfl⟩
        by_cases hj3 : j < L.length
        · have hb2 : (menRulesTo r r.ms.length ++ recRulesTo r i ++ L.take j).length < 100 := by (have := @recRules_len r i; rw [List.length_append, List.length_append, menRules_len, List.length_take]; omega)
          simp +contextual (maxSteps := 1000000) (disch := first | omega | (with_reducible first | refine krN ?_ | refine krS ?_ | refine krP ?_ | refine krG ?_); kernel_rfl | refine kr ?_; simp only [go_sem, seval, -List.reduceReplicate, ix_lst, hj3, Int.ofNat_lt, encR, Int.toNat_natCast]; done | fail) only [go_sem, seval, -List.reduceReplicate, ix_lst, hj3, Int.ofNat_lt, encR, Int.toNat_natCast]
          refine wcYldMono (hJ _ L[j]! _ hb2 hj) ?_
          rintro v ⟨lc', hp', nx'⟩ ⟨rfl, hlc, hj'⟩
          simp only at hlc hj'
          subst hlc
          simp +contextual (maxSteps := 1000000) (disch := first | omega | (with_reducible first | refine krN ?_ | refine krS ?_ | refine krP ?_ | refine krG ?_); kernel_rfl | refine kr ?_; simp only [go_sem, seval, -List.reduceReplicate, hj3]; done | fail) only [go_sem, seval, -List.reduceReplicate, hj3]
          refine ⟨_, _, _, ?_, rfl⟩
          rw [take_snoc hj3, ← List.append_assoc]; exact hj'
        · have hje : j = L.length := by omega
          subst hje
          simp +contextual (maxSteps := 1000000) (disch := first | omega | (with_reducible first | refine krN ?_ | refine krS ?_ | refine krP ?_ | refine krG ?_); kernel_rfl | refine kr ?_; simp only [go_sem, seval, -List.reduceReplicate, Int.lt_irrefl]; done | fail) only [go_sem, seval, -List.reduceReplicate, Int.lt_irrefl]
          refine ⟨_, _, _, ?_, rfl⟩
          rw [hrl, ← List.append_assoc]; simpa using hj
      | false =>
        obtain ⟨w1, w2, w3, w4, w5, w6⟩ := v4 hk
        have hr : recRules r i r.cs[i]! = [⟨M, 12 + i, ageOf r.os r.cs[i]!⟩, ⟨12 + i, 6 + M, 0⟩] := by simp only [recRules, hk, hM, Bool.false_eq_true, if_false]; rfl
        have hr2 : [Vl.agg [I M, I ((12 + i : Nat) : Int), I (ageOf r.os r.cs[i]!)], Vl.agg [I ((12 + i : Nat) : Int), I ((6 + M : Nat) : Int), I 0]] = (recRules r i r.cs[i]!).map encR := by rw [hr]; rfl
        have hr3 : (Vl.int .i64 2 : Vl) = I ((recRules r i r.cs[i]!).length : Nat) := by rw [hr]; rfl
        simp +contextual (maxSteps := 1000000) (disch := first | omega | (with_reducible first | refine krN ?_ | refine krS ?_ | refine krP ?_ | refine krG ?_); kernel_rfl | refine kr ?_; simp only [go_sem, seval, -List.reduceReplicate, encC, encO, ix_map, Int.ofNat_lt, hc, hk, hM, hwM, hw12, run_frz]; done | fail) only [go_sem, seval, -List.reduceReplicate, encC, encO, ix_map, Int.ofNat_lt, hc, hk, hM, hwM, hw12, run_frz]
        refine WI_of (fun ho => ?_) (fun ho => ?_)
        · have ha : ageOf r.os r.cs[i]! = r.os[r.cs[i]!.office.toNat]!.age := by unfold ageOf; rw [if_pos ho]
          rw [ha] at hr2
          rw [hr2, hr3]
          replace hj := hF _ _ _ (.fro 3 ((recRules r i r.cs[i]!).map encR)) hj
          clear hr hr2 hr3 ha
          have hLb : (recRules r i r.cs[i]!).length ≤ 3 := by unfold recRules; split <;> simp
          generalize recRules r i r.cs[i]! = L at hrl hj hLb ⊢
          refine wp_loop_to L.length (fun j st => ∃ hp nx ex, J (menRulesTo r r.ms.length ++ recRulesTo r i ++ L.take j) hp nx ∧ st = ({ sl := (0, .yld k) :: (1, .fp (encRoll o1 o2 o3 o4 r) 0) :: (38, SL 7 (r.cs.map encC) o4) :: (39, I r.cs.length) :: (40, I i) :: (102, .lst 3 (L.map encR) false) :: (103, I L.length) :: (104, I j) :: ex, hp := hp, nx := nx } : FS)) ?_ 0 (Nat.zero_le _) ⟨_, _, _, by simpa using hj, rfl⟩
          clear hj hp nx ex
          rintro j st hjl ⟨hp, nx, ex, hj, rfl⟩
          by_cases hj3 : j < L.length
          · have hb2 : (menRulesTo r r.ms.length ++ recRulesTo r i ++ L.take j).length < 100 := by (have := @recRules_len r i; rw [List.length_append, List.length_append, menRules_len, List.length_take]; omega)
            simp +contextual (maxSteps := 1000000) (disch := first | omega | (with_reducible first | refine krN ?_ | refine krS ?_ | refine krP ?_ | refine krG ?_); kernel_rfl | refine kr ?_; simp only [go_sem, seval, -List.reduceReplicate, ix_lst, hj3, Int.ofNat_lt, encR, Int.toNat_natCast]; done | fail) only [go_sem, seval, -List.reduceReplicate, ix_lst, hj3, Int.ofNat_lt, encR, Int.toNat_natCast]
            refine wcYldMono (hJ _ L[j]! _ hb2 hj) ?_
            rintro v ⟨lc', hp', nx'⟩ ⟨rfl, hlc, hj'⟩
            simp only at hlc hj'
            subst hlc
            simp +contextual (maxSteps := 1000000) (disch := first | omega | (with_reducible first | refine krN ?_ | refine krS ?_ | refine krP ?_ | refine krG ?_); kernel_rfl | refine kr ?_; simp only [go_sem, seval, -List.reduceReplicate, hj3]; done | fail) only [go_sem, seval, -List.reduceReplicate, hj3]
            refine ⟨_, _, _, ?_, rfl⟩
            rw [take_snoc hj3, ← List.append_assoc]; exact hj'
          · have hje : j = L.length := by omega
            subst hje
            simp +contextual (maxSteps := 1000000) (disch := first | omega | (with_reducible first | refine krN ?_ | refine krS ?_ | refine krP ?_ | refine krG ?_); kernel_rfl | refine kr ?_; simp only [go_sem, seval, -List.reduceReplicate, Int.lt_irrefl]; done | fail) only [go_sem, seval, -List.reduceReplicate, Int.lt_irrefl]
            refine ⟨_, _, _, ?_, rfl⟩
            rw [hrl, ← List.append_assoc]; simpa using hj
        · have ha : ageOf r.os r.cs[i]! = 0 := by unfold ageOf; rw [if_neg ho]
          rw [ha] at hr2
          rw [hr2, hr3]
          replace hj := hF _ _ _ (.fro 3 ((recRules r i r.cs[i]!).map encR)) hj
          clear hr hr2 hr3 ha
          have hLb : (recRules r i r.cs[i]!).length ≤ 3 := by unfold recRules; split <;> simp
          generalize recRules r i r.cs[i]! = L at hrl hj hLb ⊢
          refine wp_loop_to L.length (fun j st => ∃ hp nx ex, J (menRulesTo r r.ms.length ++ recRulesTo r i ++ L.take j) hp nx ∧ st = ({ sl := (0, .yld k) :: (1, .fp (encRoll o1 o2 o3 o4 r) 0) :: (38, SL 7 (r.cs.map encC) o4) :: (39, I r.cs.length) :: (40, I i) :: (102, .lst 3 (L.map encR) false) :: (103, I L.length) :: (104, I j) :: ex, hp := hp, nx := nx } : FS)) ?_ 0 (Nat.zero_le _) ⟨_, _, _, by simpa using hj, rfl⟩
          clear hj hp nx ex
          rintro j st hjl ⟨hp, nx, ex, hj, rfl⟩
          by_cases hj3 : j < L.length
          · have hb2 : (menRulesTo r r.ms.length ++ recRulesTo r i ++ L.take j).length < 100 := by (have := @recRules_len r i; rw [List.length_append, List.length_append, menRules_len, List.length_take]; omega)
            simp +contextual (maxSteps := 1000000) (disch := first | omega | (with_reducible first | refine krN ?_ | refine krS ?_ | refine krP ?_ | refine krG ?_); kernel_rfl | refine kr ?_; simp only [go_sem, seval, -List.reduceReplicate, ix_lst, hj3, Int.ofNat_lt, encR, Int.toNat_natCast]; done | fail) only [go_sem, seval, -List.reduceReplicate, ix_lst, hj3, Int.ofNat_lt, encR, Int.toNat_natCast]
            refine wcYldMono (hJ _ L[j]! _ hb2 hj) ?_
            rintro v ⟨lc', hp', nx'⟩ ⟨rfl, hlc, hj'⟩
            simp only at hlc hj'
            subst hlc
            simp +contextual (maxSteps := 1000000) (disch := first | omega | (with_reducible first | refine krN ?_ | refine krS ?_ | refine krP ?_ | refine krG ?_); kernel_rfl | refine kr ?_; simp only [go_sem, seval, -List.reduceReplicate, hj3]; done | fail) only [go_sem, seval, -List.reduceReplicate, hj3]
            refine ⟨_, _, _, ?_, rfl⟩
            rw [take_snoc hj3, ← List.append_assoc]; exact hj'
          · have hje : j = L.length := by omega
            subst hje
            simp +contextual (maxSteps := 1000000) (disch := first | omega | (with_reducible first | refine krN ?_ | refine krS ?_ | refine krP ?_ | refine krG ?_); kernel_rfl | refine kr ?_; simp only [go_sem, seval, -List.reduceReplicate, Int.lt_irrefl]; done | fail) only [go_sem, seval, -List.reduceReplicate, Int.lt_irrefl]
            refine ⟨_, _, _, ?_, rfl⟩
            rw [hrl, ← List.append_assoc]; simpa using hj
    · have : i = r.cs.length := by omega
      subst this
      simp +contextual (maxSteps := 1000000) (disch := first | omega | (with_reducible first | refine krN ?_ | refine krS ?_ | refine krP ?_ | refine krG ?_); kernel_rfl | refine kr ?_; simp only [go_sem, seval, -List.reduceReplicate, Int.lt_irrefl, rulesF]; done | fail) only [go_sem, seval, -List.reduceReplicate, Int.lt_irrefl, rulesF]
      exact hj
end Go.Proofs
namespace Go.Proofs
open Go Go.Idl
set_option linter.unusedSimpArgs false
variable {b : Bool}
theorem app3_nils {m : Mem} {x : Vl} {o : Bool} : isAppend Try.prog 116 116 .nils (.lst 3 [x] o) m = some (.own m.nx 1, { m with hp := upd m.hp m.nx (.arr 3 [x]), nx := m.nx + 1 }) := app1_nils (by rw [td116]) rfl
theorem app3_own {m : Mem} {id n : Nat} {xs : List Vl} {x : Vl} {o : Bool} (ho : m.hp id = .arr 3 xs) (hn : xs.length = n) (hs : n < 100000) : isAppend Try.prog 116 116 (.own id n) (.lst 3 [x] o) m = some (.own id (n + 1), { m with hp := upd m.hp id (.arr 3 (xs ++ [x])) }) :=
  app1_own (by rw [td116]) ho hn (grow_ok rfl rfl (by decide) (by decide) (by omega))
theorem rules_ne {r : Roll} (hv : Val r) : rulesF r ≠ [] := by
  have h1 := hv.ms_l
  obtain ⟨n, hn⟩ : ∃ n, r.ms.length = n + 1 := ⟨r.ms.length - 1, by omega⟩
  unfold rulesF
  rw [hn, menRules_succ]
  simp [manRules]
set_option maxRecDepth 10000 in
set_option maxHeartbeats 4000000 in
theorem appendSeq_to {r : Roll} {o1 o2 o3 o4 : Option Bool} (hv : Val r) :
    HAns Try.prog (AA b) 97 [.nils, .fn (.func 98) [] [.fp (encRoll o1 o2 o3 o4 r) 0]] noHeap 0 fun v hp' nx' => ∃ a, v = .own a (rulesF r).length ∧ hp' a = .arr 3 ((rulesF r).map encR) := by
  refine HAns_of Try.func97 rfl ?_
  simp +contextual (maxSteps := 1000000) (disch := first | omega | (with_reducible first | refine krN ?_ | refine krS ?_ | refine krP ?_ | refine krG ?_); kernel_rfl | refine kr ?_; simp only [go_sem, seval, -List.reduceReplicate, newBox]; done | fail) only [go_sem, seval, -List.reduceReplicate, newBox]
  refine wp_rangeFunc (.inl rfl) rfl ?_
  simp only [List.nil_append, List.append_nil, List.cons_append, noLoc, noLocV, Array.toList, List.singleton_append]
  generalize hlp : Ob.loop 97 _ _ _ _ _ = lp
  refine HAns.mono (rules_to (b := b) (J := fun done hp nx => 2 ≤ nx ∧ hp 1 = lp ∧ ((done = [] ∧ hp 0 = .box .nils) ∨ ∃ a, 2 ≤ a ∧ a < nx ∧ hp 0 = .box (.own a done.length) ∧ hp a = .arr 3 (done.map encR))) hv ?_ ?_ ?_) ?_
  · rintro done x ⟨lc, hp, nx⟩ hd ⟨j1, j2, j3⟩
    simp only at j1 j2 j3 ⊢
    subst hlp
    refine wc_yld (vs := [encR x]) rfl rfl j2 ?_
    have u1 : ∀ o, upd hp nx o 1 = hp 1 := fun o => upd_ne _ _ (by omega)
    have u0 : ∀ o, upd hp nx o 0 = hp 0 := fun o => upd_ne _ _ (by omega)
    have v1 : ∀ (h : Nat → Ob) o, upd h 1 o 0 = h 0 := fun h o => upd_ne _ _ (by decide)
    have v2 : ∀ (h : Nat → Ob) o, upd h 1 o nx = h nx := fun h o => upd_ne _ _ (by omega)
    simp +contextual (maxSteps := 1000000) (disch := first | omega | (with_reducible first | refine krN ?_ | refine krS ?_ | refine krP ?_ | refine krG ?_); kernel_rfl | refine kr ?_; simp only [go_sem, seval, -List.reduceReplicate, newBox, setPs, encR, u1, u0, j2, v1, v2]; done | fail) only [go_sem, seval, -List.reduceReplicate, newBox, setPs, encR, u1, u0, j2, v1, v2]
    rcases j3 with ⟨rfl, j3⟩ | ⟨a, k1, k2, k3, k4⟩
    · simp +contextual (maxSteps := 1000000) (disch := first | omega | (with_reducible first | refine krN ?_ | refine krS ?_ | refine krP ?_ | refine krG ?_); kernel_rfl | refine kr ?_; simp only [go_sem, seval, -List.reduceReplicate, newBox, j2, j3, app3_nils]; done | fail) only [go_sem, seval, -List.reduceReplicate, newBox, j2, j3, app3_nils]
      exact .inr ⟨nx + 1, by omega, by omega, rfl, by rw [upd_ne _ _ (by omega), upd_ne _ _ (by omega), upd_same]; rfl⟩
    · have hap : ∀ (t : Bool) (o : Ob) (n' : Nat) (o1 : Ob), isAppend Try.prog 116 116 (.own a done.length) (.lst 3 [.agg [I x.a, I x.b, I x.n]] t) { lc := [], hp := upd (upd hp nx o1) 1 o, nx := n' } = some (.own a (done.length + 1), { lc := [], hp := upd (upd (upd hp nx o1) 1 o) a (.arr 3 (done.map encR ++ [.agg [I x.a, I x.b, I x.n]])), nx := n' }) := fun t o n' o1 =>
        app3_own (by show upd (upd hp nx o1) 1 o a = _; rw [upd_ne _ _ (by omega), upd_ne _ _ (by omega)]; exact k4) (by simp) (by omega)
      simp +contextual (maxSteps := 1000000) (disch := first | omega | (with_reducible first | refine krN ?_ | refine krS ?_ | refine krP ?_ | refine krG ?_); kernel_rfl | refine kr ?_; simp only [go_sem, seval, -List.reduceReplicate, newBox, j2, k3, hap]; done | fail) only [go_sem, seval, -List.reduceReplicate, newBox, j2, k3, hap]
      exact ⟨by omega, .inr ⟨a, k1, by omega, by rw [List.length_append]; rfl, by rw [upd_ne _ _ (by omega), upd_ne _ _ (by omega), upd_same, List.map_append]; rfl⟩⟩
  · rintro done hp nx o ⟨j1, j2, j3⟩
    refine ⟨by omega, by rw [upd_ne _ _ (by omega)]; exact j2, ?_⟩
    rcases j3 with ⟨rfl, j3⟩ | ⟨a, k1, k2, k3, k4⟩
    · exact .inl ⟨rfl, by rw [upd_ne _ _ (by omega)]; exact j3⟩
    · exact .inr ⟨a, k1, by omega, by rw [upd_ne _ _ (by omega)]; exact k3, by rw [upd_ne _ _ (by omega)]; exact k4⟩
  · exact ⟨by omega, upd_same _ _ _, .inl ⟨rfl, by rw [upd_ne _ _ (by decide), upd_same]⟩⟩
  · rintro v hp' nx' ⟨j1, j2, j3⟩
    subst hlp
    refine .inl ⟨_, _, _, _, _, j2, ?_⟩
    rcases j3 with ⟨e, j3⟩ | ⟨a, k1, k2, k3, k4⟩
    · exact absurd e (rules_ne hv)
    · have v1 : ∀ o, upd hp' 1 o 0 = hp' 0 := fun o => upd_ne _ _ (by decide)
      have v2 : ∀ o, upd hp' 1 o a = hp' a := fun o => upd_ne _ _ (by omega)
      simp +contextual (maxSteps := 1000000) (disch := first | omega | (with_reducible first | refine krN ?_ | refine krS ?_ | refine krP ?_ | refine krG ?_); kernel_rfl | refine kr ?_; simp only [go_sem, seval, -List.reduceReplicate, v1, v2, k3, k4]; done | fail) only [go_sem, seval, -List.reduceReplicate, v1, v2, k3, k4]
      exact ⟨a, rfl, by rw [v2]; exact k4⟩
mutual
theorem reify_closedV {inn : Vl → Option (Vl × List Nat)} {hp : Nat → Ob} : ∀ x : Vl, x.closed = true → reifyF inn hp x = some (x, [])
  | .int .., _ | .bool _, _ | .str _, _ | .nils, _ | .nilp, _ | .nilf, _ | .nili, _ | .nilm, _ | .undef, _ => rfl
  | .agg cs, h => by simp only [reifyF, reify_closedL cs h]; rfl
  | .tup cs, h => by simp only [reifyF, reify_closedL cs h]; rfl
  | .ifc t v, h => by simp only [reifyF, reify_closedV v h]; rfl
  | .fn f a c, h => by
    simp only [Vl.closed, Bool.and_eq_true] at h
    simp only [reifyF, reify_closedL a h.1, reify_closedL c h.2, Option.bind_some, Option.map_some]
    rfl
  | .lst e xs x, h => by
    have h : closedL xs = true := h
    simp only [reifyF, if_pos h]
  | .fp c o, h => by
    have h : c.closed = true := h
    simp only [reifyF, if_pos h]
  | .own .., h | .ep .., h | .bp .., h | .mp _, h | .yld _, h | .loc _, h => by cases h
theorem reify_closedL {inn : Vl → Option (Vl × List Nat)} {hp : Nat → Ob} : ∀ xs : List Vl, closedL xs = true → reifyL inn hp xs = some (xs, [])
  | [], _ => rfl
  | x :: xs, h => by
    simp only [closedL, Bool.and_eq_true] at h
    simp only [reifyL, reify_closedV x h.1, reify_closedL xs h.2, Option.bind_some, Option.map_some]
    rfl
end
theorem rfC {hp : Nat → Ob} {x : Vl} (h : x.closed = true) : reify hp x = some (x, []) := reify_closedV x h
theorem rfAs {m : Mem} : ∀ {xs : List Vl}, closedL xs = true → reifyAs m (xs.map .v) = some (xs, [], false)
  | [], _ => rfl
  | x :: xs, h => by
    simp only [closedL, Bool.and_eq_true] at h
    simp only [List.map_cons, reifyAs_v, rfC h.1, rfAs h.2, Option.bind_some, Option.map_some]
    rfl
theorem closedL_map {α : Type} {f : α → Vl} (h : ∀ x, (f x).closed = true) : ∀ l : List α, closedL (l.map f) = true
  | [] => rfl
  | x :: l => by simp only [List.map_cons, closedL, h x, closedL_map h l, Bool.and_self]
theorem clO (o : Office) : (encO o).closed = true := rfl
theorem clM (o : Man) : (encM o).closed = true := rfl
theorem clC (o : Rec) : (encC o).closed = true := rfl
theorem clI (o : Int) : (I o).closed = true := rfl
theorem clRw (o : List Bool) : (encRow o).closed = true := closed_SL (closedL_map (fun _ => rfl) o)
theorem clR (o : Rule) : (encR o).closed = true := rfl
theorem clRoll (o1 o2 o3 o4 : Option Bool) (r : Roll) : (encRoll o1 o2 o3 o4 r).closed = true := by
  simp only [encRoll, Vl.closed, closedL, closed_SL (closedL_map clO r.os), closed_SL (closedL_map clRw r.fs), closed_SL (closedL_map clM r.ms), closed_SL (closedL_map clC r.cs), Bool.and_self]
theorem reify_fnbp {hp : Nat → Ob} {f : Fn} {id : Nat} {c : Vl} (h : hp id = .box c) (hc : c.closed = true) : reify hp (.fn f [] [.bp id 0]) = some (.fn f [] [.fp c 0], [id]) := by
  unfold reify
  simp only [reifyF, reifyL, h, reify_closedV c hc, Option.bind_some, Option.map_some]
  rfl
theorem rules80_to {r : Roll} {o1 o2 o3 o4 : Option Bool} : Ans Try.prog (AA b) 80 [encRoll o1 o2 o3 o4 r] (fun v => v = .fn (.func 98) [] [.fp (encRoll o1 o2 o3 o4 r) 0]) := by
  refine Ans_of Try.func80 rfl rfl ?_
  simp +contextual (maxSteps := 1000000) (disch := first | omega | (with_reducible first | refine krN ?_ | refine krS ?_ | refine krP ?_ | refine krG ?_); kernel_rfl | refine kr ?_; simp only [go_sem, seval, -List.reduceReplicate, newBox]; done | fail) only [go_sem, seval, -List.reduceReplicate, newBox]
  refine OB_intro (reify_fnbp (upd_same _ _ _) (clRoll o1 o2 o3 o4 r)) rfl
theorem reify_fp0 {f : Fn} {c : Vl} (hc : c.closed = true) : (Vl.fn f [] [.fp c 0]).closed = true := by simp only [Vl.closed, closedL, hc, Bool.and_self]
theorem collect_to {r : Roll} {o1 o2 o3 o4 : Option Bool} (hv : Val r) : Ans Try.prog (AA b) 79 [.fn (.func 98) [] [.fp (encRoll o1 o2 o3 o4 r) 0]] (fun v => v = .lst 3 ((rulesF r).map encR) false) := by
  refine Ans_of Try.func79 rfl rfl ?_
  simp +contextual (maxSteps := 1000000) (disch := first | omega | (with_reducible first | refine krN ?_ | refine krS ?_ | refine krP ?_ | refine krG ?_); kernel_rfl | refine kr ?_; simp only [go_sem, seval, -List.reduceReplicate]; done | fail) only [go_sem, seval, -List.reduceReplicate]
  refine wc_heap (by simp only [mkAnn, K97]) rfl (appendSeq_to (b := b) (o1 := o1) (o2 := o2) (o3 := o3) (o4 := o4) hv) ?_
  rintro v hp' nx' ⟨a, rfl, ha⟩
  simp +contextual (maxSteps := 1000000) (disch := first | omega | (with_reducible first | refine krN ?_ | refine krS ?_ | refine krP ?_ | refine krG ?_); kernel_rfl | refine kr ?_; simp only [go_sem, seval, -List.reduceReplicate]; done | fail) only [go_sem, seval, -List.reduceReplicate]
  exact OB_intro (reify_flat (.inl ha) rfl fun _ => rfl) rfl
section
variable {m : Mem} {K : Vl → Mem → Prop}
theorem wc80 {r : Roll} {o1 o2 o3 o4 : Option Bool} : WC Try.prog (AA b) (.fn (.func 80) [] []) [.v (encRoll o1 o2 o3 o4 r)] m K = K (.fn (.func 98) [] [.fp (encRoll o1 o2 o3 o4 r) 0]) m :=
  WC_pure (by simp only [mkAnn, K80]) (rfAs (xs := [encRoll o1 o2 o3 o4 r]) (by simp only [closedL, clRoll, Bool.and_self])) rfl (reify_fp0 (f := .func 98) (clRoll o1 o2 o3 o4 r)) rules80_to
theorem wc79 {r : Roll} {o1 o2 o3 o4 : Option Bool} (hv : Val r) : WC Try.prog (AA b) (.fn (.func 79) [] []) [.v (.fn (.func 98) [] [.fp (encRoll o1 o2 o3 o4 r) 0])] m K = K (.lst 3 ((rulesF r).map encR) false) m :=
  WC_pure (by simp only [mkAnn, K79]) (rfAs (xs := [.fn (.func 98) [] [.fp (encRoll o1 o2 o3 o4 r) 0]]) (by simp only [closedL, reify_fp0 (f := .func 98) (clRoll o1 o2 o3 o4 r), Bool.and_self])) rfl (closedL_map clR _) (collect_to hv)
end
end Go.Proofs
