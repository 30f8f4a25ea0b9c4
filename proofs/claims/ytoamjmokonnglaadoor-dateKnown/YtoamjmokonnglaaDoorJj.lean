/- What functions of the given program do in the ideal machine (J17), and the plain laws of what they answer; the conditions stand in each theorem. -/
import Derived.Test.YtoamjmokonnglaaDoorJi
set_option linter.all false
set_option linter.unusedSectionVars false
set_option linter.unusedSimpArgs false
set_option linter.unusedVariables false
namespace Go.Proofs
open Go Go.Idl Go.Dt
set_option linter.unusedSimpArgs false
variable {b : Nat}
def dropNs (s : Nat) : Nat → List Nt → List Nt
  | _, [] => []
  | i, n :: l => if s / 2 ^ i % 2 = 1 then dropNs s (i + 1) l else n :: dropNs s (i + 1) l
theorem dropNs_snoc {s : Nat} {n : Nt} : ∀ (l : List Nt) (k : Nat), dropNs s k (l ++ [n]) = dropNs s k l ++ (if s / 2 ^ (k + l.length) % 2 = 1 then [] else [n])
  | [], k => rfl
  | m :: l, k => by
    show (if s / 2 ^ k % 2 = 1 then dropNs s (k + 1) (l ++ [n]) else m :: dropNs s (k + 1) (l ++ [n])) = (if s / 2 ^ k % 2 = 1 then dropNs s (k + 1) l else m :: dropNs s (k + 1) l) ++ _
    rw [dropNs_snoc l (k + 1), List.length_cons, show k + 1 + l.length = k + (l.length + 1) by omega]
    split <;> rfl
theorem dropNs_len {s : Nat} : ∀ (l : List Nt) (k : Nat), (dropNs s k l).length ≤ l.length
  | [], _ => Nat.le_refl _
  | m :: l, k => by
    have := dropNs_len (s := s) l (k + 1)
    unfold dropNs
    split <;> simp only [List.length_cons] <;> omega
theorem dropNs_mem {s : Nat} {n : Nt} : ∀ (l : List Nt) (k : Nat), n ∈ dropNs s k l → n ∈ l
  | [], _, h => h
  | m :: l, k, h => by
    unfold dropNs at h
    split at h
    · exact List.mem_cons_of_mem _ (dropNs_mem l (k + 1) h)
    · rcases List.mem_cons.1 h with rfl | h
      · exact List.mem_cons_self ..
      · exact List.mem_cons_of_mem _ (dropNs_mem l (k + 1) h)
def dropD (s : Nat) (d : Dt) : Dt := { d with notes := dropNs s 0 d.notes }
theorem dropD_ok {s : Nat} {d : Dt} (h : DtOk d) : DtOk (dropD s d) where
  stones := h.stones
  eras_l := h.eras_l
  eras := h.eras
  notes_l := Nat.le_trans (dropNs_len d.notes 0) h.notes_l
  notes n hn := by
    have k := h.notes n (dropNs_mem d.notes 0 hn)
    exact ⟨k.kind, k.stone, k.years, k.span, k.plain, k.era, k.after⟩
def wrongF (d : Dt) : Option Nat := (srtL d.notes.length).find? fun s => !(tabsL (dropD s d)).isEmpty
def wrongV (d : Dt) : Vl × Int := if checkE d ≠ 0 then (.nils, checkE d) else match wrongF d with
  | some s => (setV s, 0)
  | none => (.nils, 0)
theorem srtL_lt {n : Nat} (hn : n ≤ 6) : (srtL n).length = 2 ^ n ∧ ∀ s ∈ srtL n, s < 64 := by
  have h7 : n = 0 ∨ n = 1 ∨ n = 2 ∨ n = 3 ∨ n = 4 ∨ n = 5 ∨ n = 6 := by omega
  rcases h7 with rfl | rfl | rfl | rfl | rfl | rfl | rfl <;> exact ⟨by decide, by decide⟩
theorem us_snoc {n : Nat} : us (List.range n) ++ [.int .u64 (n : Int)] = us (List.range (n + 1)) := by
  unfold us
  rw [List.range_succ, List.map_append]; rfl
theorem ap83_nils {m : Mem} {x : Vl} {o : Bool} : isAppend Tryd.prog 61 61 .nils (.lst 1 [x] o) m = some (.own m.nx 1, { m with hp := upd m.hp m.nx (.arr 1 [x]), nx := m.nx + 1 }) := app1_nils (by rw [td61]) rfl
theorem ap83_own {m : Mem} {id n : Nat} {xs : List Vl} {x : Vl} {o : Bool} (ho : m.hp id = .arr 1 xs) (hn : xs.length = n) (hs : n < 100000) : isAppend Tryd.prog 61 61 (.own id n) (.lst 1 [x] o) m = some (.own id (n + 1), { m with hp := upd m.hp id (.arr 1 (xs ++ [x])) }) :=
  app1_own (by rw [td61]) ho hn (grow_ok rfl rfl (by decide) (by decide) (by omega))
theorem ap23_nils {m : Mem} {x : Vl} {o : Bool} : isAppend Tryd.prog 23 23 .nils (.lst 6 [x] o) m = some (.own m.nx 1, { m with hp := upd m.hp m.nx (.arr 6 [x]), nx := m.nx + 1 }) := app1_nils (by rw [td23]) rfl
theorem ap23_own {m : Mem} {id n : Nat} {xs : List Vl} {x : Vl} {o : Bool} (ho : m.hp id = .arr 6 xs) (hn : xs.length = n) (hs : n < 100000) : isAppend Tryd.prog 23 23 (.own id n) (.lst 6 [x] o) m = some (.own id (n + 1), { m with hp := upd m.hp id (.arr 6 (xs ++ [x])) }) :=
  app1_own (by rw [td23]) ho hn (grow_ok rfl rfl (by decide) (by decide) (by omega))
theorem find_at {α : Type} [Inhabited α] {p : α → Bool} : ∀ {l : List α} {j : Nat}, j < l.length → p l[j]! = true → (∀ k, k < j → p l[k]! = false) → l.find? p = some l[j]!
  | [], j, h, _, _ => by simp at h
  | x :: l, 0, _, h, _ => by
    have h : p x = true := h
    simp [h]
  | x :: l, j + 1, hj, h, hk => by
    have h0 : p x = false := hk 0 (by omega)
    have := find_at (l := l) (j := j) (by simpa using hj) (by simpa using h) (fun k hk' => by simpa using hk (k + 1) (by omega))
    simp [h0, this]
theorem find_none {α : Type} [Inhabited α] {p : α → Bool} {l : List α} (h : ∀ k, k < l.length → p l[k]! = false) : l.find? p = none := by
  rw [List.find?_eq_none]
  intro x hx
  obtain ⟨k, hk, rfl⟩ := List.getElem_of_mem hx
  have := h k hk
  rw [getElem!_pos l k hk] at this
  simp [this]
def SB (i : Nat) (hp : Nat → Ob) (v : Vl) (nx : Nat) : Prop := (i = 0 ∧ v = .nils ∧ hp = upd (upd noHeap 0 (.box .nils)) 1 (.box (I 0)) ∧ nx = 2) ∨ (0 < i ∧ v = .own 2 i ∧ hp = upd (upd (upd noHeap 0 (.box .nils)) 1 (.box (I 0))) 2 (.arr 1 (us (List.range i))) ∧ nx = 3)
def NB (kept : List Nt) (h0 : Nat → Ob) (s nx : Nat) (hp : Nat → Ob) (v : Vl) (nx2 : Nat) : Prop := (∀ i, i < nx → hp i = h0 i) ∧ hp nx = .box (.int .u64 s) ∧ ((kept = [] ∧ v = .nils ∧ nx2 = nx + 1) ∨ (kept ≠ [] ∧ v = .own (nx + 1) kept.length ∧ nx2 = nx + 2 ∧ hp (nx + 1) = .arr 6 (kept.map encN)))
def WJ (L : List Nat) (S nx nx2 : Nat) (lp : Ob) (done : List (List Int)) (hp : Nat → Ob) (_n : Nat) : Prop := done = [] ∧ hp 0 = .box .nils ∧ hp 1 = .box (I 0) ∧ hp 2 = .arr 1 (us L) ∧ hp nx = .box (.int .u64 (S : Int)) ∧ hp nx2 = lp
def WZ (L : List Nat) (S nx2 : Nat) (P : Prop) (hp : Nat → Ob) (_n : Nat) : Prop := P ∧ hp 0 = .box (setV S) ∧ hp 1 = .box (I 0) ∧ hp 2 = .arr 1 (us L) ∧ ∃ g sl ps asg bd, hp nx2 = .loop g sl ps asg bd (.done .ret)
theorem WZ.mk {L : List Nat} {S nx2 n : Nat} {P : Prop} {hp : Nat → Ob} {g : FuncId} {sl : List (Nat × Vl)} {ps : List Nat} {asg bd : Code} (h : P) (h0 : hp 0 = .box (setV S)) (h1 : hp 1 = .box (I 0)) (h2 : hp 2 = .arr 1 (us L)) (h3 : hp nx2 = .loop g sl ps asg bd (.done .ret)) : WZ L S nx2 P hp n := ⟨h, h0, h1, h2, _, _, _, _, _, h3⟩
@[reducible] def bas (c : Vl) : Nat → Ob := upd (upd noHeap 0 (.box .nils)) 1 (.box (I 0))
variable {c : Nat}
set_option maxRecDepth 10000 in
set_option maxHeartbeats 4000000 in
theorem wrong_to {d : Dt} (hn6 : checkE d = 0 → d.notes.length ≤ 6) {o1 o2 : Option Bool} : Ans Tryd.prog (AA (c + 1)) 15 [encD o1 o2 d] (fun v => v = .tup [(wrongV d).1, I (wrongV d).2]) := by
  refine Ans_of Tryd.func15 rfl rfl ?_
  by_cases h1 : checkE d = 0
  case neg =>
    rw [wrongV, if_pos h1]
    simp +contextual (maxSteps := 1000000) (disch := first | omega | (with_reducible first | refine krN ?_ | refine krS ?_ | refine krP ?_ | refine krG ?_); kernel_rfl | refine kr ?_; simp only [go_sem, reduceCtorEq, wc6, h1, newBox]; done | fail) only [go_sem, seval, -List.reduceReplicate, wc6, h1, newBox]
  have hd := checkE_ok.1 h1
  have hn := hn6 h1
  rw [wrongV, if_neg (fun h => h h1)]
  obtain ⟨n, hnn⟩ : ∃ n, d.notes.length = n := ⟨_, rfl⟩
  have hsh : binOpV { ok := true, agg := false, size := 1, zero := .int .u64 0, flat := some [CK.i], k := TK.int .u64 } .shl (.int .u64 1) (.int .i64 (d.notes.length : Int)) = some (.int .u64 ((2 ^ n : Nat) : Int)) := by
    rw [hnn] at hn ⊢
    have h7 : n = 0 ∨ n = 1 ∨ n = 2 ∨ n = 3 ∨ n = 4 ∨ n = 5 ∨ n = 6 := by omega
    rcases h7 with rfl | rfl | rfl | rfl | rfl | rfl | rfl <;> rfl
  simp +contextual (maxSteps := 1000000) (disch := first | omega | (with_reducible first | refine krN ?_ | refine krS ?_ | refine krP ?_ | refine krG ?_); kernel_rfl | refine kr ?_; simp only [go_sem, reduceCtorEq, wc6, h1, newBox, hsh]; done | fail) only [go_sem, seval, -List.reduceReplicate, wc6, h1, newBox, hsh]
  obtain ⟨M, hM⟩ : ∃ M, 2 ^ n = M := ⟨_, rfl⟩
  obtain ⟨hsl, hs64⟩ := srtL_lt (n := n) (by omega)
  have hMb : 1 ≤ M ∧ M ≤ 64 := by
    have : 2 ^ n ≤ 2 ^ 6 := Nat.pow_le_pow_right (by decide) (by omega)
    have h1 : 1 ≤ 2 ^ n := Nat.one_le_two_pow
    omega
  rw [hM]
  rw [hM] at hsl
  clear hsh
  refine wp_loop_to M (fun i st => ∃ (hp : Nat → Ob) (v : Vl) (nx : Nat) (ex : List (Nat × Vl)), SB i hp v nx ∧ st = ({ sl := (1, .loc (encD o1 o2 d)) :: (2, .bp 0 0) :: (3, .bp 1 0) :: (5, v) :: (20, .int .u64 (M : Int)) :: (21, .int .u64 (i : Int)) :: ex, hp := hp, nx := nx } : FS)) ?_ 0 (Nat.zero_le _) ⟨_, .nils, 2, _, .inl ⟨rfl, rfl, rfl, rfl⟩, rfl⟩
  rintro i st hi ⟨hp, v, nx, ex, hS, rfl⟩
  by_cases hc : i < M
  · have hci : (i : Int) < M := by omega
    have hwu : IntKind.wrap .u64 ((i : Int) + 1) = ((i + 1 : Nat) : Int) := by rw [conv_n (by omega) (by omega)]; omega
    rcases hS with ⟨rfl, rfl, rfl, rfl⟩ | ⟨h2, rfl, rfl, rfl⟩
    · have hc0 : (0 : Int) < M := by omega
      simp +contextual (maxSteps := 1000000) (disch := first | omega | (with_reducible first | refine krN ?_ | refine krS ?_ | refine krP ?_ | refine krG ?_); kernel_rfl | refine kr ?_; simp only [go_sem, reduceCtorEq, hc, hc0, ap83_nils]; done | fail) only [go_sem, seval, -List.reduceReplicate, hc, hc0, ap83_nils]
      exact ⟨_, _, _, _, .inr ⟨by omega, rfl, rfl, rfl⟩, rfl⟩
    · have hap : ∀ (t : Bool), isAppend Tryd.prog 61 61 (.own 2 i) (.lst 1 [.int .u64 (i : Int)] t) { lc := [], hp := upd (upd (upd noHeap 0 (.box .nils)) 1 (.box (I 0))) 2 (.arr 1 (us (List.range i))), nx := 3 } = some (.own 2 (i + 1), { lc := [], hp := upd (upd (upd noHeap 0 (.box .nils)) 1 (.box (I 0))) 2 (.arr 1 (us (List.range (i + 1)))), nx := 3 }) := fun t => by
        rw [ap83_own (m := { lc := [], hp := upd (upd (upd noHeap 0 (.box .nils)) 1 (.box (I 0))) 2 (.arr 1 (us (List.range i))), nx := 3 }) (xs := us (List.range i)) (upd_same _ _ _) (by rw [us_len, List.length_range]) (by omega)]
        rw [us_snoc]
        simp only [upd_upd]
      simp +contextual (maxSteps := 1000000) (disch := first | omega | (with_reducible first | refine krN ?_ | refine krS ?_ | refine krP ?_ | refine krG ?_); kernel_rfl | refine kr ?_; simp only [go_sem, reduceCtorEq, hc, hci, hap, hwu]; done | fail) only [go_sem, seval, -List.reduceReplicate, hc, hci, hap, hwu]
      exact ⟨_, _, _, _, .inr ⟨by omega, rfl, by rw [List.range_succ], rfl⟩, rfl⟩
  have hie : i = M := by omega
  subst hie
  rcases hS with ⟨h2, _⟩ | ⟨_, rfl, rfl, rfl⟩
  · omega
  simp +contextual (maxSteps := 1000000) (disch := first | omega | (with_reducible first | refine krN ?_ | refine krS ?_ | refine krP ?_ | refine krG ?_); kernel_rfl | refine kr ?_; simp only [go_sem, reduceCtorEq, Int.lt_irrefl]; done | fail) only [go_sem, seval, -List.reduceReplicate, Int.lt_irrefl]
  subst hM
  refine wc_heap (by rfl) rfl (sort_to (c := c) (show n ≤ 6 by omega)) ?_
  rintro v hp1 n1 ⟨rfl, rfl, s0, s1, s2⟩
  have hn3 : 3 ≤ srtN n := by
    have h7 : n = 0 ∨ n = 1 ∨ n = 2 ∨ n = 3 ∨ n = 4 ∨ n = 5 ∨ n = 6 := by omega
    rcases h7 with rfl | rfl | rfl | rfl | rfl | rfl | rfl <;> decide
  have s0 : hp1 0 = .box .nils := s0
  have s1 : hp1 1 = .box (I 0) := s1
  obtain ⟨M, hM⟩ : ∃ M, 2 ^ n = M := ⟨_, rfl⟩
  rw [hM] at hsl hMb ⊢
  generalize srtN n = nx1 at hn3 ⊢
  have hF : wrongF d = (srtL n).find? fun s => !(tabsL (dropD s d)).isEmpty := by unfold wrongF; rw [hnn]
  rw [hF]
  generalize srtL n = L at hsl hs64 s2 hF ⊢
  simp +contextual (maxSteps := 1000000) (disch := first | omega | (with_reducible first | refine krN ?_ | refine krS ?_ | refine krP ?_ | refine krG ?_); kernel_rfl | refine kr ?_; simp only [go_sem, reduceCtorEq]; done | fail) only [go_sem, seval, -List.reduceReplicate]
  refine wp_loop_to M (fun j st => ∃ (hp : Nat → Ob) (nx : Nat) (ex : List (Nat × Vl)), hp 0 = .box .nils ∧ hp 1 = .box (I 0) ∧ hp 2 = .arr 1 (us L) ∧ 3 ≤ nx ∧ (∀ k, k < j → tabsL (dropD L[k]! d) = []) ∧ st = ({ sl := (1, .loc (encD o1 o2 d)) :: (2, .bp 0 0) :: (3, .bp 1 0) :: (31, .own 2 M) :: (32, I M) :: (33, I j) :: ex, hp := hp, nx := nx } : FS)) ?_ 0 (Nat.zero_le _) ⟨hp1, nx1, _, s0, s1, s2, hn3, fun k hk => by omega, rfl⟩
  clear s0 s1 s2 hn3 ex
  rintro j st hj ⟨hp, nx, ex, s0, s1, s2, hn3, hno, rfl⟩
  by_cases hc : j < M
  case neg =>
    have hje : j = M := by omega
    subst hje
    have hfn : L.find? (fun s => !(tabsL (dropD s d)).isEmpty) = none := find_none fun k hk => by rw [hno k (by omega)]; rfl
    rw [hfn]
    simp +contextual (maxSteps := 1000000) (disch := first | omega | (with_reducible first | refine krN ?_ | refine krS ?_ | refine krP ?_ | refine krG ?_); kernel_rfl | refine kr ?_; simp only [go_sem, reduceCtorEq, Int.lt_irrefl, s0, s1]; done | fail) only [go_sem, seval, -List.reduceReplicate, Int.lt_irrefl, s0, s1]
  have hcj : (j : Int) < M := by omega
  have hjl : j < L.length := by omega
  have hs := hs64 _ (get!_mem hjl)
  obtain ⟨S, hSd⟩ : ∃ S, L[j]! = S := ⟨_, rfl⟩
  rw [hSd] at hs
  have hix : ∀ lc, indexAddrV (.slice 1 8 (.int .u64 0)) (.v (.own 2 M)) (.int .i64 (j : Int)) { lc := lc, hp := hp, nx := nx } = some (.v (.ep 2 M j 0), { lc := lc, hp := hp, nx := nx }) := fun lc => by
    rw [indexAddr_own s2 (by rw [us_len]; exact hsl) (by omega) (by decide)]; rfl
  have hrd : ∀ lc, Mem.read { lc := lc, hp := hp, nx := nx } false 1 (.v (.ep 2 M j 0)) = some (.int .u64 (S : Int)) := fun lc => by
    rw [mread_ep s2 (by rw [us_len]; exact hsl) (x := .int .u64 (S : Int)) (by unfold us; rw [List.getElem?_map, List.getElem?_eq_getElem hjl, ← hSd, get!_eq hjl]; rfl)]; rfl
  simp +contextual (maxSteps := 1000000) (disch := first | omega | (with_reducible first | refine krN ?_ | refine krS ?_ | refine krP ?_ | refine krG ?_); kernel_rfl | refine kr ?_; simp only [go_sem, reduceCtorEq, hcj, hc, hix, hrd, newBox]; done | fail) only [go_sem, seval, -List.reduceReplicate, hcj, hc, hix, hrd, newBox]
  refine wp_loop_to d.notes.length (fun i st => ∃ (hp2 : Nat → Ob) (v : Vl) (nx2 : Nat) (ex : List (Nat × Vl)), NB (dropNs S 0 (d.notes.take i)) hp S nx hp2 v nx2 ∧
    st = ({ sl := (1, .loc (encD o1 o2 d)) :: (2, .bp 0 0) :: (3, .bp 1 0) :: (8, .bp nx 0) :: (9, .loc (.agg [I d.stones, SL 2 (d.eras.map encS) o1, v])) :: (31, .own 2 M) :: (32, I M) :: (33, I j) :: (40, SL 6 (d.notes.map encN) o2) :: (41, I d.notes.length) :: (42, I i) :: ex, hp := hp2, nx := nx2 } : FS)) ?_ 0 (Nat.zero_le _)
    ⟨_, .nils, nx + 1, _, ⟨fun i hi => upd_ne _ _ (by omega), upd_same _ _ _, .inl ⟨rfl, rfl, rfl⟩⟩, rfl⟩
  rintro i st hi ⟨hp2, v, nx2, ex, ⟨b1, b2, b3⟩, rfl⟩
  by_cases hci : i < d.notes.length
  · have hci' : (i : Int) < d.notes.length := by omega
    have htk := take_snoc hci
    have hsn := dropNs_snoc (s := S) (n := d.notes[i]!) (d.notes.take i) 0
    rw [← htk, List.length_take, Nat.min_eq_left (by omega), Nat.zero_add] at hsn
    have hi8 : i < 8 := by omega
    have hS256 : S < 256 := by omega
    by_cases hb : S / 2 ^ i % 2 = 1
    · rw [if_pos hb, List.append_nil] at hsn
      rcases b3 with ⟨e1, rfl, rfl⟩ | ⟨e1, rfl, rfl, e2⟩
      · simp +contextual (maxSteps := 1000000) (disch := first | omega | (with_reducible first | refine krN ?_ | refine krS ?_ | refine krP ?_ | refine krG ?_); kernel_rfl | refine kr ?_; simp only [go_sem, reduceCtorEq, hci, hci', ix_map, wc31_0, hi8, hS256, hb, b2]; done | fail) only [go_sem, seval, -List.reduceReplicate, hci, hci', ix_map, wc31_0, hi8, hS256, hb, b2]
        exact ⟨hp2, _, _, _, ⟨b1, b2, .inl ⟨by rw [hsn]; exact e1, rfl, rfl⟩⟩, rfl⟩
      · simp +contextual (maxSteps := 1000000) (disch := first | omega | (with_reducible first | refine krN ?_ | refine krS ?_ | refine krP ?_ | refine krG ?_); kernel_rfl | refine kr ?_; simp only [go_sem, reduceCtorEq, hci, hci', ix_map, wc31_0, hi8, hS256, hb, b2]; done | fail) only [go_sem, seval, -List.reduceReplicate, hci, hci', ix_map, wc31_0, hi8, hS256, hb, b2]
        exact ⟨hp2, _, _, _, ⟨b1, b2, .inr ⟨by rw [hsn]; exact e1, by rw [hsn], rfl, by rw [hsn]; exact e2⟩⟩, rfl⟩
    · rw [if_neg hb] at hsn
      rcases b3 with ⟨e1, rfl, rfl⟩ | ⟨e1, rfl, rfl, e2⟩
      · rw [e1, List.nil_append] at hsn
        simp +contextual (maxSteps := 1000000) (disch := first | omega | (with_reducible first | refine krN ?_ | refine krS ?_ | refine krP ?_ | refine krG ?_); kernel_rfl | refine kr ?_; simp only [go_sem, reduceCtorEq, hci, hci', ix_map, wc31_0, hi8, hS256, hb, b2, ap23_nils]; done | fail) only [go_sem, seval, -List.reduceReplicate, hci, hci', ix_map, wc31_0, hi8, hS256, hb, b2, ap23_nils]
        exact ⟨_, _, _, _, ⟨fun k hk => by rw [upd_ne _ _ (by omega)]; exact b1 k hk, by rw [upd_ne _ _ (by omega)]; exact b2, .inr ⟨by rw [hsn]; simp, by rw [hsn]; rfl, rfl, by rw [upd_same, hsn]; rfl⟩⟩, rfl⟩
      · have hlen := dropNs_len (s := S) (d.notes.take i) 0
        rw [List.length_take] at hlen
        have hap : ∀ (x : Vl) (t : Bool), isAppend Tryd.prog 23 23 (.own (nx + 1) (dropNs S 0 (d.notes.take i)).length) (.lst 6 [x] t) { lc := [], hp := hp2, nx := nx + 2 } = some (.own (nx + 1) ((dropNs S 0 (d.notes.take i)).length + 1), { lc := [], hp := upd hp2 (nx + 1) (.arr 6 ((dropNs S 0 (d.notes.take i)).map encN ++ [x])), nx := nx + 2 }) := fun x t => ap23_own e2 (by simp) (by omega)
        simp +contextual (maxSteps := 1000000) (disch := first | omega | (with_reducible first | refine krN ?_ | refine krS ?_ | refine krP ?_ | refine krG ?_); kernel_rfl | refine kr ?_; simp only [go_sem, reduceCtorEq, hci, hci', ix_map, wc31_0, hi8, hS256, hb, b2, hap]; done | fail) only [go_sem, seval, -List.reduceReplicate, hci, hci', ix_map, wc31_0, hi8, hS256, hb, b2, hap]
        exact ⟨_, _, _, _, ⟨fun k hk => by rw [upd_ne _ _ (by omega)]; exact b1 k hk, by rw [upd_ne _ _ (by omega)]; exact b2, .inr ⟨by rw [hsn]; simp, by rw [hsn, List.length_append]; rfl, rfl, by rw [upd_same, hsn, List.map_append]; rfl⟩⟩, rfl⟩
  have hie : i = d.notes.length := by omega
  subst hie
  rw [List.take_length] at b3
  have hk : ∃ o3 ks, reify hp2 v = some (SL 6 ((dropNs S 0 d.notes).map encN) o3, ks) ∧ (∀ i, i ≤ nx → killHp ks hp2 i = hp2 i) ∧ (∀ t, slotV t v = .v v) ∧ nx < nx2 := by
    rcases b3 with ⟨e1, rfl, rfl⟩ | ⟨e1, rfl, rfl, e2⟩
    · exact ⟨none, [], by rw [e1]; rfl, fun _ _ => rfl, fun _ => rfl, by omega⟩
    · refine ⟨some false, [nx + 1], reify_flat (.inl e2) rfl fun n => reify_closedV _ (clN n), fun i hi => ?_, fun _ => rfl, by omega⟩
      rw [killHp_one, upd_ne _ _ (by omega)]
  obtain ⟨o3, ks, hrf, hkl, hsv, hnx⟩ := hk
  have hrfS : ∀ hp, reify hp (SL 2 (d.eras.map encS) o1) = some (SL 2 (d.eras.map encS) o1, []) := fun hp => reify_SL (closedL_map clS _)
  have w63 := fun m K => wc32 (b := c + 1) (m := m) (K := K) (d := dropD S d) (o1 := o1) (o2 := o3)
  have hen : encD o1 o3 (dropD S d) = .agg [I d.stones, SL 2 (d.eras.map encS) o1, SL 6 ((dropNs S 0 d.notes).map encN) o3] := rfl
  rw [hen] at w63
  simp +contextual (maxSteps := 1000000) (disch := first | omega | (with_reducible first | refine krN ?_ | refine krS ?_ | refine krP ?_ | refine krG ?_); kernel_rfl | refine kr ?_; simp only [go_sem, reduceCtorEq, Int.lt_irrefl, w63, hrfS, hrf, hsv]; done | fail) only [go_sem, seval, -List.reduceReplicate, Int.lt_irrefl, w63, hrfS, hrf, hsv]
  rw [← hen]
  have a0 : killHp ks hp2 0 = .box .nils := by rw [hkl 0 (by omega), b1 0 (by omega), s0]
  have a1 : killHp ks hp2 1 = .box (I 0) := by rw [hkl 1 (by omega), b1 1 (by omega), s1]
  have a2 : killHp ks hp2 2 = .arr 1 (us L) := by rw [hkl 2 (by omega), b1 2 (by omega), s2]
  have a3 : killHp ks hp2 nx = .box (.int .u64 (S : Int)) := by rw [hkl nx (Nat.le_refl _), b2]
  generalize killHp ks hp2 = hq at a0 a1 a2 a3 ⊢
  clear hkl hrf b1 b2 b3
  have hd' := dropD_ok (s := S) hd
  refine wp_rangeFunc (.inl rfl) rfl ?_
  simp only [List.nil_append, List.append_nil, List.cons_append, noLoc, noLocV, Array.toList, List.singleton_append]
  generalize hlp : Ob.loop 15 _ _ _ _ _ = lp
  have i0 : ∀ o, upd hq nx2 o 0 = .box .nils := fun o => by rw [upd_ne _ _ (by omega)]; exact a0
  have i1 : ∀ o, upd hq nx2 o 1 = .box (I 0) := fun o => by rw [upd_ne _ _ (by omega)]; exact a1
  have i2 : ∀ o, upd hq nx2 o 2 = .arr 1 (us L) := fun o => by rw [upd_ne _ _ (by omega)]; exact a2
  have i3 : ∀ o, upd hq nx2 o nx = .box (.int .u64 (S : Int)) := fun o => by rw [upd_ne _ _ (by omega)]; exact a3
  refine HAns.mono (tables1_to (b := c + 1) (o1 := o1) (o2 := o3) (J := WJ L S nx nx2 lp) (Z := WZ L S nx2 (tabsL (dropD S d) ≠ [])) hd' ?_ ?_ ⟨rfl, i0 _, i1 _, i2 _, i3 _, upd_same _ _ _⟩) ?_
  · rintro done x ⟨lc, hz, nz⟩ ⟨rest, hpre⟩ hxg hxb hnz ⟨rfl, k0, k1, k2, k3, k4⟩
    simp only at hnz k0 k1 k2 k3 k4 ⊢
    subst hlp
    refine wc_yld (vs := [tV x]) rfl rfl k4 ?_
    have v3 : ∀ o, upd hz nx2 o nx = hz nx := fun o => upd_ne _ _ (by omega)
    have v0 : ∀ o, upd hz nx2 o 0 = hz 0 := fun o => upd_ne _ _ (by omega)
    have v1 : ∀ o, upd hz nx2 o 1 = hz 1 := fun o => upd_ne _ _ (by omega)
    have hS256 : S < 256 := by omega
    have hne : tabsL (dropD S d) ≠ [] := by rw [hpre]; simp
    have hst : setV S = .nils ∨ ∃ xs x, setV S = .lst 1 xs x := by
      rcases SL_cases 1 ((bitsN S).map I) none with ⟨_, e⟩ | ⟨x, e⟩
      · exact .inl e
      · exact .inr ⟨_, x, e⟩
    rcases hst with e | ⟨xs, xx, e⟩
    all_goals
      simp +contextual (maxSteps := 1000000) (disch := first | omega | (with_reducible first | refine krN ?_ | refine krS ?_ | refine krP ?_ | refine krG ?_); kernel_rfl | refine kr ?_; simp only [go_sem, reduceCtorEq, newBox, setPs, k0, k1, k3, k4, v0, v1, v3, wc33_0, hS256, e]; done | fail) only [go_sem, seval, -List.reduceReplicate, newBox, setPs, k0, k1, k3, k4, v0, v1, v3, wc33_0, hS256, e]
      refine .inr ⟨rfl, WZ.mk hne ?_ ?_ ?_ (upd_same _ _ _)⟩
      · rw [upd_ne _ _ (by omega), upd_ne _ _ (by decide), upd_same, e]
      · rw [upd_ne _ _ (by omega), upd_same]
      · rw [upd_ne _ _ (by omega), upd_ne _ _ (by decide), upd_ne _ _ (by decide), upd_ne _ _ (by omega)]; exact k2
  · rintro done hz n' o hn' ⟨rfl, k0, k1, k2, k3, k4⟩
    exact ⟨rfl, by rw [upd_ne _ _ (by omega)]; exact k0, by rw [upd_ne _ _ (by omega)]; exact k1, by rw [upd_ne _ _ (by omega)]; exact k2, by rw [upd_ne _ _ (by omega)]; exact k3, by rw [upd_ne _ _ (by omega)]; exact k4⟩
  · rintro v hz nz ⟨hnz, hjz⟩
    rcases hjz with ⟨e, k0, k1, k2, k3, k4⟩ | ⟨hne, k0, k1, k2, g', sl, ps, asg, bd, k4⟩
    · subst hlp
      refine .inl ⟨_, _, _, _, _, k4, ?_⟩
      simp +contextual (maxSteps := 1000000) (disch := first | omega | (with_reducible first | refine krN ?_ | refine krS ?_ | refine krP ?_ | refine krG ?_); kernel_rfl | refine kr ?_; simp only [go_sem, reduceCtorEq]; done | fail) only [go_sem, seval, -List.reduceReplicate]
      refine ⟨_, _, _, ?_, ?_, ?_, ?_, ?_, rfl⟩
      · rw [upd_ne _ _ (by omega)]; exact k0
      · rw [upd_ne _ _ (by omega)]; exact k1
      · rw [upd_ne _ _ (by omega)]; exact k2
      · omega
      · intro k hk
        by_cases h : k < j
        · exact hno k h
        · have h : k = j := by omega
          rw [h, hSd, e]
    · refine .inr ⟨_, _, _, _, _, _, k4, ?_⟩
      have hfs : L.find? (fun s => !(tabsL (dropD s d)).isEmpty) = some S := by
        rw [← hSd]
        refine find_at hjl ?_ fun k hk => by rw [hno k hk]; rfl
        rw [hSd]
        cases h : tabsL (dropD S d) with
        | nil => exact absurd h hne
        | cons x l => rfl
      have hst : setV S = .nils ∨ ∃ xs x, setV S = .lst 1 xs x := by
        rcases SL_cases 1 ((bitsN S).map I) none with ⟨_, e⟩ | ⟨x, e⟩
        · exact .inl e
        · exact .inr ⟨_, x, e⟩
      have hrS : ∀ h, reify h (setV S) = some (setV S, []) := fun h => rfC (clSet S)
      rw [hfs]
      rcases hst with e | ⟨xs, xx, e⟩
      all_goals
        rw [e] at k0 hrS
        simp +contextual (maxSteps := 1000000) (disch := first | omega | (with_reducible first | refine krN ?_ | refine krS ?_ | refine krP ?_ | refine krG ?_); kernel_rfl | refine kr ?_; simp only [go_sem, reduceCtorEq, k0, k1, hrS]; done | fail) only [go_sem, seval, -List.reduceReplicate, k0, k1, hrS]
        rw [e]
end Go.Proofs
