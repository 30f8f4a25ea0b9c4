/- What functions of the given program do in the ideal machine (J43, J44), and the plain laws of what they answer; the conditions stand in each theorem. -/
import Derived.Test.YtoamjmokonnglaaJr
set_option linter.all false
set_option linter.unusedSectionVars false
set_option linter.unusedSimpArgs false
set_option linter.unusedVariables false
namespace Go.Proofs
open Go Go.Idl Go.Dt
set_option linter.unusedSimpArgs false
variable {b : Nat}
def wkR (d : Dt) (n : Nt) : Wk :=
  if n.kind = 1 then ⟨0, 1 + n.stone.toNat, n.ys.map fun y => (y, y)⟩
  else if n.kind = 3 then ⟨1 + d.stones.toNat + n.other.toNat, 1 + n.stone.toNat, [(n.lo - 1, n.hi - 1)]⟩
  else if n.kind = 4 then ⟨1 + n.other.toNat, 1 + n.stone.toNat, [(n.lo, n.hi)]⟩
  else ⟨0, 1 + n.stone.toNat, [(n.lo, n.hi)]⟩
def embR (d : Dt) (x : Nat) : Nat := if x < 1 + d.stones.toNat then x else 7 + (x - (1 + d.stones.toNat))
theorem embR_lt {d : Dt} (h : DtOk d) {x : Nat} (hx : x < ptsR d) : embR d x < 10 := by
  have := h.stones; have := h.eras_l
  unfold ptsR at hx; unfold embR; split <;> omega
theorem embR_0 {d : Dt} : embR d 0 = 0 := by unfold embR; rw [if_pos (by omega)]
theorem embR_st {d : Dt} {i : Nat} (h : (i : Int) < d.stones) : embR d (1 + i) = 1 + i := by unfold embR; rw [if_pos (by omega)]
theorem embR_er {d : Dt} {i : Nat} : embR d (1 + d.stones.toNat + i) = 7 + i := by unfold embR; rw [if_neg (by omega)]; omega
theorem embR_inj {d : Dt} (h : DtOk d) : ∀ x y, x < ptsR d → y < ptsR d → embR d x = embR d y → x = y := by
  intro x y _ _ e
  have := h.stones
  unfold embR at e
  split at e <;> split at e <;> omega
theorem wkR_ways {d : Dt} {n : Nt} : (wkR d n).ways = n.wk.ways := by
  unfold wkR Nt.wk
  repeat' split
  all_goals rfl
theorem wkR_emb {d : Dt} (h : DtOk d) {n : Nt} (hn : NtOk d n) : (wkR d n).emb (embR d) = n.wk := by
  have h3 := hn.stone
  have hb : embR d (1 + n.stone.toNat) = 1 + n.stone.toNat := embR_st (by omega)
  unfold wkR Nt.wk
  by_cases e1 : n.kind = 1
  · rw [if_pos e1, if_pos e1]; simp only [Wk.emb, hb, embR_0]
  rw [if_neg e1, if_neg e1]
  by_cases e3 : n.kind = 3
  · rw [if_pos e3, if_pos e3]; simp only [Wk.emb, hb, embR_er]
  rw [if_neg e3, if_neg e3]
  by_cases e4 : n.kind = 4
  · have h4 := hn.after e4
    have ha : embR d (1 + n.other.toNat) = 1 + n.other.toNat := embR_st (by omega)
    rw [if_pos e4]; simp only [Wk.emb, hb, ha]
  rw [if_neg e4]; simp only [Wk.emb, hb, embR_0]
theorem wkR_pts {d : Dt} (h : DtOk d) {n : Nt} (hn : NtOk d n) : (wkR d n).a < ptsR d ∧ (wkR d n).b < ptsR d ∧ (wkR d n).b = 1 + n.stone.toNat := by
  have h3 := hn.stone
  have h0 : 1 + n.stone.toNat < ptsR d := by unfold ptsR; omega
  unfold wkR
  by_cases e1 : n.kind = 1
  · rw [if_pos e1]; exact ⟨by show 0 < _; omega, h0, rfl⟩
  rw [if_neg e1]
  by_cases e3 : n.kind = 3
  · have h4 := hn.era e3
    rw [if_pos e3]; exact ⟨by show 1 + d.stones.toNat + n.other.toNat < ptsR d; unfold ptsR; omega, h0, rfl⟩
  rw [if_neg e3]
  by_cases e4 : n.kind = 4
  · have h4 := hn.after e4
    rw [if_pos e4]; exact ⟨by show 1 + n.other.toNat < ptsR d; unfold ptsR; omega, h0, rfl⟩
  rw [if_neg e4]; exact ⟨by show 0 < _; omega, h0, rfl⟩
theorem wkR_ok {d : Dt} (h : DtOk d) {n : Nt} (hn : n ∈ d.notes) : (wkR d n).a < ptsR d ∧ (wkR d n).b < ptsR d ∧ embR d (wkR d n).a ≠ embR d (wkR d n).b := by
  have k := h.notes n hn
  obtain ⟨p1, p2, _⟩ := wkR_pts h k
  refine ⟨p1, p2, ?_⟩
  have := (wk_ok h hn).2.2
  rw [← wkR_emb h k] at this
  exact this
theorem base_pair {d : Dt} (h : DtOk d) {K : Tb} (g : BG d K) : (clsL (erasL 0 d.eras blankL)).2 = true ∧ Pair (ptsR d) (embR d) K (clsL (erasL 0 d.eras blankL)).1 := by
  have hl := h.eras_l
  have h6 := h.stones
  have e1 := eras_len d.eras 0 _ blank_len
  have hb : ∀ w : Nat → Int, w 0 = 0 → (Sat 10 (tb (erasL 0 d.eras blankL)) w ↔ (∀ v, v < 10 → -3000 ≤ w v ∧ w v ≤ 3000) ∧ ∀ j, j < d.eras.length → (d.eras[j]!).1 ≤ w (7 + j) ∧ w (7 + j) ≤ (d.eras[j]!).2) := fun w w0 => by
    rw [sat_eras w0 d.eras 0 _ blank_len (by omega), sat_blank w0]
  have key : ∀ v : Nat → Int, v 0 = 0 → (Base d v ↔ ∃ w : Nat → Int, w 0 = 0 ∧ Sat 10 (tb (erasL 0 d.eras blankL)) w ∧ ∀ x, x < ptsR d → w (embR d x) = v x) := by
    intro v v0
    constructor
    · intro b
      refine ⟨fun x => if x < 7 then (if x < 1 + d.stones.toNat then v x else 0) else (if x - 7 < d.eras.length then v (1 + d.stones.toNat + (x - 7)) else 0), ?_, ?_, ?_⟩
      · show (if (0 : Nat) < 7 then (if 0 < 1 + d.stones.toNat then v 0 else 0) else _) = 0
        rw [if_pos (by omega), if_pos (by omega), v0]
      · refine (hb _ (by show (if (0 : Nat) < 7 then (if 0 < 1 + d.stones.toNat then v 0 else 0) else _) = 0; rw [if_pos (by omega), if_pos (by omega), v0])).2 ⟨fun x hx => ?_, fun j hj => ?_⟩
        · by_cases c1 : x < 7
          · rw [if_pos c1]
            by_cases c2 : x < 1 + d.stones.toNat
            · rw [if_pos c2]; exact base_bnd h v0 b (by unfold ptsR; omega)
            · rw [if_neg c2]; omega
          · rw [if_neg c1]
            by_cases c2 : x - 7 < d.eras.length
            · rw [if_pos c2]; exact base_bnd h v0 b (by unfold ptsR; omega)
            · rw [if_neg c2]; omega
        · rw [if_neg (by omega), if_pos (by omega), show 7 + j - 7 = j by omega]
          exact b.eras j hj
      · intro x hx
        unfold ptsR at hx
        unfold embR
        dsimp only
        by_cases c1 : x < 1 + d.stones.toNat
        · rw [if_pos c1, if_pos (by omega), if_pos c1]
        · rw [if_neg c1, if_neg (by omega), if_pos (by omega)]
          congr 1; omega
    · rintro ⟨w, w0, w1, w2⟩
      obtain ⟨w3, w4⟩ := (hb w w0).1 w1
      refine ⟨fun j hj => ?_, fun j hj => ?_⟩
      · have := w2 (1 + j) (by unfold ptsR; omega)
        rw [embR_st hj] at this
        rw [← this]; exact w3 _ (by omega)
      · have := w2 (1 + d.stones.toNat + j) (by unfold ptsR; omega)
        rw [embR_er] at this
        rw [← this]; exact w4 j hj
  have hc : (clsL (erasL 0 d.eras blankL)).2 = true := by
    cases e : (clsL (erasL 0 d.eras blankL)).2 with
    | true => rfl
    | false =>
      obtain ⟨w, _, w1, _⟩ := (key _ wit0).1 (wit_base h)
      exact absurd w1 (clsL_false e1 e w)
  have hG := (base_GT h hc).1
  obtain ⟨_, _, _, f4, _⟩ := clsL_true e1 hc
  refine ⟨hc, g.good, hG.good, hG.zero, fun v v0 => ?_⟩
  rw [g.sat v v0, key v v0]
  constructor
  · rintro ⟨w, w0, w1, w2⟩; exact ⟨w, w0, (f4 w).2 w1, w2⟩
  · rintro ⟨w, w0, w1, w2⟩; exact ⟨w, w0, (f4 w).1 w1, w2⟩
noncomputable def waysR (d : Dt) (K : Tb) : List Tb := waysK (ptsR d) (d.notes.map (wkR d)) K
theorem waysR_two {d : Dt} (h : DtOk d) {K : Tb} (g : BG d K) : Two (Pair (ptsR d) (embR d)) (waysR d K) (tabsL d) := by
  obtain ⟨hc, hp⟩ := base_pair h g
  have h2 := ways_two (n := ptsR d) (emb := embR d) (by unfold ptsR; omega) (fun x hx => embR_lt h hx) embR_0 (d.notes.map (wkR d)) (fun s hs => by
    obtain ⟨n, hn, rfl⟩ := List.mem_map.1 hs
    exact wkR_ok h hn) hp
  have e : (d.notes.map (wkR d)).map (Wk.emb (embR d)) = d.notes.map Nt.wk := by
    rw [List.map_map]
    exact List.map_congr_left fun n hn => wkR_emb h (h.notes n hn)
  rw [e] at h2
  unfold waysR tabsL
  rw [if_pos hc]
  exact h2
theorem two_get {α β : Type} [Inhabited α] [Inhabited β] {R : α → β → Prop} {al : List α} {bl : List β} (h : Two R al bl) : ∀ i, i < al.length → R al[i]! bl[i]! := by
  induction h with
  | nil => intro i hi; exact absurd hi (Nat.not_lt_zero _)
  | cons a _ ih =>
    intro i hi
    cases i with
    | zero => exact a
    | succ i => exact ih i (by simpa using hi)
structure Ents (d : Dt) (ks : List Tb) : Prop where
  len : ks.length = (tabsL d).length
  eq : ∀ i, i < ks.length → ∀ a c, a < ptsR d → c < ptsR d → (ks[i]!) a c = tb (tabsL d)[i]! (embR d a) (embR d c)
  good : ∀ i, i < ks.length → GoodK (ptsR d) ks[i]! ∧ UB (ptsR d) ks[i]!
theorem waysR_ents {d : Dt} (h : DtOk d) {K : Tb} (g : BG d K) : Ents d (waysR d K) := by
  have h2 := waysR_two h g
  have key : ∀ i, i < (waysR d K).length → ∀ a c, a < ptsR d → c < ptsR d → ((waysR d K)[i]!) a c = tb (tabsL d)[i]! (embR d a) (embR d c) := fun i hi a c ha hc => by
    have p := two_get h2 i hi
    exact rel_entry p.rel (by omega) (fun x hx => embR_lt h hx) embR_0 (embR_inj h) p.good.clos p.good.zero p.prog p.zero ha hc
  refine ⟨h2.length, key, fun i hi => ⟨(two_get h2 i hi).good, fun a c ha hc => ?_⟩⟩
  rw [key i hi a c ha hc]
  exact ((tabs_TOk h) _ (get!_mem (by rw [← h2.length]; exact hi))).2 _ _ (embR_lt h ha) (embR_lt h hc) |>.2
theorem mayB_false {n : Nat} {K : Tb} (h : mayB n K = false) : ¬ Diag n K := fun k => by rw [mayB_iff.2 k] at h; cases h
end Go.Proofs
namespace Go.Proofs
open Go Go.Idl Go.Dt
set_option linter.unusedSimpArgs false
variable {b : Nat}
theorem apA {m : Mem} {id n : Nat} {xs ys : List Vl} {o : Option Bool} (ho : m.hp id = .arr 1 xs) (hn : xs.length = n) (hs : n + ys.length ≤ 100000) : isAppend Try.prog 92 92 (.own id n) (SL 1 ys o) m = some (.own id (n + ys.length), { m with hp := upd m.hp id (.arr 1 (xs ++ ys)) }) := by
  have hg : okGrow 24 1 (.agg [.nils]) (xs.length + ys.length) = true := grow_ok rfl rfl (by decide) (by decide) (by omega)
  unfold isAppend appendV
  rw [td92]
  rcases SL_cases 1 ys o with ⟨rfl, hx⟩ | ⟨x, hx⟩
  · have hg : okGrow 24 1 (.agg [.nils]) xs.length = true := hg
    rw [hx]
    simp [Mem.elems, ho, hn, hg]
    rw [← hn, hg]
  · rw [hx]
    simp only [Mem.elems, if_true, Option.bind_some, ho]
    rw [hg]
    simp [hn]
theorem withK_good {n a c : Nat} {K : Tb} {lo hi : Int} (g : GoodK n K) (ha : a < n) (hc : c < n) (h : mayB n (withK n K a c lo hi) = true) : GoodK n (withK n K a c lo hi) := by
  have h := mayB_iff.1 h
  rw [withK_ref] at h ⊢
  exact (refWith_may g ha hc h).1
theorem kVs_cl {n : Nat} {l : List Tb} {o : Option Bool} : (SL 1 (l.map (kV n)) o).closed = true := closed_SL (closedL_map (fun _ => kV_cl) _)
theorem flatMap_len' {α β : Type} {f : α → List β} {c : Nat} : ∀ {l : List α}, (∀ x ∈ l, (f x).length ≤ c) → (l.flatMap f).length ≤ l.length * c
  | [], _ => by simp
  | x :: l, h => by
    have h1 := flatMap_len' (l := l) (f := f) (c := c) fun y hy => h y (List.mem_cons_of_mem _ hy)
    have h2 := h x (List.mem_cons_self ..)
    rw [List.flatMap_cons, List.length_append, List.length_cons, Nat.succ_mul]
    omega
theorem waysK_len {n : Nat} : ∀ (ns : List Wk), (∀ s ∈ ns, s.ways.length ≤ 3) → ∀ K : Tb, (waysK n ns K).length ≤ 3 ^ ns.length
  | [], _, K => by unfold waysK; split <;> simp
  | s :: ns, h, K => by
    have h2 := h s (List.mem_cons_self ..)
    unfold waysK
    split
    · refine Nat.le_trans (flatMap_len' (c := 3 ^ ns.length) fun p _ => waysK_len ns (fun q hq => h q (List.mem_cons_of_mem _ hq)) _) ?_
      rw [List.length_cons, Nat.pow_succ, Nat.mul_comm]
      exact Nat.mul_le_mul_left _ h2
    · simp
theorem waysK_cons {n : Nat} {s : Wk} {ns : List Wk} {K : Tb} (h : mayB n K = true) : waysK n (s :: ns) K = s.ways.flatMap fun p => waysK n ns (withK n K s.a s.b p.1 p.2) := by
  rw [waysK, if_pos (mayB_iff.1 h)]
  congr 1
  funext p
  rw [withK_ref]
theorem get!_drop {α : Type} [Inhabited α] {l : List α} {i : Nat} (h : i < l.length) : l.drop i = l[i]! :: l.drop (i + 1) := by rw [get!_eq h]; exact (List.getElem_cons_drop h).symm
set_option maxRecDepth 10000 in
set_option maxHeartbeats 4000000 in
theorem all_to {d : Dt} (hd : DtOk d) {o1 o2 : Option Bool} : ∀ (m i : Nat), i + m = d.notes.length → ∀ K : Tb, UB (ptsR d) K → (mayB (ptsR d) K = true → GoodK (ptsR d) K) →
    Ans Try.prog (AA b) 65 [encD o1 o2 d, I i, kV (ptsR d) K] (fun v => ∃ o, v = SL 1 ((waysK (ptsR d) ((d.notes.drop i).map (wkR d)) K).map (kV (ptsR d))) o) := by
  have h6 := hd.stones
  have he3 := hd.eras_l
  have hl8 := hd.notes_l
  have hp10 : ptsR d ≤ 10 := by unfold ptsR; omega
  intro m
  induction m with
  | zero =>
    intro i hi K u g
    have hie : i = d.notes.length := by omega
    subst hie
    rw [List.drop_length]
    refine Ans_of Try.func65 rfl rfl ?_
    cases h : mayB (ptsR d) K with
    | false =>
      simp +contextual (maxSteps := 1000000) (disch := first | omega | (with_reducible first | refine krN ?_ | refine krS ?_ | refine krP ?_ | refine krG ?_); kernel_rfl | refine kr ?_; simp only [go_sem, reduceCtorEq, wc84, hp10, h]; done | fail) only [go_sem, seval, -List.reduceReplicate, wc84, hp10, h]
      exact ⟨none, by rw [waysK_not (mayB_false h)]; rfl⟩
    | true =>
      simp +contextual (maxSteps := 1000000) (disch := first | omega | (with_reducible first | refine krN ?_ | refine krS ?_ | refine krP ?_ | refine krG ?_); kernel_rfl | refine kr ?_; simp only [go_sem, reduceCtorEq, wc84, hp10, h]; done | fail) only [go_sem, seval, -List.reduceReplicate, wc84, hp10, h]
      refine OB_intro (reify_lst (by show ((kV (ptsR d) K).closed && true) = true; rw [kV_cl]; rfl)) ⟨some true, ?_⟩
      rw [waysK, if_pos (mayB_iff.1 h)]; rfl
  | succ m ih =>
    intro i hi K u g
    have hc : i < d.notes.length := by omega
    have hne : ¬ ((i : Int) = d.notes.length) := by omega
    have hn := hd.notes _ (get!_mem hc)
    refine Ans_of Try.func65 rfl rfl ?_
    cases h : mayB (ptsR d) K with
    | false =>
      simp +contextual (maxSteps := 1000000) (disch := first | omega | (with_reducible first | refine krN ?_ | refine krS ?_ | refine krP ?_ | refine krG ?_); kernel_rfl | refine kr ?_; simp only [go_sem, reduceCtorEq, wc84, hp10, h]; done | fail) only [go_sem, seval, -List.reduceReplicate, wc84, hp10, h]
      exact ⟨none, by rw [waysK_not (mayB_false h)]; rfl⟩
    | true =>
      have gk := g h
      obtain ⟨pa, pb, hb⟩ := wkR_pts hd hn
      rw [get!_drop hc, List.map_cons]
      have hwK := fun ns => waysK_cons (n := ptsR d) (s := wkR d d.notes[i]!) (ns := ns) h
      have hlen : ∀ K, (waysK (ptsR d) ((d.notes.drop (i + 1)).map (wkR d)) K).length ≤ 3 ^ 7 := fun K => by
        refine Nat.le_trans (waysK_len _ (fun s hs => ?_) K) (Nat.pow_le_pow_right (by omega) (by rw [List.length_map, List.length_drop]; omega))
        obtain ⟨n, hn, rfl⟩ := List.mem_map.1 hs
        rw [wkR_ways]
        exact (wk_ways hd (List.mem_of_mem_drop hn)).1
      have hst := hn.stone
      have hkd := hn.kind
      have hbw : IntKind.wrap .i64 (1 + d.notes[i]!.stone) = ((1 + d.notes[i]!.stone.toNat : Nat) : Int) := by rw [wrap_i64 (by omega) (by omega)]; omega
      rw [hb] at pb hwK
      have IH : ∀ (a c : Nat) (lo hi : Int), a < ptsR d → c < ptsR d → Ans Try.prog (AA b) 65 [encD o1 o2 d, I ((i + 1 : Nat) : Int), kV (ptsR d) (withK (ptsR d) K a c lo hi)] (fun v => ∃ o, v = SL 1 ((waysK (ptsR d) ((d.notes.drop (i + 1)).map (wkR d)) (withK (ptsR d) K a c lo hi)).map (kV (ptsR d))) o) := fun a c lo hi ha hc => ih (i + 1) (by omega) _ (withK_ub u) (withK_good gk ha hc)
      generalize (d.notes.drop (i + 1)).map (wkR d) = ns at hlen IH ⊢
      by_cases k1 : d.notes[i]!.kind = 1
      · obtain ⟨_, _, _, y1, y2, y3, _⟩ := hn.years k1
        have ha : (wkR d d.notes[i]!).a = 0 ∧ (wkR d d.notes[i]!).ways = d.notes[i]!.ys.map fun y => (y, y) := by unfold wkR; rw [if_pos k1]; exact ⟨rfl, rfl⟩
        rw [hwK, ha.1, ha.2, List.flatMap_map]
        rw [ha.1] at pa
        simp +contextual (maxSteps := 1000000) (disch := first | omega | (with_reducible first | refine krN ?_ | refine krS ?_ | refine krP ?_ | refine krG ?_); kernel_rfl | refine kr ?_; simp only [go_sem, reduceCtorEq, wc84, hp10, h, hne, Int.ofNat_lt, hc, ix_map, k1]; done | fail) only [go_sem, seval, -List.reduceReplicate, wc84, hp10, h, hne, Int.ofNat_lt, hc, ix_map, k1]
        refine wp_loop_to d.notes[i]!.ys.length (fun j st => ∃ ex, st = ({ sl := (1, I i) :: (3, .loc (encD o1 o2 d)) :: (5, .loc (kV (ptsR d) K)) :: (7, .loc (.agg [I 1, I d.notes[i]!.stone, I d.notes[i]!.other, SL 1 (d.notes[i]!.ys.map I) d.notes[i]!.fl, I d.notes[i]!.lo, I d.notes[i]!.hi])) :: (8, .own 0 ((d.notes[i]!.ys.take j).flatMap fun y => waysK (ptsR d) ns (withK (ptsR d) K 0 (1 + d.notes[i]!.stone.toNat) y y)).length) :: (9, I j) :: ex, hp := upd noHeap 0 (.arr 1 (((d.notes[i]!.ys.take j).flatMap fun y => waysK (ptsR d) ns (withK (ptsR d) K 0 (1 + d.notes[i]!.stone.toNat) y y)).map (kV (ptsR d)))), nx := 1 } : FS)) ?_ 0 (Nat.zero_le _) ⟨_, rfl⟩
        rintro j st hj ⟨ex, rfl⟩
        have hL : ((d.notes[i]!.ys.take j).flatMap fun y => waysK (ptsR d) ns (withK (ptsR d) K 0 (1 + d.notes[i]!.stone.toNat) y y)).length ≤ 3 * 3 ^ 7 := by
          refine Nat.le_trans (flatMap_len' (c := 3 ^ 7) fun y _ => hlen _) (Nat.mul_le_mul_right _ ?_)
          rw [List.length_take]; omega
        by_cases hcj : j < d.notes[i]!.ys.length
        · have htk := take_snoc hcj
          have hyb := y3 _ (get!_mem hcj)
          rw [htk, List.flatMap_append, List.flatMap_singleton]
          generalize ((d.notes[i]!.ys.take j).flatMap fun y => waysK (ptsR d) ns (withK (ptsR d) K 0 (1 + d.notes[i]!.stone.toNat) y y)) = L at hL ⊢
          have w := fun (m : Mem) (Q : Vl → Mem → Prop) => wc83z (b := b) (lo := d.notes[i]!.ys[j]!) (hi := d.notes[i]!.ys[j]!) hp10 pb gk u (by omega) (by omega) (m := m) (Q := Q)
          simp +contextual (maxSteps := 1000000) (disch := first | omega | (with_reducible first | refine krN ?_ | refine krS ?_ | refine krP ?_ | refine krG ?_); kernel_rfl | refine kr ?_; simp only [go_sem, reduceCtorEq, Int.ofNat_lt, hcj, ix_map, wc76, hbw, w]; done | fail) only [go_sem, seval, -List.reduceReplicate, Int.ofNat_lt, hcj, ix_map, wc76, hbw, w]
          have IH' := IH 0 (1 + d.notes[i]!.stone.toNat) d.notes[i]!.ys[j]! d.notes[i]!.ys[j]! pa pb
          have hl2 := hlen (withK (ptsR d) K 0 (1 + d.notes[i]!.stone.toNat) d.notes[i]!.ys[j]! d.notes[i]!.ys[j]!)
          refine wc_ans (by simp only [mkAnn, K65]) (rfAs (xs := [encD o1 o2 d, I ((i + 1 : Nat) : Int), kV (ptsR d) (withK (ptsR d) K 0 (1 + d.notes[i]!.stone.toNat) d.notes[i]!.ys[j]! d.notes[i]!.ys[j]!)]) (by simp only [closedL, clD, kV_cl]; rfl)) IH' ?_
          rintro v ⟨o, rfl⟩
          generalize waysK (ptsR d) ns (withK (ptsR d) K 0 (1 + d.notes[i]!.stone.toNat) d.notes[i]!.ys[j]! d.notes[i]!.ys[j]!) = L2 at hl2 ⊢
          have hap := fun (lc : List (Nat × Vl)) => apA (m := ⟨lc, upd noHeap 0 (.arr 1 (L.map (kV (ptsR d)))), 1⟩) (id := 0) (n := L.length) (xs := L.map (kV (ptsR d))) (ys := L2.map (kV (ptsR d))) (o := o) (show upd noHeap 0 (Ob.arr 1 (L.map (kV (ptsR d)))) 0 = _ from upd_same _ _ _) (by rw [List.length_map]) (by rw [List.length_map]; omega)
          refine ⟨kVs_cl, ?_⟩
          simp +contextual (maxSteps := 1000000) (disch := first | omega | (with_reducible first | refine krN ?_ | refine krS ?_ | refine krP ?_ | refine krG ?_); kernel_rfl | refine kr ?_; simp only [go_sem, reduceCtorEq, hap, SL_slot]; done | fail) only [go_sem, seval, -List.reduceReplicate, hap, SL_slot]
          exact ⟨_, by rw [List.length_append, List.map_append]⟩
        · have hje : j = d.notes[i]!.ys.length := by omega
          subst hje
          rw [List.take_length]
          generalize (d.notes[i]!.ys.flatMap fun y => waysK (ptsR d) ns (withK (ptsR d) K 0 (1 + d.notes[i]!.stone.toNat) y y)) = L
          have f1 : reify (upd noHeap 0 (.arr 1 (L.map (kV (ptsR d))))) (.own 0 L.length) = some (.lst 1 (L.map (kV (ptsR d))) false, [0]) := reify_flat (.inl (upd_same _ _ _)) rfl fun n => reify_closedV _ kV_cl
          simp +contextual (maxSteps := 1000000) (disch := first | omega | (with_reducible first | refine krN ?_ | refine krS ?_ | refine krP ?_ | refine krG ?_); kernel_rfl | refine kr ?_; simp only [go_sem, reduceCtorEq, Int.lt_irrefl, f1]; done | fail) only [go_sem, seval, -List.reduceReplicate, Int.lt_irrefl, f1]
          exact ⟨some false, rfl⟩
      obtain ⟨y0, hsp⟩ := hn.span k1
      unfold SpanOk at hsp
      by_cases k3 : d.notes[i]!.kind = 3
      · have h4 := hn.era k3
        have ha : (wkR d d.notes[i]!).a = 1 + d.stones.toNat + d.notes[i]!.other.toNat ∧ (wkR d d.notes[i]!).ways = [(d.notes[i]!.lo - 1, d.notes[i]!.hi - 1)] := by unfold wkR; rw [if_neg k1, if_pos k3]; exact ⟨rfl, rfl⟩
        rw [hwK, ha.1, ha.2, List.flatMap_singleton]
        rw [ha.1] at pa
        have hw1 : IntKind.wrap .i64 (1 + d.stones) = 1 + d.stones := wrap_i64 (by omega) (by omega)
        have haw : IntKind.wrap .i64 (1 + d.stones + d.notes[i]!.other) = ((1 + d.stones.toNat + d.notes[i]!.other.toNat : Nat) : Int) := by rw [wrap_i64 (by omega) (by omega)]; omega
        have hl1 : IntKind.wrap .i64 (d.notes[i]!.lo - 1) = d.notes[i]!.lo - 1 := wrap_i64 (by omega) (by omega)
        have hh1 : IntKind.wrap .i64 (d.notes[i]!.hi - 1) = d.notes[i]!.hi - 1 := wrap_i64 (by omega) (by omega)
        have w := fun (m : Mem) (Q : Vl → Mem → Prop) => wc83 (b := b) (lo := d.notes[i]!.lo - 1) (hi := d.notes[i]!.hi - 1) hp10 pa pb gk u (by omega) (by omega) (m := m) (Q := Q)
        simp +contextual (maxSteps := 1000000) (disch := first | omega | (with_reducible first | refine krN ?_ | refine krS ?_ | refine krP ?_ | refine krG ?_); kernel_rfl | refine kr ?_; simp only [go_sem, reduceCtorEq, wc84, hp10, h, hne, Int.ofNat_lt, hc, ix_map, k3, wc76, wc79, hw1, haw, hbw, hl1, hh1, w]; done | fail) only [go_sem, seval, -List.reduceReplicate, wc84, hp10, h, hne, Int.ofNat_lt, hc, ix_map, k3, wc76, wc79, hw1, haw, hbw, hl1, hh1, w]
        refine wc_ans (by simp only [mkAnn, K65]) (rfAs (xs := [encD o1 o2 d, I ((i + 1 : Nat) : Int), kV (ptsR d) (withK (ptsR d) K (1 + d.stones.toNat + d.notes[i]!.other.toNat) (1 + d.notes[i]!.stone.toNat) (d.notes[i]!.lo - 1) (d.notes[i]!.hi - 1))]) (by simp only [closedL, clD, kV_cl]; rfl)) (IH _ _ _ _ pa pb) ?_
        rintro v ⟨o, rfl⟩
        refine ⟨kVs_cl, ?_⟩
        simp +contextual (maxSteps := 1000000) (disch := first | omega | (with_reducible first | refine krN ?_ | refine krS ?_ | refine krP ?_ | refine krG ?_); kernel_rfl | refine kr ?_; simp only [go_sem, reduceCtorEq, SL_slot]; done | fail) only [go_sem, seval, -List.reduceReplicate, SL_slot]
        exact OB_intro (reify_closedV _ kVs_cl) ⟨o, rfl⟩
      by_cases k4 : d.notes[i]!.kind = 4
      · have h4 := hn.after k4
        have ha : (wkR d d.notes[i]!).a = 1 + d.notes[i]!.other.toNat ∧ (wkR d d.notes[i]!).ways = [(d.notes[i]!.lo, d.notes[i]!.hi)] := by unfold wkR; rw [if_neg k1, if_neg k3, if_pos k4]; exact ⟨rfl, rfl⟩
        rw [hwK, ha.1, ha.2, List.flatMap_singleton]
        rw [ha.1] at pa
        have haw : IntKind.wrap .i64 (1 + d.notes[i]!.other) = ((1 + d.notes[i]!.other.toNat : Nat) : Int) := by rw [wrap_i64 (by omega) (by omega)]; omega
        have w := fun (m : Mem) (Q : Vl → Mem → Prop) => wc83 (b := b) (lo := d.notes[i]!.lo) (hi := d.notes[i]!.hi) hp10 pa pb gk u (by omega) (by omega) (m := m) (Q := Q)
        simp +contextual (maxSteps := 1000000) (disch := first | omega | (with_reducible first | refine krN ?_ | refine krS ?_ | refine krP ?_ | refine krG ?_); kernel_rfl | refine kr ?_; simp only [go_sem, reduceCtorEq, wc84, hp10, h, hne, Int.ofNat_lt, hc, ix_map, k4, wc76, haw, hbw, w]; done | fail) only [go_sem, seval, -List.reduceReplicate, wc84, hp10, h, hne, Int.ofNat_lt, hc, ix_map, k4, wc76, haw, hbw, w]
        refine wc_ans (by simp only [mkAnn, K65]) (rfAs (xs := [encD o1 o2 d, I ((i + 1 : Nat) : Int), kV (ptsR d) (withK (ptsR d) K (1 + d.notes[i]!.other.toNat) (1 + d.notes[i]!.stone.toNat) d.notes[i]!.lo d.notes[i]!.hi)]) (by simp only [closedL, clD, kV_cl]; rfl)) (IH _ _ _ _ pa pb) ?_
        rintro v ⟨o, rfl⟩
        refine ⟨kVs_cl, ?_⟩
        simp +contextual (maxSteps := 1000000) (disch := first | omega | (with_reducible first | refine krN ?_ | refine krS ?_ | refine krP ?_ | refine krG ?_); kernel_rfl | refine kr ?_; simp only [go_sem, reduceCtorEq, SL_slot]; done | fail) only [go_sem, seval, -List.reduceReplicate, SL_slot]
        exact OB_intro (reify_closedV _ kVs_cl) ⟨o, rfl⟩
      have k2 : d.notes[i]!.kind = 2 := by omega
      have ha : (wkR d d.notes[i]!).a = 0 ∧ (wkR d d.notes[i]!).ways = [(d.notes[i]!.lo, d.notes[i]!.hi)] := by unfold wkR; rw [if_neg k1, if_neg k3, if_neg k4]; exact ⟨rfl, rfl⟩
      rw [hwK, ha.1, ha.2, List.flatMap_singleton]
      rw [ha.1] at pa
      have w := fun (m : Mem) (Q : Vl → Mem → Prop) => wc83z (b := b) (lo := d.notes[i]!.lo) (hi := d.notes[i]!.hi) hp10 pb gk u (by omega) (by omega) (m := m) (Q := Q)
      simp +contextual (maxSteps := 1000000) (disch := first | omega | (with_reducible first | refine krN ?_ | refine krS ?_ | refine krP ?_ | refine krG ?_); kernel_rfl | refine kr ?_; simp only [go_sem, reduceCtorEq, wc84, hp10, h, hne, Int.ofNat_lt, hc, ix_map, k2, wc76, hbw, w]; done | fail) only [go_sem, seval, -List.reduceReplicate, wc84, hp10, h, hne, Int.ofNat_lt, hc, ix_map, k2, wc76, hbw, w]
      refine wc_ans (by simp only [mkAnn, K65]) (rfAs (xs := [encD o1 o2 d, I ((i + 1 : Nat) : Int), kV (ptsR d) (withK (ptsR d) K 0 (1 + d.notes[i]!.stone.toNat) d.notes[i]!.lo d.notes[i]!.hi)]) (by simp only [closedL, clD, kV_cl]; rfl)) (IH _ _ _ _ pa pb) ?_
      rintro v ⟨o, rfl⟩
      refine ⟨kVs_cl, ?_⟩
      simp +contextual (maxSteps := 1000000) (disch := first | omega | (with_reducible first | refine krN ?_ | refine krS ?_ | refine krP ?_ | refine krG ?_); kernel_rfl | refine kr ?_; simp only [go_sem, reduceCtorEq, SL_slot]; done | fail) only [go_sem, seval, -List.reduceReplicate, SL_slot]
      exact OB_intro (reify_closedV _ kVs_cl) ⟨o, rfl⟩
end Go.Proofs
