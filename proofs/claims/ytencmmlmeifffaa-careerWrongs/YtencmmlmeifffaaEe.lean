/- What functions of the given program do in the ideal machine (E7, E8, E9), and the plain laws of what they answer; the conditions stand in each theorem. -/
import Derived.Test.YtencmmlmeifffaaEd
set_option linter.all false
set_option linter.unusedSectionVars false
set_option linter.unusedSimpArgs false
set_option linter.unusedVariables false
namespace Go.Proofs
open Go Go.Idl
set_option linter.unusedSimpArgs false
variable {b : Bool}
theorem newUrn_to {nx : Nat} {hp : Nat → Ob} {xs : List Int} {o : Option Bool} (hl : xs.length ≤ 9223372036854775807) : HAns Try.prog (AA b) 18 [SL 1 (xs.map I) o] hp nx (fun v hp' nx' => v = .bp nx 0 ∧ nx' = nx + 1 ∧ Urned nx hp hp') := by
  refine HAns_of Try.func18 rfl ?_
  simp only [go_sem, seval, newBox, ne_eq]
  refine wp_loop_to xs.length (fun i s => ∃ hp', Urned nx hp hp' ∧ s = { sl := [(0, SL 1 (xs.map I) o), (3, .bp nx 0), (4, I i)], hp := hp', nx := nx + 1 }) ?_ 0 (Nat.zero_le _) ⟨_, ⟨_, _, rfl⟩, rfl⟩
  rintro i s hi ⟨hp', hU, rfl⟩
  by_cases hc : i < xs.length
  · have hci : (i : Int) < (xs.length : Int) := by omega
    have hix : ∀ (m : Mem) (eb : Nat) (ez : Vl), indexAddrV (.slice 1 eb ez) (.v (SL 1 (xs.map I) o)) (.int .i64 (i : Int)) m = some (.v (.fp (I xs[i]) 0), m) := fun m eb ez => by
      rw [indexAddr_SL (by simp; omega) (by decide)]
      simp [List.getD_eq_getElem?_getD, List.getElem?_eq_getElem hc]
    have hwi : IntKind.wrap .i64 ((i : Int) + 1) = ((i + 1 : Nat) : Int) := by rw [wrap_i64 (by omega) (by omega)]; omega
    obtain ⟨x, y, hu⟩ := hU.urn
    simp only [go_sem, seval, hci, hix, hu, List.length_map]
    refine wp_draw (ps := []) (by kernel_rfl) (by kernel_rfl) rfl ?_
    simp only [go_sem, seval, hci, hix, hu, List.length_map]
    refine wc_heap (vs := [.bp nx 0]) (by simp only [mkAnn, K53]) rfl (turn_to (b := b) ⟨_, _, upd_same _ _ _⟩) ?_
    rintro v hp1 nx1 ⟨rfl, hU1, t, rfl, -⟩
    simp only [go_sem, seval]
    refine wc_heap (vs := [.bp nx 0]) (by simp only [mkAnn, K53]) rfl (turn_to (b := b) hU1.urn) ?_
    rintro v hp2 nx2 ⟨rfl, hU2, t2, rfl, -⟩
    simp only [go_sem, seval, hwi]
    refine ⟨hc, hp2, ?_, rfl⟩
    exact hU.trans (Urned.trans ⟨_, _, rfl⟩ (hU1.trans hU2))
  · have hci : ¬ ((i : Int) < (xs.length : Int)) := by omega
    simp only [go_sem, seval, hci, List.length_map]
    exact hU
end Go.Proofs
namespace Go.Proofs
open Go Go.Idl
set_option linter.unusedSimpArgs false
variable {b : Bool}
structure Office where
  age : Int
  gap : Int
  again : Int
def encO (o : Office) : Vl := .agg [I o.age, I o.gap, I o.again]
structure Man where
  name : Int
  blo : Int
  bhi : Int
  dlo : Int
  dhi : Int
def encM (o : Man) : Vl := .agg [I o.name, I o.blo, I o.bhi, I o.dlo, I o.dhi]
structure Rec where
  kin : Bool
  man : Int
  office : Int
  town : Int
  child : Int
  lo : Int
  hi : Int
def encC (o : Rec) : Vl := .agg [.bool o.kin, I o.man, I o.office, I o.town, I o.child, I o.lo, I o.hi]
def Frame (u lo : Nat) (hp hp' : Nat → Ob) : Prop := ∀ i, i < lo → i ≠ u → hp' i = hp i
theorem Urned.refl {u : Nat} {hp : Nat → Ob} (h : IsUrn u hp) : Urned u hp hp := by
  obtain ⟨x, y, hu⟩ := h
  refine ⟨x, y, ?_⟩
  funext j
  unfold upd
  split
  · rename_i e; rw [e, hu]
  · rfl
def OkO (o : Office) : Prop := 0 ≤ o.age ∧ o.age ≤ 11 ∧ 0 ≤ o.gap ∧ o.gap ≤ 3 ∧ 1 ≤ o.again ∧ o.again ≤ 4
theorem ap22n {m : Mem} {x : Vl} {t : Bool} : isAppend Try.prog 22 22 .nils (.lst 3 [x] t) m = some (.own m.nx 1, { m with hp := upd m.hp m.nx (.arr 3 [x]), nx := m.nx + 1 }) := app1_nils (by rw [td22]) rfl
attribute [go_sem] ap22n
def rowB (T : Nat) (F : Nat → Nat → Bool) (j : Nat) : List Vl := (List.range T).map fun k => .bool (F j k)
structure FarS (hpa : Nat → Ob) (lo u T t s : Nat) (F : Nat → Nat → Bool) (rids : List Nat) (f : Vl) (hp' : Nat → Ob) (nx' : Nat) : Prop where
  nx : lo ≤ nx'
  frame : Frame u lo hpa hp'
  urn : IsUrn u hp'
  len : rids.length = t
  nd : rids.Nodup
  rng : ∀ r ∈ rids, lo ≤ r ∧ r < nx'
  rows : ∀ j (h : j < rids.length), hp' rids[j] = .arr 1 (rowB T F j)
  far : (t = 0 ∧ f = .nils) ∨ ∃ fid, lo ≤ fid ∧ fid < nx' ∧ fid ∉ rids ∧ f = .own fid t ∧ hp' fid = .arr 1 (rids.map fun r => .own r T)
  sym : ∀ j k, F j k = F k j
  irr : ∀ j, F j j = false
  zero : ∀ j k, t ≤ k → F j k = false
  last : ∀ k, t = k + 1 → ∀ l, s ≤ l → F k l = false
theorem rowB_len {T : Nat} {F : Nat → Nat → Bool} {j : Nat} : (rowB T F j).length = T := by simp [rowB]
theorem rowB_get {T k : Nat} {F : Nat → Nat → Bool} {j : Nat} (h : k < T) : (rowB T F j)[k]? = some (.bool (F j k)) := by simp [rowB, h]
theorem rowB_set {T k : Nat} {F F' : Nat → Nat → Bool} {j : Nat} {x : Bool} (h1 : F' j k = x) (h2 : ∀ l, l ≠ k → F' j l = F j l) : (rowB T F j).set k (.bool x) = rowB T F' j := by
  apply List.ext_getElem?
  intro l
  rw [List.getElem?_set]
  by_cases hl : l < T
  · rw [rowB_get hl, rowB_get hl]
    by_cases hk : k = l
    · subst hk; simp [rowB_len, hl, h1]
    · simp [hk, h2 l (fun e => hk e.symm)]
  · have : ∀ G : Nat → Nat → Bool, (rowB T G j)[l]? = none := fun G => List.getElem?_eq_none (by rw [rowB_len]; omega)
    rw [this, this]
    split
    · rw [if_neg (by rw [rowB_len]; omega)]
    · rfl
theorem rowB_congr {T : Nat} {F F' : Nat → Nat → Bool} {j : Nat} (h : ∀ l, F' j l = F j l) : rowB T F' j = rowB T F j := by
  unfold rowB; simp [h]
theorem ap25n {m : Mem} {x : Vl} {t : Bool} : isAppend Try.prog 25 25 .nils (.lst 1 [x] t) m = some (.own m.nx 1, { m with hp := upd m.hp m.nx (.arr 1 [x]), nx := m.nx + 1 }) := app1_nils (by rw [td25]) rfl
attribute [go_sem] ap25n
theorem FarS.more {hpa : Nat → Ob} {lo u T t s : Nat} {F : Nat → Nat → Bool} {rids : List Nat} {f : Vl} {hp' hp'' : Nat → Ob} {nx' nx'' fid : Nat} (h : FarS hpa lo u T t s F rids f hp' nx') (hl : u < lo)
    (hf : (t = 0 ∧ fid = nx' + 1 ∧ nx'' = nx' + 2) ∨ (f = .own fid t ∧ lo ≤ fid ∧ fid < nx' ∧ fid ∉ rids ∧ nx'' = nx' + 1)) (h1 : hp'' nx' = .arr 1 (List.replicate T (.bool false))) (h2 : hp'' fid = .arr 1 ((rids ++ [nx']).map fun r => .own r T))
    (h3 : ∀ i, i < nx' → i ≠ fid → hp'' i = hp' i) : FarS hpa lo u T (t + 1) 0 F (rids ++ [nx']) (.own fid (t + 1)) hp'' nx'' := by
  have hfl : lo ≤ fid ∧ fid < nx'' ∧ fid ∉ rids ∧ fid ≠ nx' := by
    have := h.nx
    rcases hf with ⟨_, e, e'⟩ | ⟨_, e1, e2, e3, e4⟩
    · refine ⟨by omega, by omega, fun hm => ?_, by omega⟩
      have := (h.rng _ hm).2; omega
    · exact ⟨e1, by omega, e3, by omega⟩
  have hnx : nx' < nx'' := by rcases hf with ⟨_, _, e⟩ | ⟨_, _, _, _, e⟩ <;> omega
  have hn := h.nx
  have hzF : ∀ l, F t l = false := fun l => by rw [h.sym]; exact h.zero l t (Nat.le_refl _)
  exact {
    nx := by omega
    frame := fun i hi hu => by rw [h3 i (by omega) (by omega)]; exact h.frame i hi hu
    urn := by
      obtain ⟨x, y, e⟩ := h.urn
      exact ⟨x, y, by rw [h3 u (by omega) (by omega)]; exact e⟩
    len := by simp [h.len]
    nd := List.nodup_append.2 ⟨h.nd, by simp, fun a ha b hb => by
      simp only [List.mem_singleton] at hb
      have := (h.rng _ ha).2; omega⟩
    rng := fun r hr => by
      rcases List.mem_append.1 hr with hr | hr
      · have := h.rng r hr; omega
      · simp only [List.mem_singleton] at hr; omega
    rows := fun j hj => by
      rw [List.getElem_append]
      split
      · rename_i hj'
        have hr := h.rng _ (List.getElem_mem hj')
        rw [h3 _ (by omega) (fun e => hfl.2.2.1 (e ▸ List.getElem_mem hj'))]
        exact h.rows j hj'
      · rename_i hj'
        simp only [List.getElem_singleton]
        rw [h1]
        congr 1
        have : j = t := by simp only [List.length_append, List.length_singleton, h.len] at hj hj'; omega
        subst this
        apply List.ext_getElem?
        intro l
        by_cases hl' : l < T
        · rw [rowB_get hl']; simp [hl', hzF]
        · rw [List.getElem?_eq_none (by simpa using hl'), List.getElem?_eq_none (by rw [rowB_len]; omega)]
    far := .inr ⟨fid, hfl.1, hfl.2.1, by simp [hfl.2.2.1, hfl.2.2.2], rfl, h2⟩
    sym := h.sym
    irr := h.irr
    zero := fun j k hk => h.zero j k (by omega)
    last := fun k hk l _ => by obtain rfl : k = t := by omega
                               exact hzF l }
theorem nodup_inj : ∀ {l : List Nat} {i j a : Nat}, l.Nodup → l[i]? = some a → l[j]? = some a → i = j
  | [], _, _, _, _, h, _ => by simp at h
  | x :: l, 0, 0, _, _, _, _ => rfl
  | x :: l, 0, j + 1, a, hn, h, k => by
    simp at h k
    subst h
    exact absurd (List.mem_of_getElem? k) (List.nodup_cons.1 hn).1
  | x :: l, i + 1, 0, a, hn, h, k => by
    simp at h k
    subst k
    exact absurd (List.mem_of_getElem? h) (List.nodup_cons.1 hn).1
  | x :: l, i + 1, j + 1, a, hn, h, k => by
    have := nodup_inj (List.nodup_cons.1 hn).2 (by simpa using h) (by simpa using k)
    omega
def setF (F : Nat → Nat → Bool) (t s : Nat) (x : Bool) : Nat → Nat → Bool := fun i l => if (i = t ∧ l = s) ∨ (i = s ∧ l = t) then x else F i l
theorem FarS.draw {hpa : Nat → Ob} {lo u T t s rt rs : Nat} {F : Nat → Nat → Bool} {rids : List Nat} {f : Vl} {hp' : Nat → Ob} {nx' : Nat} (h : FarS hpa lo u T (t + 1) s F rids f hp' nx') (hl : u < lo) (hs : s < t) (ht : t < T) (x : Bool)
    (hrt : rids[t]? = some rt) (hrs : rids[s]? = some rs) :
    FarS hpa lo u T (t + 1) (s + 1) (setF F t s x) rids f (upd (upd hp' rt (.arr 1 ((rowB T F t).set s (.bool x)))) rs (.arr 1 ((rowB T F s).set t (.bool x)))) nx' := by
  obtain ⟨ht1, ht2⟩ := List.getElem?_eq_some_iff.1 hrt
  obtain ⟨hs1, hs2⟩ := List.getElem?_eq_some_iff.1 hrs
  have hmt : rt ∈ rids := List.mem_of_getElem? hrt
  have hms : rs ∈ rids := List.mem_of_getElem? hrs
  have hne : rt ≠ rs := fun e => by
    have := nodup_inj h.nd hrt (by rw [e]; exact hrs)
    omega
  have hut : rt ≠ u := by have := h.rng _ hmt; omega
  have hus : rs ≠ u := by have := h.rng _ hms; omega
  have hrowt : (rowB T F t).set s (.bool x) = rowB T (setF F t s x) t := rowB_set (by simp [setF]) fun l hl => by
    unfold setF; rw [if_neg (by omega)]
  have hrows : (rowB T F s).set t (.bool x) = rowB T (setF F t s x) s := rowB_set (by simp [setF]) fun l hl => by
    unfold setF; rw [if_neg (by omega)]
  exact { h with
    frame := fun i hi hu => by
      have h1 := (h.rng _ hmt).1
      have h2 := (h.rng _ hms).1
      rw [upd_ne _ _ (by omega), upd_ne _ _ (by omega)]
      exact h.frame i hi hu
    urn := by
      obtain ⟨a, c, e⟩ := h.urn
      exact ⟨a, c, by rw [upd_ne _ _ hus.symm, upd_ne _ _ hut.symm]; exact e⟩
    rows := fun j hj => by
      by_cases h1 : j = s
      · subst h1
        rw [hs2, upd_same, hrows]
      · have hjs : rids[j] ≠ rs := fun e => h1 (nodup_inj h.nd (List.getElem?_eq_getElem hj) (by rw [e]; exact hrs))
        rw [upd_ne _ _ hjs]
        by_cases h2 : j = t
        · subst h2
          rw [ht2, upd_same, hrowt]
        · have hjt : rids[j] ≠ rt := fun e => h2 (nodup_inj h.nd (List.getElem?_eq_getElem hj) (by rw [e]; exact hrt))
          rw [upd_ne _ _ hjt, h.rows j hj]
          congr 1
          exact (rowB_congr fun l => by unfold setF; rw [if_neg (by omega)]).symm
    far := by
      rcases h.far with ⟨h0, _⟩ | ⟨fid, a1, a2, a3, a4, a5⟩
      · omega
      · exact .inr ⟨fid, a1, a2, a3, a4, by rw [upd_ne _ _ (fun e => a3 (by rw [e]; exact hms)), upd_ne _ _ (fun e => a3 (by rw [e]; exact hmt))]; exact a5⟩
    sym := fun j k => by
      unfold setF
      by_cases hc : (j = t ∧ k = s) ∨ (j = s ∧ k = t)
      · rw [if_pos hc, if_pos (by omega)]
      · rw [if_neg hc, if_neg (by omega)]; exact h.sym j k
    irr := fun j => by
      unfold setF
      rw [if_neg (by omega)]; exact h.irr j
    zero := fun j k hk => by
      unfold setF
      rw [if_neg (by omega)]; exact h.zero j k hk
    last := fun k hk l hl => by
      unfold setF
      rw [if_neg (by omega)]; exact h.last k hk l (by omega) }
theorem ap26n {m : Mem} {x : Vl} {t : Bool} : isAppend Try.prog 26 26 .nils (.lst 5 [x] t) m = some (.own m.nx 1, { m with hp := upd m.hp m.nx (.arr 5 [x]), nx := m.nx + 1 }) := app1_nils (by rw [td26]) rfl
theorem ap32n {m : Mem} {x : Vl} {t : Bool} : isAppend Try.prog 32 32 .nils (.lst 1 [x] t) m = some (.own m.nx 1, { m with hp := upd m.hp m.nx (.arr 1 [x]), nx := m.nx + 1 }) := app1_nils (by rw [td32]) rfl
attribute [go_sem] ap26n ap32n
structure Life where
  m : Man
  born : Int
  died : Int
def OkM (life : Int) (l : Life) : Prop := (l.m.name = 0 ∨ l.m.name = 1) ∧ -20 ≤ l.born ∧ l.born ≤ 20 ∧ l.born + 20 ≤ l.died ∧ l.died ≤ l.born + life ∧
  l.born - 19 ≤ l.m.blo ∧ l.m.blo ≤ l.born ∧ l.born ≤ l.m.bhi ∧ l.m.bhi ≤ l.born + 19 ∧ l.died - 19 ≤ l.m.dlo ∧ l.m.dlo ≤ l.died ∧ l.died ≤ l.m.dhi ∧ l.m.dhi ≤ l.died + 19
def encMs (ls : List Life) : List Vl := ls.map fun l => encM l.m
def encBs (ls : List Life) : List Vl := ls.map fun l => I l.born
def encDs (ls : List Life) : List Vl := ls.map fun l => I l.died
structure MenS (hpm : Nat → Ob) (lo u : Nat) (life : Int) (ls : List Life) (mv bv dv : Vl) (hp' : Nat → Ob) (nx' : Nat) : Prop where
  nx : lo ≤ nx'
  frame : Frame u lo hpm hp'
  urn : IsUrn u hp'
  ok : ∀ l ∈ ls, OkM life l
  sl : (ls = [] ∧ mv = .nils ∧ bv = .nils ∧ dv = .nils) ∨ ∃ m b d, lo ≤ m ∧ m < nx' ∧ lo ≤ b ∧ b < nx' ∧ lo ≤ d ∧ d < nx' ∧ m ≠ b ∧ m ≠ d ∧ b ≠ d ∧
    mv = .own m ls.length ∧ bv = .own b ls.length ∧ dv = .own d ls.length ∧ hp' m = .arr 5 (encMs ls) ∧ hp' b = .arr 1 (encBs ls) ∧ hp' d = .arr 1 (encDs ls)
theorem IsUrn.upd {u i : Nat} {hp : Nat → Ob} {o : Ob} (h : IsUrn u hp) (hi : u ≠ i) : IsUrn u (Go.Idl.upd hp i o) := by
  obtain ⟨x, y, e⟩ := h
  exact ⟨x, y, by rw [upd_ne _ _ hi]; exact e⟩
theorem Frame.upd {u lo i : Nat} {h1 h2 : Nat → Ob} {o : Ob} (h : Frame u lo h1 h2) (hi : lo ≤ i) : Frame u lo h1 (Go.Idl.upd h2 i o) := fun j hj hu => by
  rw [upd_ne _ _ (by omega)]; exact h j hj hu
end Go.Proofs
namespace Go.Proofs
open Go Go.Idl
set_option linter.unusedSimpArgs false
variable {b : Bool}
theorem ixSL {α : Type} {e : Nat} {f : α → Vl} {xs : List α} {o : Option Bool} {i : Int} (d : α) (h0 : 0 ≤ i) (h1 : i < xs.length) (he : e ≠ 0) : ∀ (k : IntKind) (m : Mem) (eb : Nat) (ez : Vl),
    indexAddrV (.slice e eb ez) (.v (SL e (xs.map f) o)) (.int k i) m = some (.v (.fp (f (xs.getD i.toNat d)) 0), m) := fun k m eb ez => by
  rw [indexAddr_SL (by rw [List.length_map]; exact ⟨h0, h1⟩) he]
  have hl : i.toNat < xs.length := by omega
  simp [List.getD_eq_getElem?_getD, List.getElem?_eq_getElem hl]
def encRow (r : List Bool) : Vl := SL 1 (r.map .bool) (some false)
def o0 : Office := ⟨0, 0, 1⟩
def c0 : Rec := ⟨false, 0, -1, 0, 0, 0, 0⟩
def offAt (os : List Office) (i : Int) : Office := os.getD i.toNat o0
def farAt (fs : List (List Bool)) (i k : Int) : Bool := (fs.getD i.toNat []).getD k.toNat false
def Fits (os : List Office) (fs : List (List Bool)) (c : Rec) (y : Int) (d : Rec) (z : Int) : Prop :=
  ¬ (y = z ∧ farAt fs c.town d.town = true) ∧ ¬ (0 ≤ c.office ∧ c.office = d.office ∧ y ≠ z ∧ max (y - z) (z - y) < (offAt os c.office).again) ∧
  ¬ (0 ≤ c.office ∧ c.office < d.office ∧ z - y < (offAt os d.office).gap) ∧ ¬ (0 ≤ d.office ∧ d.office < c.office ∧ y - z < (offAt os c.office).gap)
theorem allowed_to {os : List Office} {fs : List (List Bool)} {cs : List Rec} {bs ys : List Int} {c : Rec} {y life plo phi : Int} {oo of oc ob oy : Option Bool} {mv dv : Vl}
    (hob : ∀ o ∈ os, 0 ≤ o.age ∧ o.age ≤ 1000 ∧ 0 ≤ o.gap ∧ o.gap ≤ 1000 ∧ 0 ≤ o.again ∧ o.again ≤ 1000) (hos : os.length ≤ 100) (hfs : ∀ r ∈ fs, r.length = fs.length) (hcs : cs.length ≤ 1000) (hys : ys.length = cs.length)
    (hbr : ∀ x ∈ bs, -100000 ≤ x ∧ x ≤ 100000) (hyr : ∀ x ∈ ys, -100000 ≤ x ∧ x ≤ 100000) (hy : -100000 ≤ y ∧ y ≤ 100000)
    (hm0 : 0 ≤ c.man) (hm1 : c.man < bs.length) (ho0 : -1 ≤ c.office) (ho1 : c.office < os.length) (ht0 : 0 ≤ c.town) (ht1 : c.town < fs.length)
    (hd : ∀ d ∈ cs, d.kin = false → -1 ≤ d.office ∧ d.office < os.length ∧ 0 ≤ d.town ∧ d.town < fs.length)
    (hmv : mv.cells = [mv] ∧ mv.undef? = false) (hdv : dv.cells = [dv] ∧ dv.undef? = false) :
    Ans Try.prog (AA b) 52 [.agg [SL 3 (os.map encO) oo, I life, I plo, I phi, SL 1 (fs.map encRow) of, mv, SL 7 (cs.map encC) oc], .agg [SL 1 (bs.map I) ob, dv, SL 1 (ys.map I) oy], encC c, I y]
      (fun v => ∃ t, v = .bool t ∧ (t = true → (0 ≤ c.office → (offAt os c.office).age ≤ y - bs.getD c.man.toNat 0) ∧ ∀ (i : Nat) (d : Rec) (z : Int), cs[i]? = some d → ys[i]? = some z → d.kin = false → d.man = c.man → Fits os fs c y d z)) := by
  refine Ans_of Try.func52 rfl rfl ?_
  have ib := ixSL (e := 1) (f := I) (xs := bs) (o := ob) (i := c.man) 0 hm0 hm1 (by decide)
  have hbm : -100000 ≤ bs.getD c.man.toNat 0 ∧ bs.getD c.man.toNat 0 ≤ 100000 := hbr _ (by
    have hl : c.man.toNat < bs.length := by omega
    rw [List.getD_eq_getElem?_getD, List.getElem?_eq_getElem hl]; exact List.getElem_mem hl)
  have hw1 : IntKind.wrap .i64 (y - bs.getD c.man.toNat 0) = y - bs.getD c.man.toNat 0 := wrap_i64 (by omega) (by omega)
  simp only [go_sem, seval, -List.reduceReplicate, encC]
  refine wp_cut (Q := fun x s => ∃ r : Bool, x = .normal ∧ s = { sl := [(3, I y), (4, .loc (.agg [SL 3 (os.map encO) oo, I life, I plo, I phi, SL 1 (fs.map encRow) of, mv, SL 7 (cs.map encC) oc])), (5, .loc (.agg [SL 1 (bs.map I) ob, dv, SL 1 (ys.map I) oy])), (6, .loc (encC c)), (33, .bool r)], hp := noHeap, nx := 0 } ∧ (r = false → 0 ≤ c.office → (offAt os c.office).age ≤ y - bs.getD c.man.toNat 0)) ?_ ?_
  · refine wp_draw (ps := []) (by kernel_rfl) (by kernel_rfl) rfl ?_
    by_cases co : 0 ≤ c.office
    · have io := ixSL (e := 3) (f := encO) (xs := os) (o := oo) (i := c.office) o0 co ho1 (by decide)
      by_cases ag : y - bs.getD c.man.toNat 0 < (os.getD c.office.toNat o0).age
      · simp only [go_sem, seval, -List.reduceReplicate, encC, co, ib, io, hw1, encO, ag]
        exact ⟨true, rfl, fun h => by cases h⟩
      · simp only [go_sem, seval, -List.reduceReplicate, encC, co, ib, io, hw1, encO, ag]
        exact ⟨false, rfl, fun _ => by unfold offAt; omega⟩
    · simp only [go_sem, seval, -List.reduceReplicate, encC, co]
      exact ⟨false, rfl⟩
  · rintro x s ⟨r, rfl, rfl, hr⟩
    cases r with
    | true =>
      simp only [go_sem, seval, -List.reduceReplicate]
      exact ⟨false, rfl, fun h => by cases h⟩
    | false =>
      simp only [go_sem, seval, -List.reduceReplicate]
      have hr := hr rfl
      refine wp_loop_to cs.length (fun i s => ∃ ex, (∀ (j : Nat) (d : Rec) (z : Int), j < i → cs[j]? = some d → ys[j]? = some z → d.kin = false → d.man = c.man → Fits os fs c y d z) ∧
        s = { sl := (3, I y) :: (4, .loc (.agg [SL 3 (os.map encO) oo, I life, I plo, I phi, SL 1 (fs.map encRow) of, mv, SL 7 (cs.map encC) oc])) :: (5, .loc (.agg [SL 1 (bs.map I) ob, dv, SL 1 (ys.map I) oy])) :: (6, .loc (encC c)) :: (9, I i) :: ex, hp := noHeap, nx := 0 }) ?_ 0 (Nat.zero_le _) ⟨_, fun j d z h => by omega, rfl⟩
      rintro i s hi ⟨ex, hfit, rfl⟩
      by_cases hc : i < cs.length
      · have hci : (i : Int) < (cs.length : Int) := by omega
        obtain ⟨d, hdi⟩ : ∃ d, cs[i]? = some d := ⟨_, List.getElem?_eq_getElem hc⟩
        obtain ⟨z, hzi⟩ : ∃ z, ys[i]? = some z := ⟨_, List.getElem?_eq_getElem (by omega)⟩
        have icd := ixSL (e := 7) (f := encC) (xs := cs) (o := oc) (i := (i : Int)) c0 (by omega) (by omega) (by decide)
        have iyz := ixSL (e := 1) (f := I) (xs := ys) (o := oy) (i := (i : Int)) 0 (by omega) (by omega) (by decide)
        rw [show cs.getD (i : Int).toNat c0 = d by rw [Int.toNat_natCast, List.getD_eq_getElem?_getD, hdi]; rfl] at icd
        rw [show ys.getD (i : Int).toNat 0 = z by rw [Int.toNat_natCast, List.getD_eq_getElem?_getD, hzi]; rfl] at iyz
        have hz := hyr z (List.mem_of_getElem? hzi)
        have hwi : IntKind.wrap .i64 ((i : Int) + 1) = ((i + 1 : Nat) : Int) := by rw [wrap_i64 (by omega) (by omega)]; omega
        have hnext : ∀ s', (d.kin = false → d.man = c.man → Fits os fs c y d z) → (∃ ex, s' = ({ sl := (3, I y) :: (4, .loc (.agg [SL 3 (os.map encO) oo, I life, I plo, I phi, SL 1 (fs.map encRow) of, mv, SL 7 (cs.map encC) oc])) :: (5, .loc (.agg [SL 1 (bs.map I) ob, dv, SL 1 (ys.map I) oy])) :: (6, .loc (encC c)) :: (9, I (i + 1 : Nat)) :: ex, hp := noHeap, nx := 0 } : FS)) →
            i < cs.length ∧ ∃ ex, (∀ (j : Nat) (d : Rec) (z : Int), j < i + 1 → cs[j]? = some d → ys[j]? = some z → d.kin = false → d.man = c.man → Fits os fs c y d z) ∧ s' = { sl := (3, I y) :: (4, .loc (.agg [SL 3 (os.map encO) oo, I life, I plo, I phi, SL 1 (fs.map encRow) of, mv, SL 7 (cs.map encC) oc])) :: (5, .loc (.agg [SL 1 (bs.map I) ob, dv, SL 1 (ys.map I) oy])) :: (6, .loc (encC c)) :: (9, I (i + 1 : Nat)) :: ex, hp := noHeap, nx := 0 } := fun s' hf ⟨ex, h⟩ => by
          refine ⟨hc, ex, fun j d' z' hj h1 h2 h3 h4 => ?_, h⟩
          by_cases hji : j = i
          · subst hji
            rw [hdi] at h1
            rw [hzi] at h2
            cases h1
            cases h2
            exact hf h3 h4
          · exact hfit j d' z' (by omega) h1 h2 h3 h4
        simp only [go_sem, seval, -List.reduceReplicate, hci, encC]
        refine wp_draw (ps := [(6, 11), (8, 11), (9, 11)]) (by kernel_rfl) (by kernel_rfl) rfl ?_
        by_cases hk : d.kin = true
        · simp only [go_sem, seval, -List.reduceReplicate, hci, icd, iyz, encC, hk, hwi]
          exact hnext _ (fun h => by rw [hk] at h; cases h) ⟨_, rfl⟩
        · have hk : d.kin = false := by simpa using hk
          obtain ⟨e1, e2, e3, e4⟩ := hd d (List.mem_of_getElem? hdi) hk
          by_cases hm : d.man = c.man
          · have hw2 : IntKind.wrap .i64 (y - z) = y - z := wrap_i64 (by omega) (by omega)
            have hw3 : IntKind.wrap .i64 (z - y) = z - y := wrap_i64 (by omega) (by omega)
            simp only [go_sem, seval, -List.reduceReplicate, hci, icd, iyz, encC, hk, hm, hw2, hw3]
            have idt := ixSL (e := 1) (f := encRow) (xs := fs) (o := of) (i := c.town) [] ht0 ht1 (by decide)
            have hrow : (fs.getD c.town.toNat []).length = fs.length := by
              have hl : c.town.toNat < fs.length := by omega
              rw [List.getD_eq_getElem?_getD, List.getElem?_eq_getElem hl]
              exact hfs _ (List.getElem_mem hl)
            have idf := ixSL (e := 1) (f := Vl.bool) (xs := fs.getD c.town.toNat []) (o := some false) (i := d.town) false e3 (by rw [hrow]; exact e4) (by decide)
            obtain ⟨P9, hP9⟩ : ∃ p : Prop, p ↔ (¬ (y = z ∧ farAt fs c.town d.town = true) ∧ ¬ (0 ≤ c.office ∧ c.office = d.office ∧ y ≠ z ∧ max (y - z) (z - y) < (offAt os c.office).again)) := ⟨_, Iff.rfl⟩
            refine wp_cut (Q := fun x s => ∃ r : Bool, x = .normal ∧ s = { sl := [(3, I y), (4, .loc (.agg [SL 3 (os.map encO) oo, I life, I plo, I phi, SL 1 (fs.map encRow) of, mv, SL 7 (cs.map encC) oc])), (5, .loc (.agg [SL 1 (bs.map I) ob, dv, SL 1 (ys.map I) oy])), (6, .loc (encC c)), (9, I i), (10, .loc (.agg [.bool false, I c.man, I d.office, I d.town, I d.child, I d.lo, I d.hi])), (11, I z), (107, .bool r)], hp := noHeap, nx := 0 } ∧
              (r = false → P9)) ?_ ?_
            · refine wp_draw (ps := []) (by kernel_rfl) (by kernel_rfl) rfl ?_
              by_cases a0 : max (y - z) (z - y) = 0
              · have hyz : y = z := by omega
                cases hfr : (fs.getD c.town.toNat []).getD d.town.toNat false with
                | true =>
                  simp only [go_sem, seval, -List.reduceReplicate, encC, encRow, idt, idf, a0, hfr]
                  exact ⟨true, rfl, fun h => by cases h⟩
                | false =>
                  have hF : ¬ (y = z ∧ farAt fs c.town d.town = true) := fun h => by unfold farAt at h; rw [hfr] at h; exact absurd h.2 (by simp)
                  by_cases co : 0 ≤ c.office
                  · by_cases eo : c.office = d.office
                    · have eo' : (c.office = d.office) = True := eq_true eo
                      simp only [go_sem, seval, -List.reduceReplicate, encC, encRow, idt, idf, a0, hfr, co, eo', Int.lt_irrefl]
                      exact ⟨false, rfl, fun _ => hP9.2 ⟨hF, fun h => h.2.2.1 hyz⟩⟩
                    · simp only [go_sem, seval, -List.reduceReplicate, encC, encRow, idt, idf, a0, hfr, co, eo]
                      exact ⟨false, rfl, fun _ => hP9.2 ⟨hF, fun h => eo h.2.1⟩⟩
                  · simp only [go_sem, seval, -List.reduceReplicate, encC, encRow, idt, idf, a0, hfr, co]
                    exact ⟨false, rfl, fun _ => hP9.2 ⟨hF, fun h => co h.1⟩⟩
              · have hyz : y ≠ z := by omega
                have ap : 0 < max (y - z) (z - y) := by omega
                have hF : ¬ (y = z ∧ farAt fs c.town d.town = true) := fun h => hyz h.1
                by_cases co : 0 ≤ c.office
                · have io := ixSL (e := 3) (f := encO) (xs := os) (o := oo) (i := c.office) o0 co ho1 (by decide)
                  by_cases eo : c.office = d.office
                  · by_cases ag : max (y - z) (z - y) < (os.getD c.office.toNat o0).again
                    · have eo' : (c.office = d.office) = True := eq_true eo
                      simp only [go_sem, seval, -List.reduceReplicate, encC, a0, co, eo', ap, io, encO, ag]
                      exact ⟨true, rfl, fun h => by cases h⟩
                    · have eo' : (c.office = d.office) = True := eq_true eo
                      simp only [go_sem, seval, -List.reduceReplicate, encC, a0, co, eo', ap, io, encO, ag]
                      exact ⟨false, rfl, fun _ => hP9.2 ⟨hF, fun h => ag h.2.2.2⟩⟩
                  · simp only [go_sem, seval, -List.reduceReplicate, encC, a0, co, eo]
                    exact ⟨false, rfl, fun _ => hP9.2 ⟨hF, fun h => eo h.2.1⟩⟩
                · simp only [go_sem, seval, -List.reduceReplicate, encC, a0, co]
                  exact ⟨false, rfl, fun _ => hP9.2 ⟨hF, fun h => co h.1⟩⟩
            · rintro x s ⟨r, rfl, rfl, hr9⟩
              cases r with
              | true =>
                simp only [go_sem, seval, -List.reduceReplicate]
                exact ⟨false, rfl, fun h => by cases h⟩
              | false =>
                have hr9 := hP9.1 (hr9 rfl)
                clear hP9
                have ioc : 0 ≤ c.office → _ := fun co => ixSL (e := 3) (f := encO) (xs := os) (o := oo) (i := c.office) o0 co ho1 (by decide)
                have iod : 0 ≤ d.office → _ := fun co => ixSL (e := 3) (f := encO) (xs := os) (o := oo) (i := d.office) o0 co e2 (by decide)
                obtain ⟨P11, hP11⟩ : ∃ p : Prop, p ↔ (¬ (0 ≤ c.office ∧ c.office < d.office ∧ z - y < (offAt os d.office).gap) ∧ ¬ (0 ≤ d.office ∧ d.office < c.office ∧ y - z < (offAt os c.office).gap)) := ⟨_, Iff.rfl⟩
                have h11 : P11 → Fits os fs c y d z := fun h => ⟨hr9.1, hr9.2, (hP11.1 h).1, (hP11.1 h).2⟩
                simp only [seqQ_normal, Wp_seq, Wp_test, rho_tmp, lookOf_cons, ↓reduceIte, Nat.reduceEqDiff, slotV_bool, vl_v, Bd_bool, WB_false, Wp_skip]
                refine wp_cut (Q := fun x s => ∃ r : Bool, x = .normal ∧ s = { sl := [(3, I y), (4, .loc (.agg [SL 3 (os.map encO) oo, I life, I plo, I phi, SL 1 (fs.map encRow) of, mv, SL 7 (cs.map encC) oc])), (5, .loc (.agg [SL 1 (bs.map I) ob, dv, SL 1 (ys.map I) oy])), (6, .loc (encC c)), (9, I i), (155, .bool r)], hp := noHeap, nx := 0 } ∧ (r = false → P11)) ?_ ?_
                · by_cases co : 0 ≤ c.office
                  · have ioc := ioc co
                    by_cases lo : c.office < d.office
                    · have dd : 0 ≤ d.office := by omega
                      have iod := iod dd
                      have ndl : ¬ d.office < c.office := by omega
                      by_cases g1 : z - y < (os.getD d.office.toNat o0).gap
                      · simp only [go_sem, seval, -List.reduceReplicate, encC, co, lo, iod, encO, hw3, g1]
                        exact ⟨true, rfl, fun h => by cases h⟩
                      · simp only [go_sem, seval, -List.reduceReplicate, encC, co, lo, iod, encO, hw3, g1, dd, ndl]
                        exact ⟨false, rfl, fun _ => hP11.2 ⟨fun h => g1 h.2.2, fun h => ndl h.2.1⟩⟩
                    · by_cases dd : 0 ≤ d.office
                      · by_cases dl : d.office < c.office
                        · by_cases g2 : y - z < (os.getD c.office.toNat o0).gap
                          · simp only [go_sem, seval, -List.reduceReplicate, encC, co, lo, dd, dl, ioc, encO, hw2, g2]
                            exact ⟨true, rfl, fun h => by cases h⟩
                          · simp only [go_sem, seval, -List.reduceReplicate, encC, co, lo, dd, dl, ioc, encO, hw2, g2]
                            exact ⟨false, rfl, fun _ => hP11.2 ⟨fun h => lo h.2.1, fun h => g2 h.2.2⟩⟩
                        · simp only [go_sem, seval, -List.reduceReplicate, encC, co, lo, dd, dl]
                          exact ⟨false, rfl, fun _ => hP11.2 ⟨fun h => lo h.2.1, fun h => dl h.2.1⟩⟩
                      · simp only [go_sem, seval, -List.reduceReplicate, encC, co, lo, dd]
                        exact ⟨false, rfl, fun _ => hP11.2 ⟨fun h => lo h.2.1, fun h => dd h.1⟩⟩
                  · by_cases dd : 0 ≤ d.office
                    · have ndl : ¬ d.office < c.office := by omega
                      simp only [go_sem, seval, -List.reduceReplicate, encC, co, dd, ndl]
                      exact ⟨false, rfl, fun _ => hP11.2 ⟨fun h => co h.1, fun h => ndl h.2.1⟩⟩
                    · simp only [go_sem, seval, -List.reduceReplicate, encC, co, dd]
                      exact ⟨false, rfl, fun _ => hP11.2 ⟨fun h => co h.1, fun h => dd h.1⟩⟩
                · rintro x s ⟨r, rfl, rfl, hr11⟩
                  cases r with
                  | true =>
                    simp only [go_sem, seval, -List.reduceReplicate]
                    exact ⟨false, rfl, fun h => by cases h⟩
                  | false =>
                    simp only [go_sem, seval, -List.reduceReplicate, hwi]
                    exact hnext _ (fun _ _ => h11 (hr11 rfl)) ⟨_, rfl⟩
          · simp only [go_sem, seval, -List.reduceReplicate, hci, icd, iyz, encC, hk, hm, hwi]
            exact hnext _ (fun _ h => absurd h hm) ⟨_, rfl⟩
      · have hci : ¬ (i : Int) < (cs.length : Int) := by omega
        simp only [go_sem, seval, -List.reduceReplicate, hci, encC]
        exact ⟨true, rfl, fun _ => ⟨hr, fun j d z h1 h2 h3 h4 => hfit j d z (by have := (List.getElem?_eq_some_iff.1 h1).1; omega) h1 h2 h3 h4⟩⟩
end Go.Proofs
