/- What functions of the given program do in the ideal machine (G26, G27), and the plain laws of what they answer; the conditions stand in each theorem. -/
import Derived.Test.YtencmmlmeifffaaGm
import Derived.Test.YtencmmlmeifffaaGi
set_option linter.all false
set_option linter.unusedSectionVars false
set_option linter.unusedSimpArgs false
set_option linter.unusedVariables false
namespace Go.Proofs
open Go Go.Idl
set_option linter.unusedSimpArgs false
variable {b : Bool}
def reidx (R : Roll) (K : List Nat) : Roll := { R with cs := K.map fun i => R.cs[i]! }
structure LivedOn (r : Roll) (Q : Nat → Prop) (t : Nat → Int) : Prop where
  born : ∀ i, i < r.ms.length → r.ms[i]!.blo ≤ t i ∧ t i ≤ r.ms[i]!.bhi
  died : ∀ i, i < r.ms.length → r.ms[i]!.dlo ≤ t (6 + i) ∧ t (6 + i) ≤ r.ms[i]!.dhi
  life : ∀ i, i < r.ms.length → t i ≤ t (6 + i) ∧ t (6 + i) ≤ t i + r.life
  year : ∀ i, i < r.cs.length → Q i → r.cs[i]!.lo ≤ t (12 + i) ∧ t (12 + i) ≤ r.cs[i]!.hi
  kin : ∀ i, i < r.cs.length → Q i → r.cs[i]!.kin = true → t r.cs[i]!.man.toNat + r.plo ≤ t r.cs[i]!.child.toNat ∧ t r.cs[i]!.child.toNat ≤ t r.cs[i]!.man.toNat + r.phi ∧ t r.cs[i]!.child.toNat ≤ t (6 + r.cs[i]!.man.toNat) + 1
  held : ∀ i, i < r.cs.length → Q i → r.cs[i]!.kin = false → t r.cs[i]!.man.toNat + ageOf r.os r.cs[i]! ≤ t (12 + i) ∧ t (12 + i) ≤ t (6 + r.cs[i]!.man.toNat)
  fit : ∀ i k, i < k → k < r.cs.length → Q i → Q k → r.cs[i]!.kin = false → r.cs[k]!.kin = false → r.cs[i]!.man = r.cs[k]!.man → FitP r.os r.fs r.cs[i]! (t (12 + i)) r.cs[k]! (t (12 + k))
theorem Lived.on {r : Roll} {t : Nat → Int} (h : Lived r t) (Q : Nat → Prop) : LivedOn r Q t :=
  ⟨h.born, h.died, h.life, fun i hi _ => h.year i hi, fun i hi _ => h.kin i hi, fun i hi _ => h.held i hi, fun i k hik hk _ _ => h.fit i k hik hk⟩
theorem LivedOn.mono {r : Roll} {Q Q' : Nat → Prop} {t : Nat → Int} (h : LivedOn r Q t) (hq : ∀ i, i < r.cs.length → Q' i → Q i) : LivedOn r Q' t :=
  ⟨h.born, h.died, h.life, fun i hi q => h.year i hi (hq i hi q), fun i hi q => h.kin i hi (hq i hi q), fun i hi q => h.held i hi (hq i hi q), fun i k hik hk q q' => h.fit i k hik hk (hq i (by omega) q) (hq k hk q')⟩
theorem FitP.symm {os : List Office} {fs : List (List Bool)} {a c : Rec} {y z : Int} (h : FitP os fs a y c z) (hf : farAt fs a.town c.town = farAt fs c.town a.town) : FitP os fs c z a y := by
  obtain ⟨h1, h2, h3, h4⟩ := h
  unfold FitP
  rw [← hf]
  refine ⟨fun e e0 => ?_, fun e => fun e2 => h2 e e2.symm, h4, h3⟩
  rw [e] at e0 ⊢
  rcases h1 e.symm e0 with (h | h) | ⟨h, h'⟩
  · exact .inl (.inr h)
  · exact .inl (.inl h)
  · exact .inr ⟨h, h'.symm⟩
theorem LivedOn.fit' {r : Roll} (hv : WF r) {Q : Nat → Prop} {t : Nat → Int} (h : LivedOn r Q t) {i k : Nat} (hne : i ≠ k) (hi : i < r.cs.length) (hk : k < r.cs.length) (qi : Q i) (qk : Q k) (k1 : r.cs[i]!.kin = false) (k2 : r.cs[k]!.kin = false) (hm : r.cs[i]!.man = r.cs[k]!.man) : FitP r.os r.fs r.cs[i]! (t (12 + i)) r.cs[k]! (t (12 + k)) := by
  rcases Nat.lt_or_gt_of_ne hne with e | e
  · exact h.fit i k e hk qi qk k1 k2 hm
  · have r1 := (hv.cs_ok _ (get!_mem hi)).2.2.2 k1
    have r2 := (hv.cs_ok _ (get!_mem hk)).2.2.2 k2
    exact (h.fit k i e hi qk qi k2 k1 hm.symm).symm (hv.far_symm r2.2.2.1 r2.2.2.2.1 r1.2.2.1 r1.2.2.2.1)
theorem nodup_inj2 {K : List Nat} (hn : K.Nodup) {i j : Nat} (hi : i < K.length) (hj : j < K.length) (e : K[i] = K[j]) : i = j := by
  have h := List.pairwise_iff_getElem.1 hn
  rcases Nat.lt_trichotomy i j with h1 | h1 | h1
  · exact absurd e (h i j hi hj h1)
  · exact h1
  · exact absurd e.symm (h j i hj hi h1)
theorem nodup_map {x : List Nat} {f : Nat → Nat} (hn : x.Nodup) (h : ∀ a ∈ x, ∀ c ∈ x, f a = f c → a = c) : (x.map f).Nodup :=
  List.pairwise_map.2 (List.Pairwise.imp_of_mem (fun ha hc hne e => hne (h _ ha _ hc e)) hn)
theorem nodup_filter {x : List Nat} {p : Nat → Bool} (hn : x.Nodup) : (x.filter p).Nodup := List.Pairwise.filter _ hn
def tK (m : Nat) (K : List Nat) (t : Nat → Int) : Nat → Int := fun i => if i < m ∨ (6 ≤ i ∧ i < 6 + m) then t i else if 12 ≤ i ∧ i < 12 + K.length then t (12 + K[i - 12]!) else 0
def tU (K : List Nat) (t : Nat → Int) : Nat → Int := fun i => if 12 ≤ i then t (12 + K.idxOf (i - 12)) else t i
section
variable {R : Roll} {K : List Nat} {t : Nat → Int}
theorem tK_m {m i : Nat} (h : i < m) : tK m K t i = t i := if_pos (.inl h)
theorem tK_d {m i : Nat} (h : i < m) : tK m K t (6 + i) = t (6 + i) := if_pos (.inr ⟨by omega, by omega⟩)
theorem tK_c {m i : Nat} (hm : m ≤ 6) (h : i < K.length) : tK m K t (12 + i) = t (12 + K[i]!) := by
  unfold tK
  rw [if_neg (by omega), if_pos (by omega), show 12 + i - 12 = i by omega]
theorem reidx_get {i : Nat} (h : i < K.length) : (reidx R K).cs[i]! = R.cs[K[i]!]! := map_get! h
theorem reidx_len : (reidx R K).cs.length = K.length := List.length_map _
theorem WF.reidx (hv : WF R) (hl : K.length ≤ 8) (hb : ∀ k ∈ K, k < R.cs.length) : WF (reidx R K) where
  os_l := hv.os_l
  os_ok := hv.os_ok
  life := hv.life
  par := hv.par
  fs_l := hv.fs_l
  fs_ok := hv.fs_ok
  ms_l := hv.ms_l
  ms_ok := hv.ms_ok
  cs_l := by rw [reidx_len]; exact hl
  cs_ok c h := by
    obtain ⟨i, hi, rfl⟩ := List.mem_map.1 h
    exact hv.cs_ok _ (get!_mem (hb i hi))
  names := hv.names
  diag := hv.diag
  symm := hv.symm
theorem reidx_to (hv : WF R) (hn : K.Nodup) (hb : ∀ k ∈ K, k < R.cs.length) (h : LivedOn R (· ∈ K) t) : Lived (reidx R K) (tK R.ms.length K t) := by
  have hm6 := hv.ms_l
  have hk : ∀ i, i < K.length → K[i]! ∈ K ∧ K[i]! < R.cs.length := fun i hi => ⟨get!_mem hi, hb _ (get!_mem hi)⟩
  have hman : ∀ i, i < R.cs.length → (R.cs[i]!.man).toNat < R.ms.length := fun i hi => by
    obtain ⟨a1, a2, _⟩ := hv.cs_ok _ (get!_mem hi); omega
  refine ⟨fun i hi => ?_, fun i hi => ?_, fun i hi => ?_, fun i hi => ?_, fun i hi hkn => ?_, fun i hi hkn => ?_, fun i k hik hki k1 k2 hm => ?_, fun i hi hu => ?_⟩
  · have hi : i < R.ms.length := hi
    rw [tK_m hi]; exact h.born i hi
  · have hi : i < R.ms.length := hi
    rw [tK_d hi]; exact h.died i hi
  · have hi : i < R.ms.length := hi
    rw [tK_m hi, tK_d hi]; exact h.life i hi
  · rw [reidx_len] at hi
    rw [reidx_get hi, tK_c hm6.2 hi]
    exact h.year _ (hk i hi).2 (hk i hi).1
  · rw [reidx_len] at hi
    rw [reidx_get hi] at hkn ⊢
    obtain ⟨b1, b2, _⟩ := (hv.cs_ok _ (get!_mem (hk i hi).2)).2.2.1 hkn
    have hmi := hman _ (hk i hi).2
    rw [tK_m hmi, tK_m (by omega), tK_d hmi]
    exact h.kin _ (hk i hi).2 (hk i hi).1 hkn
  · rw [reidx_len] at hi
    rw [reidx_get hi] at hkn ⊢
    have hmi := hman _ (hk i hi).2
    rw [tK_m hmi, tK_d hmi, tK_c hm6.2 hi]
    exact h.held _ (hk i hi).2 (hk i hi).1 hkn
  · rw [reidx_len] at hki
    have hi : i < K.length := by omega
    rw [reidx_get hi] at k1 hm ⊢
    rw [reidx_get hki] at k2 hm ⊢
    rw [tK_c hm6.2 hi, tK_c hm6.2 hki]
    refine h.fit' hv (fun e => ?_) (hk i hi).2 (hk k hki).2 (hk i hi).1 (hk k hki).1 k1 k2 hm
    rw [get!_eq hi, get!_eq hki] at e
    have := nodup_inj2 hn hi hki e
    omega
  · have hu : ¬ (i < R.ms.length ∨ (6 ≤ i ∧ i < 6 + R.ms.length) ∨ (12 ≤ i ∧ i < 12 + (reidx R K).cs.length)) := hu
    rw [reidx_len] at hu
    unfold tK
    rw [if_neg (by omega), if_neg (by omega)]
theorem idxOf_get {i : Nat} (hn : K.Nodup) (h : i < K.length) : K.idxOf K[i]! = i := by
  rw [get!_eq h]
  exact List.Nodup.idxOf_getElem hn i h
theorem get_idxOf {j : Nat} (h : j ∈ K) : K.idxOf j < K.length ∧ K[K.idxOf j]! = j := by
  have hl := List.idxOf_lt_length_iff.2 h
  refine ⟨hl, ?_⟩
  rw [get!_eq hl]
  exact List.getElem_idxOf hl
theorem reidx_from (hv : WF R) (hn : K.Nodup) (h : Lived (reidx R K) t) : LivedOn R (· ∈ K) (tU K t) := by
  have hm6 := hv.ms_l
  have hlo : ∀ i, i < 12 → tU K t i = t i := fun i hi => if_neg (by omega)
  have hhi : ∀ i, tU K t (12 + i) = t (12 + K.idxOf i) := fun i => by
    unfold tU
    rw [if_pos (by omega), show 12 + i - 12 = i by omega]
  have hman : ∀ i, i < R.cs.length → (R.cs[i]!.man).toNat < R.ms.length := fun i hi => by
    obtain ⟨a1, a2, _⟩ := hv.cs_ok _ (get!_mem hi); omega
  have hg : ∀ j, j ∈ K → K.idxOf j < (reidx R K).cs.length ∧ (reidx R K).cs[K.idxOf j]! = R.cs[j]! := fun j hj => by
    obtain ⟨h1, h2⟩ := get_idxOf hj
    rw [reidx_len]
    exact ⟨h1, by rw [reidx_get h1, h2]⟩
  refine ⟨fun i hi => ?_, fun i hi => ?_, fun i hi => ?_, fun i hi q => ?_, fun i hi q hkn => ?_, fun i hi q hkn => ?_, fun i k hik hki qi qk k1 k2 hm => ?_⟩
  · rw [hlo _ (by omega)]; exact h.born i hi
  · rw [hlo _ (by omega)]; exact h.died i hi
  · rw [hlo _ (by omega), hlo _ (by omega)]; exact h.life i hi
  · obtain ⟨g1, g2⟩ := hg i q
    have := h.year _ g1
    rw [g2] at this
    rw [hhi]; exact this
  · obtain ⟨g1, g2⟩ := hg i q
    have := h.kin _ g1 (by rw [g2]; exact hkn)
    rw [g2] at this
    obtain ⟨b1, b2, _⟩ := (hv.cs_ok _ (get!_mem hi)).2.2.1 hkn
    have hmi := hman _ hi
    rw [hlo _ (by omega), hlo _ (by omega), hlo _ (by omega)]
    exact this
  · obtain ⟨g1, g2⟩ := hg i q
    have := h.held _ g1 (by rw [g2]; exact hkn)
    rw [g2] at this
    have hmi := hman _ hi
    rw [hlo _ (by omega), hhi, hlo _ (by omega)]
    exact this
  · obtain ⟨g1, g2⟩ := hg i qi
    obtain ⟨e1, e2⟩ := hg k qk
    have hne : K.idxOf i ≠ K.idxOf k := fun e => by
      have a := (get_idxOf qi).2
      rw [e, (get_idxOf qk).2] at a
      omega
    have r1 := (hv.cs_ok _ (get!_mem (show i < R.cs.length by omega))).2.2.2 k1
    have r2 := (hv.cs_ok _ (get!_mem hki)).2.2.2 k2
    rw [hhi, hhi]
    rcases Nat.lt_or_gt_of_ne hne with e | e
    · have := h.fit _ _ e e1 (by rw [g2]; exact k1) (by rw [e2]; exact k2) (by rw [g2, e2]; exact hm)
      rw [g2, e2] at this
      exact this
    · have := h.fit _ _ e g1 (by rw [e2]; exact k2) (by rw [g2]; exact k1) (by rw [g2, e2]; exact hm.symm)
      rw [g2, e2] at this
      exact this.symm (hv.far_symm r2.2.2.1 r2.2.2.2.1 r1.2.2.1 r1.2.2.2.1)
theorem reidx_range : reidx R (List.range R.cs.length) = R := by
  unfold reidx
  have : (List.range R.cs.length).map (fun i => R.cs[i]!) = R.cs := by
    apply List.ext_getElem (by simp)
    intro i h1 h2
    rw [List.getElem_map, List.getElem_range, get!_eq h2]
  rw [this]
theorem reidx_iff (hv : WF R) (hn : K.Nodup) (hb : ∀ k ∈ K, k < R.cs.length) : (∃ t, Lived (reidx R K) t) ↔ ∃ t, LivedOn R (· ∈ K) t :=
  ⟨fun ⟨_, h⟩ => ⟨_, reidx_from hv hn h⟩, fun ⟨_, h⟩ => ⟨_, reidx_to hv hn hb h⟩⟩
theorem on_all (hv : WF R) (h : LivedOn R (· ∈ K) t) (ha : ∀ i, i < R.cs.length → i ∈ K) : Lived R (tK R.ms.length (List.range R.cs.length) t) := by
  have := reidx_to (K := List.range R.cs.length) hv List.nodup_range (fun k hk => List.mem_range.1 hk) (h.mono fun i hi _ => ha i hi)
  rw [reidx_range] at this
  exact this
theorem mayF_on (hv : WF R) {x : List Nat} : mayF R x = true ↔ ∃ t, LivedOn R (fun i => i < R.cs.length ∧ i ∉ x) t := by
  rw [mayF_iff hv.toVal]
  have e : dropF R x = reidx R ((List.range R.cs.length).filter fun i => !x.contains i) := rfl
  have hm : ∀ i, i ∈ (List.range R.cs.length).filter (fun i => !x.contains i) ↔ i < R.cs.length ∧ i ∉ x := fun i => by
    rw [List.mem_filter, List.mem_range]
    simp [List.contains_eq_mem]
  rw [e, reidx_iff hv (nodup_filter List.nodup_range) (fun k hk => ((hm k).1 hk).1)]
  simp only [hm]
end
theorem combs_sub {x : List Nat} : ∀ {l : List Nat} {k : Nat}, x ∈ combs l k → x.Sublist l
  | [], 0, h => by simp [combs] at h; rw [h]; exact List.Sublist.refl _
  | [], k + 1, h => by cases h
  | y :: l, 0, h => by simp [combs] at h; rw [h]; exact List.nil_sublist _
  | y :: l, k + 1, h => by
    simp only [combs, List.mem_append, List.mem_map] at h
    rcases h with ⟨z, hz, rfl⟩ | h
    · exact (combs_sub hz).cons_cons y
    · exact (combs_sub h).cons y
theorem sub_combs {x l : List Nat} (h : x.Sublist l) : x ∈ combs l x.length := by
  induction h with
  | slnil => simp [combs]
  | @cons x l a h ih =>
    cases x with
    | nil => simp [combs]
    | cons b x => simp only [List.length_cons, combs, List.mem_append] at ih ⊢; exact .inr ih
  | @cons_cons x l a h ih =>
    simp only [List.length_cons, combs, List.mem_append, List.mem_map]
    exact .inl ⟨x, ih, rfl⟩
theorem order_may {R : Roll} (hv : WF R) {K : List Nat} (hn : K.Nodup) (hb : ∀ k ∈ K, k < R.cs.length) (hl : K.length = R.cs.length) (hall : ∀ i, i < R.cs.length → i ∈ K) {x : List Nat} {k : Nat} (hx : x ∈ combs (List.range R.cs.length) k) (hm : mayF (reidx R K) x = true) : ∃ y, y ∈ combs (List.range R.cs.length) k ∧ mayF R y = true := by
  have hS := hv.reidx (K := K) (by rw [hl]; exact hv.cs_l) hb
  rw [mayF_on hS] at hm
  obtain ⟨t, ht⟩ := hm
  have hxs := combs_sub hx
  have hxl := combs_mem hx
  have hxn : x.Nodup := hxs.nodup List.nodup_range
  refine ⟨(List.range R.cs.length).filter fun i => x.contains (K.idxOf i), ?_, ?_⟩
  · have h1 := sub_combs (List.filter_sublist (l := List.range R.cs.length) (p := fun i => x.contains (K.idxOf i)))
    have h2 : ((List.range R.cs.length).filter fun i => x.contains (K.idxOf i)).length = k := by
      have hp : ((List.range R.cs.length).filter fun i => x.contains (K.idxOf i)).Perm (x.map fun j => K[j]!) := by
        refine (List.perm_ext_iff_of_nodup (nodup_filter List.nodup_range) ?_).2 fun a => ?_
        · refine nodup_map hxn fun a ha c hc e => ?_
          have ha := List.mem_range.1 (hxs.subset ha)
          have hc := List.mem_range.1 (hxs.subset hc)
          rw [← idxOf_get hn (show a < K.length by omega), e, idxOf_get hn (show c < K.length by omega)]
        · rw [List.mem_filter, List.mem_range, List.mem_map, List.contains_eq_mem, decide_eq_true_eq]
          constructor
          · rintro ⟨h1, h2⟩
            exact ⟨_, h2, (get_idxOf (hall a h1)).2⟩
          · rintro ⟨j, hj, rfl⟩
            have hj' := List.mem_range.1 (hxs.subset hj)
            exact ⟨hb _ (get!_mem (by omega)), by rw [idxOf_get hn (by omega)]; exact hj⟩
      rw [hp.length_eq, List.length_map]; exact hxl
    rw [h2] at h1
    exact h1
  · rw [mayF_on hv]
    have h0 : LivedOn (reidx R K) (· ∈ (List.range (reidx R K).cs.length).filter fun i => !x.contains i) t := ht.mono fun i hi q => ⟨hi, by
      have := (List.mem_filter.1 q).2
      simpa [List.contains_eq_mem] using this⟩
    have h1 := reidx_to (K := (List.range (reidx R K).cs.length).filter fun i => !x.contains i) hS (nodup_filter List.nodup_range) (fun k hk => List.mem_range.1 (List.mem_filter.1 hk).1) h0
    have e : reidx (reidx R K) ((List.range (reidx R K).cs.length).filter fun i => !x.contains i) = reidx R (((List.range K.length).filter fun i => !x.contains i).map fun j => K[j]!) := by
      unfold reidx
      simp only [List.length_map, List.map_map]
      congr 1
      refine List.map_congr_left fun i hi => ?_
      have := List.mem_range.1 (List.mem_filter.1 hi).1
      rw [map_get! this]; rfl
    rw [e] at h1
    have hn2 : (((List.range K.length).filter fun i => !x.contains i).map fun j => K[j]!).Nodup := by
      refine nodup_map (nodup_filter List.nodup_range) fun a ha c hc e => ?_
      have ha := List.mem_range.1 (List.mem_filter.1 ha).1
      have hc := List.mem_range.1 (List.mem_filter.1 hc).1
      rw [← idxOf_get hn ha, e, idxOf_get hn hc]
    refine ⟨_, (reidx_from hv hn2 h1).mono fun i hi q => ?_⟩
    rw [List.mem_map]
    obtain ⟨g1, g2⟩ := get_idxOf (hall i hi)
    refine ⟨K.idxOf i, List.mem_filter.2 ⟨List.mem_range.2 g1, ?_⟩, g2⟩
    have q2 := q.2
    rw [List.mem_filter, List.mem_range] at q2
    cases hc : x.contains (K.idxOf i) with
    | true => exact absurd ⟨hi, hc⟩ q2
    | false => rfl
end Go.Proofs
namespace Go.Proofs
open Go Go.Idl
set_option linter.unusedSimpArgs false
variable {b : Bool}
section
variable {hp : Nat → Ob} {nx n' k j : Nat} {s : Int × Int} {L : List Nat} {lc : List (Nat × Vl)}
def RW (hp : Nat → Ob) (nx : Nat) (s : Int × Int) (L : List Nat) : Nat → Ob := upd (upd hp nx (.arr 1 (L.map IN))) 0 (urnO s)
theorem RW_at (h0 : 0 < nx) : RW hp nx s L nx = .arr 1 (L.map IN) := (upd_ne _ _ (by omega)).trans (upd_same _ _ _)
theorem RW_0 : RW hp nx s L 0 = urnO s := upd_same _ _ _
theorem UrnOk_RW : UrnOk 0 (RW hp nx s L) := rfl
theorem urnAt_RW : urnAt 0 (RW hp nx s L) = s := rfl
theorem RW_s {x y : Int} : upd (RW hp nx s L) 0 (.box (.agg [.int .u64 x, .int .u64 y])) = RW hp nx (x, y) L := upd_upd _ _ _ _
theorem RW_L {L' : List Nat} (h0 : 0 < nx) : upd (RW hp nx s L) nx (.arr 1 (L'.map IN)) = RW hp nx s L' := by
  unfold RW
  rw [upd_swap (i := 0) (j := nx) (by omega), upd_upd]
theorem RW_ne {i : Nat} (h1 : i ≠ 0) (h2 : i ≠ nx) : RW hp nx s L i = hp i := (upd_ne _ _ h1).trans (upd_ne _ _ h2)
theorem RW_new (h : hp 0 = urnO s) (h0 : 0 < nx) : upd hp nx (.arr 1 []) = RW hp nx s [] := by
  funext i
  by_cases e : i = 0
  · subst e; rw [upd_ne _ _ (by omega), RW_0, h]
  · unfold RW; rw [upd_ne (upd _ _ _) _ e]; rfl
theorem ixRW {eb : Nat} {ez : Vl} {i : Int} (h0 : 0 < nx) (hl : L.length = k) (h1 : 0 ≤ i) (h2 : i < k) : indexAddrV (.slice 1 eb ez) (.v (.own nx k)) (.int .i64 i) ⟨lc, RW hp nx s L, n'⟩ = some (.v (.ep nx k i.toNat 0), ⟨lc, RW hp nx s L, n'⟩) :=
  indexAddr_own (RW_at h0) (by rw [List.length_map]; exact hl) ⟨h1, h2⟩ (by decide)
theorem rdRW (h0 : 0 < nx) (hl : L.length = k) (hj : j < k) : Mem.read ⟨lc, RW hp nx s L, n'⟩ false 1 (.v (.ep nx k j 0)) = some (IN L[j]!) := by
  have h : (L.map IN).length = k := by rw [List.length_map]; exact hl
  simp only [Mem.read, RW_at h0, h, if_true]
  rw [List.getElem?_eq_getElem (by rw [h]; exact hj), List.getElem_map, get!_eq (by omega)]
  rfl
theorem wrRW {y : Nat} (h0 : 0 < nx) (hl : L.length = k) (hj : j < k) : Mem.write ⟨lc, RW hp nx s L, n'⟩ (.int .i64 (y : Int)) (.v (.ep nx k j 0)) = some ⟨lc, RW hp nx s (L.set j y), n'⟩ := by
  have h : (L.map IN).length = k := by rw [List.length_map]; exact hl
  simp only [Mem.write, RW_at h0, h, if_true]
  rw [List.getElem?_eq_getElem (by rw [h]; exact hj), List.getElem_map]
  show some ({ lc := lc, hp := upd (RW hp nx s L) nx (.arr 1 ((L.map IN).set j (IN y))), nx := n' } : Mem) = _
  rw [show (L.map IN).set j (IN y) = (L.set j y).map IN by rw [List.map_set], RW_L h0]
end
attribute [go_sem] UrnOk_RW urnAt_RW RW_s
set_option maxRecDepth 10000 in
set_option maxHeartbeats 4000000 in
theorem row_to {n nx : Nat} {hp : Nat → Ob} {s : Int × Int} (hn : n ≤ 1000) (h0 : 0 < nx) (hu : hp 0 = urnO s) : HAns Try.prog (AA b) 48 [.bp 0 0, I n] hp nx fun v h' n' => ∃ s L, L.Perm (List.range n) ∧ v = .own nx n ∧ h' = RW hp nx s L ∧ n' = nx + 1 := by
  refine HAns_of Try.func48 rfl ?_
  simp +contextual (maxSteps := 1000000) (disch := first | omega | (with_reducible first | refine krN ?_ | refine krS ?_ | refine krP ?_ | refine krG ?_); kernel_rfl | refine kr ?_; simp only [go_sem, reduceCtorEq, RW_new, hu, h0]; done | fail) only [go_sem, ↓reduceIte, Nat.reduceEqDiff, Nat.reduceAdd, Nat.reduceMul, Nat.reduceLeDiff, Nat.reduceLT, Nat.reduceBEq, bne, reduceCtorEq, Int.reduceLE, Int.reduceToNat, Int.reduceLT, Int.reduceAdd, Int.reduceSub, Int.reduceNeg, Int.cast_ofNat_Int, RW_new, hu, h0]
  refine wp_loop_to n (fun i st => ∃ (s : Int × Int) (L : List Nat) (ex : List (Nat × Vl)), L.Perm (List.range i) ∧ st = ({ sl := (0, .bp 0 0) :: (1, I n) :: (5, .own nx i) :: (6, I i) :: ex, hp := RW hp nx s L, nx := nx + 1 } : FS)) ?_ 0 (Nat.zero_le _) ⟨s, [], _, List.Perm.refl _, rfl⟩
  clear s hu
  rintro i st hi ⟨s, L, ex, hL, rfl⟩
  have hLl : L.length = i := by rw [hL.length_eq, List.length_range]
  by_cases hc : i < n
  · have hap : ∀ (t : Bool) (n' : Nat), isAppend Try.prog 32 32 (.own nx i) (.lst 1 [I i] t) ⟨[], RW hp nx s L, n'⟩ = some (.own nx (i + 1), ⟨[], RW hp nx s (L ++ [i]), n'⟩) := fun t n' => by
      refine (ap32w (m := ⟨[], RW hp nx s L, n'⟩) (RW_at h0) (by rw [List.length_map]; exact hLl) (by omega)).trans ?_
      show some (Vl.own nx (i + 1), ({ lc := [], hp := upd (RW hp nx s L) nx (.arr 1 (L.map IN ++ [IN i])), nx := n' } : Mem)) = _
      rw [show L.map IN ++ [IN i] = (L ++ [i]).map IN by simp, RW_L h0]
    have hu := upR_b s (n := ((i + 1 : Nat) : Int)) (by omega)
    have hl1 : (L ++ [i]).length = i + 1 := by rw [List.length_append, hLl]; rfl
    have hi1 : (i : Int) < ((i + 1 : Nat) : Int) := by omega
    have hp1 : (L ++ [i]).Perm (List.range (i + 1)) := by
      rw [List.range_succ]; exact hL.append_right _
    generalize hM : L ++ [i] = N at hap hl1 hp1
    have hmi : (upR s ((i + 1 : Nat) : Int)).toNat < i + 1 := by omega
    have hii : i < i + 1 := Nat.lt_succ_self _
    simp +contextual (maxSteps := 1000000) (disch := first | omega | (with_reducible first | refine krN ?_ | refine krS ?_ | refine krP ?_ | refine krG ?_); kernel_rfl | refine kr ?_; simp only [go_sem, reduceCtorEq, Int.ofNat_lt, hc, hap, ixRW, rdRW, wrRW, h0, hl1, hu, hmi, hii, List.length_set]; done | fail) only [go_sem, ↓reduceIte, Nat.reduceEqDiff, Nat.reduceAdd, Nat.reduceMul, Nat.reduceLeDiff, Nat.reduceLT, Nat.reduceBEq, bne, reduceCtorEq, Int.reduceLE, Int.reduceToNat, Int.reduceLT, Int.reduceAdd, Int.reduceSub, Int.reduceNeg, Int.cast_ofNat_Int, Int.ofNat_lt, hc, hap, ixRW, rdRW, wrRW, h0, hl1, hu, hmi, hii, List.length_set]
    refine ⟨_, _, [], ?_, rfl⟩
    rw [← List.range_succ, get!_eq (by omega), get!_eq (by omega)]
    exact (List.set_set_perm (by omega) (by omega)).trans hp1
  · have hie : i = n := by omega
    subst hie
    simp +contextual (maxSteps := 1000000) (disch := first | omega | (with_reducible first | refine krN ?_ | refine krS ?_ | refine krP ?_ | refine krG ?_); kernel_rfl | refine kr ?_; simp only [go_sem, reduceCtorEq, Int.lt_irrefl]; done | fail) only [go_sem, ↓reduceIte, Nat.reduceEqDiff, Nat.reduceAdd, Nat.reduceMul, Nat.reduceLeDiff, Nat.reduceLT, Nat.reduceBEq, bne, reduceCtorEq, Int.reduceLE, Int.reduceToNat, Int.reduceLT, Int.reduceAdd, Int.reduceSub, Int.reduceNeg, Int.cast_ofNat_Int, Int.lt_irrefl]
    exact ⟨s, L, hL, rfl⟩
section
variable {m : Mem} {K : Vl → Mem → Prop}
theorem wc26l {A : List (Int × Int)} (hl : A.length ≤ 1000) : WC Try.prog (AA b) (.fn (.func 26) [] []) [.v (.lst 2 (A.map encS) false), .v (.lst 2 (A.map encS) false)] m K = K (.bool true) m := wc26 (o1 := some false) (o2 := some false) hl
theorem wc26n : WC Try.prog (AA b) (.fn (.func 26) [] []) [.v .nils, .v .nils] m K = K (.bool true) m := wc26 (A := []) (o1 := none) (o2 := none) (by simp)
end
set_option maxRecDepth 10000 in
set_option maxHeartbeats 8000000 in
theorem order_to {ns : List Int} (hn : ns.length ≤ 9223372036854775807) {o : Option Bool} : Ans Try.prog (AA true) 12 [SL 1 (ns.map I) o] (fun v => v = .bool true) := by
  refine Ans_of Try.func12 rfl rfl ?_
  simp +contextual (maxSteps := 1000000) (disch := first | omega | (with_reducible first | refine krN ?_ | refine krS ?_ | refine krP ?_ | refine krG ?_); kernel_rfl | refine kr ?_; simp only [go_sem, reduceCtorEq]; done | fail) only [go_sem, ↓reduceIte, Nat.reduceEqDiff, Nat.reduceAdd, Nat.reduceMul, Nat.reduceLeDiff, Nat.reduceLT, Nat.reduceBEq, bne, reduceCtorEq, Int.reduceLE, Int.reduceToNat, Int.reduceLT, Int.reduceAdd, Int.reduceSub, Int.reduceNeg, Int.cast_ofNat_Int]
  refine wc_heap (by simp only [mkAnn, K18]) rfl (newUrn_to (b := true) hn) ?_
  rintro v hp' nx' ⟨rfl, rfl, x, y, rfl⟩
  simp +contextual (maxSteps := 1000000) (disch := first | omega | (with_reducible first | refine krN ?_ | refine krS ?_ | refine krP ?_ | refine krG ?_); kernel_rfl | refine kr ?_; simp only [go_sem, reduceCtorEq]; done | fail) only [go_sem, ↓reduceIte, Nat.reduceEqDiff, Nat.reduceAdd, Nat.reduceMul, Nat.reduceLeDiff, Nat.reduceLT, Nat.reduceBEq, bne, reduceCtorEq, Int.reduceLE, Int.reduceToNat, Int.reduceLT, Int.reduceAdd, Int.reduceSub, Int.reduceNeg, Int.cast_ofNat_Int]
  refine wc_heap (by simp only [mkAnn, K30]) rfl (spoilt2_to (b := true) (s := (x, y)) (recs := 5) (by decide) (by decide)) ?_
  rintro v hp' nx' ⟨s, life, plo, phi, T, F, os, ms, cs, bs, ds, ys, hw, hnear, hcl, hT1, hmen, hlp, rfl, rfl, rfl⟩
  have r1 := rfR1 (s := s) (os := os) (ms := ms) (cs := cs) (T := T) (t := T) (F := F) (x := true) (bs := bs) (ds := ds) (ys := ys) rfl
  have r2 := rfR2 (s := s) (os := os) (ms := ms) (cs := cs) (T := T) (F := F) (x := true) (bs := bs) (ds := ds) (ys := ys)
  have r3 := rfR3 (s := s) (os := os) (ms := ms) (cs := cs) (T := T) (t := T) (F := F) (x := true) (bs := bs) (ds := ds) (ys := ys) rfl
  have r4 := rfR4 (s := s) (os := os) (ms := ms) (cs := cs) (T := T) (t := T) (F := F) (x := true) (bs := bs) (ds := ds) (ys := ys) rfl
  simp +contextual (maxSteps := 1000000) (disch := first | omega | (with_reducible first | refine krN ?_ | refine krS ?_ | refine krP ?_ | refine krG ?_); kernel_rfl | refine kr ?_; simp only [go_sem, reduceCtorEq, r1, r2, r3, r4]; done | fail) only [go_sem, ↓reduceIte, Nat.reduceEqDiff, Nat.reduceAdd, Nat.reduceMul, Nat.reduceLeDiff, Nat.reduceLT, Nat.reduceBEq, bne, reduceCtorEq, Int.reduceLE, Int.reduceToNat, Int.reduceLT, Int.reduceAdd, Int.reduceSub, Int.reduceNeg, Int.cast_ofNat_Int, r1, r2, r3, r4]
  clear r1 r2 r3 r4
  generalize hhk : killHp _ (HPr _) = hk
  have hk0 := killHp_low hT1 hhk
  rw [enc_rollD]
  obtain ⟨R, hRd⟩ : ∃ R, R = rollD life plo phi T F os ms cs := ⟨_, rfl⟩
  obtain ⟨l, hl⟩ := wrong_some (r := R) (by rw [hRd]; exact hmen) (by rw [hRd]; exact hw.toVal)
  rw [← hRd] at hw hnear ⊢
  obtain ⟨nx, hnx⟩ : ∃ nx, nx = 5 + T + 1 + 1 + 1 := ⟨_, rfl⟩
  have hnx0 : 0 < nx := by omega
  rw [← hnx]
  clear hmen hcl hhk hRd hnx hT1 hlp
  refine busy_wc hw fun t => ?_
  cases t with
  | true => simp +contextual (maxSteps := 1000000) (disch := first | omega | (with_reducible first | refine krN ?_ | refine krS ?_ | refine krP ?_ | refine krG ?_); kernel_rfl | refine kr ?_; simp only [go_sem, reduceCtorEq, wc16]; done | fail) only [go_sem, ↓reduceIte, Nat.reduceEqDiff, Nat.reduceAdd, Nat.reduceMul, Nat.reduceLeDiff, Nat.reduceLT, Nat.reduceBEq, bne, reduceCtorEq, Int.reduceLE, Int.reduceToNat, Int.reduceLT, Int.reduceAdd, Int.reduceSub, Int.reduceNeg, Int.cast_ofNat_Int, wc16]
  | false =>
    obtain ⟨hm1, hm6⟩ := hw.ms_l
    have hc8 := hw.cs_l
    have ho5 := hw.os_l
    have hf4 := hw.fs_l
    simp +contextual (maxSteps := 1000000) (disch := first | omega | (with_reducible first | refine krN ?_ | refine krS ?_ | refine krP ?_ | refine krG ?_); kernel_rfl | refine kr ?_; simp only [go_sem, reduceCtorEq, wc16]; done | fail) only [go_sem, ↓reduceIte, Nat.reduceEqDiff, Nat.reduceAdd, Nat.reduceMul, Nat.reduceLeDiff, Nat.reduceLT, Nat.reduceBEq, bne, reduceCtorEq, Int.reduceLE, Int.reduceToNat, Int.reduceLT, Int.reduceAdd, Int.reduceSub, Int.reduceNeg, Int.cast_ofNat_Int, wc16]
    refine wc_heap (by simp only [mkAnn, K48]) rfl (row_to (b := true) (n := R.cs.length) (by omega) hnx0 hk0) ?_
    rintro v hp' nx' ⟨s1, K, hK, rfl, rfl, rfl⟩
    simp +contextual (maxSteps := 1000000) (disch := first | omega | (with_reducible first | refine krN ?_ | refine krS ?_ | refine krP ?_ | refine krG ?_); kernel_rfl | refine kr ?_; simp only [go_sem, reduceCtorEq, wc16]; done | fail) only [go_sem, ↓reduceIte, Nat.reduceEqDiff, Nat.reduceAdd, Nat.reduceMul, Nat.reduceLeDiff, Nat.reduceLT, Nat.reduceBEq, bne, reduceCtorEq, Int.reduceLE, Int.reduceToNat, Int.reduceLT, Int.reduceAdd, Int.reduceSub, Int.reduceNeg, Int.cast_ofNat_Int, wc16]
    refine wc_heap (by simp only [mkAnn, K19]) rfl (copy_to (b := true) (s := s1) (by omega) (by omega) (by omega) (by omega) (fun w h => by rw [hw.fs_ok w h]; omega) (Nat.succ_pos nx) (RW_0 (hp := hk) (nx := nx) (L := K))) ?_
    rintro v hp' nx' ⟨rfl, rfl, rfl⟩
    have hKl : K.length = R.cs.length := by rw [hK.length_eq, List.length_range]
    have hKn : K.Nodup := hK.nodup_iff.2 List.nodup_range
    have hKb : ∀ k ∈ K, k < R.cs.length := fun k hk => List.mem_range.1 (hK.mem_iff.1 hk)
    have hKa : ∀ i, i < R.cs.length → i ∈ K := fun i hi => hK.mem_iff.2 (List.mem_range.2 hi)
    have hat : ∀ c, CPr (RW hk nx s1 K) (nx + 1) c nx = .arr 1 (K.map IN) := fun c => by
      unfold CPr
      rw [if_neg (by omega), if_neg (by omega), if_neg (by omega), if_neg (by omega), if_neg (by omega), if_neg (by omega)]
      exact RW_at hnx0
    have hixo : ∀ (H : Nat → Ob) (n' : Nat) (lc : List (Nat × Vl)) (eb : Nat) (ez : Vl) (i : Int), H nx = .arr 1 (K.map IN) → 0 ≤ i → i < R.cs.length → indexAddrV (.slice 1 eb ez) (.v (.own nx R.cs.length)) (.int .i64 i) ⟨lc, H, n'⟩ = some (.v (.ep nx R.cs.length i.toNat 0), ⟨lc, H, n'⟩) := fun H n' lc eb ez i h1 h2 h3 =>
      indexAddr_own h1 (by rw [List.length_map]; exact hKl) ⟨h2, h3⟩ (by decide)
    have hrdo : ∀ (H : Nat → Ob) (n' : Nat) (lc : List (Nat × Vl)) (j : Nat), H nx = .arr 1 (K.map IN) → j < R.cs.length → Mem.read ⟨lc, H, n'⟩ false 1 (.v (.ep nx R.cs.length j 0)) = some (IN K[j]!) := fun H n' lc j h1 h2 => by
      have h : (K.map IN).length = R.cs.length := by rw [List.length_map]; exact hKl
      simp only [Mem.read, h1, h, if_true]
      rw [List.getElem?_eq_getElem (by rw [h]; exact h2), List.getElem_map, get!_eq (by omega)]
      rfl
    simp +contextual (maxSteps := 1000000) (disch := first | omega | (with_reducible first | refine krN ?_ | refine krS ?_ | refine krP ?_ | refine krG ?_); kernel_rfl | refine kr ?_; simp only [go_sem, reduceCtorEq, wc16]; done | fail) only [go_sem, ↓reduceIte, Nat.reduceEqDiff, Nat.reduceAdd, Nat.reduceMul, Nat.reduceLeDiff, Nat.reduceLT, Nat.reduceBEq, bne, reduceCtorEq, Int.reduceLE, Int.reduceToNat, Int.reduceLT, Int.reduceAdd, Int.reduceSub, Int.reduceNeg, Int.cast_ofNat_Int, wc16]
    refine wp_loop_to R.cs.length (fun i st => ∃ (Q : List Rec) (ex : List (Nat × Vl)), Q.length = R.cs.length ∧ (∀ j, j < i → Q[j]! = R.cs[K[j]!]!) ∧ st = ({ sl := (4, .loc (encRoll (some false) (some false) (some false) (some false) R)) :: (5, .own nx R.cs.length) :: (6, .loc (.agg [.own (nx + 1) R.os.length, I R.life, I R.plo, I R.phi, .own (nx + 1 + 3) R.fs.length, .own (nx + 1 + 1) R.ms.length, .own (nx + 1 + 2) R.cs.length])) :: (7, I i) :: ex, hp := CPr (RW hk nx s1 K) (nx + 1) ⟨s1, R.os, R.ms, Q, R.fs⟩, nx := nx + 1 + 4 + R.fs.length } : FS)) ?_ 0 (Nat.zero_le _) ⟨R.cs, _, rfl, fun j h => absurd h (Nat.not_lt_zero _), rfl⟩
    rintro i st hi ⟨Q, ex, hQl, hQ, rfl⟩
    by_cases hc : i < R.cs.length
    · have hiQ : i < Q.length := by omega
      have hki : K[i]! < R.cs.length := hKb _ (get!_mem (by omega))
      have hat' := hat ⟨s1, R.os, R.ms, Q, R.fs⟩
      have hixo' := fun (n' : Nat) (lc : List (Nat × Vl)) (eb : Nat) (ez : Vl) => hixo _ n' lc eb ez (i : Int) hat' (by omega) (by omega)
      have hrdo' := fun (n' : Nat) (lc : List (Nat × Vl)) => hrdo _ n' lc i hat' hc
      simp +contextual (maxSteps := 1000000) (disch := first | omega | (with_reducible first | refine krN ?_ | refine krS ?_ | refine krP ?_ | refine krG ?_); kernel_rfl | refine kr ?_; simp only [go_sem, reduceCtorEq, Int.ofNat_lt, hc, hixo', hrdo', ixC4, wrC4, CPr_setC4, hQl, ix_map, encC, hki]; done | fail) only [go_sem, ↓reduceIte, Nat.reduceEqDiff, Nat.reduceAdd, Nat.reduceMul, Nat.reduceLeDiff, Nat.reduceLT, Nat.reduceBEq, bne, reduceCtorEq, Int.reduceLE, Int.reduceToNat, Int.reduceLT, Int.reduceAdd, Int.reduceSub, Int.reduceNeg, Int.cast_ofNat_Int, Int.ofNat_lt, hc, hixo', hrdo', ixC4, wrC4, CPr_setC4, hQl, ix_map, encC, hki]
      refine ⟨_, [], ?_, fun j hj => ?_, rfl⟩
      · rw [List.length_set]; exact hQl
      · rw [get!_set hiQ]
        split
        · rename_i e
          subst e
          rfl
        · exact hQ j (by omega)
    · have hie : i = R.cs.length := by omega
      subst hie
      have hQe : Q = K.map fun i => R.cs[i]! := by
        apply List.ext_getElem (by rw [List.length_map]; omega)
        intro j h1 h2
        have := hQ j (by omega)
        rw [get!_eq h1, get!_eq (show j < K.length by omega)] at this
        rw [List.getElem_map]; exact this
      subst hQe
      clear hQ hi hc
      have f1 := rfC1 (h := RW hk nx s1 K) (n := nx + 1) (s := s1) (os := R.os) (ms := R.ms) (cs := K.map fun i => R.cs[i]!) (fs := R.fs) (Nat.succ_pos nx) rfl
      have f2 := rfC2 (h := RW hk nx s1 K) (n := nx + 1) (s := s1) (os := R.os) (ms := R.ms) (cs := K.map fun i => R.cs[i]!) (fs := R.fs) rfl
      have f3 := rfC3 (h := RW hk nx s1 K) (n := nx + 1) (s := s1) (os := R.os) (ms := R.ms) (cs := K.map fun i => R.cs[i]!) (fs := R.fs) rfl
      have f4 := rfC4 (h := RW hk nx s1 K) (n := nx + 1) (s := s1) (os := R.os) (ms := R.ms) (cs := K.map fun i => R.cs[i]!) (fs := R.fs) hQl
      simp +contextual (maxSteps := 1000000) (disch := first | omega | (with_reducible first | refine krN ?_ | refine krS ?_ | refine krP ?_ | refine krG ?_); kernel_rfl | refine kr ?_; simp only [go_sem, reduceCtorEq, Int.lt_irrefl, f1, f2, f3, f4]; done | fail) only [go_sem, ↓reduceIte, Nat.reduceEqDiff, Nat.reduceAdd, Nat.reduceMul, Nat.reduceLeDiff, Nat.reduceLT, Nat.reduceBEq, bne, reduceCtorEq, Int.reduceLE, Int.reduceToNat, Int.reduceLT, Int.reduceAdd, Int.reduceSub, Int.reduceNeg, Int.cast_ofNat_Int, Int.lt_irrefl, f1, f2, f3, f4]
      clear f1 f2 f3 f4
      generalize hk2e : killHp _ (CPr _ _ _) = hk2
      have hat2 : hk2 nx = .arr 1 (K.map IN) := by
        rw [← hk2e, killHp_ne, hat]
        simp only [List.mem_cons, List.mem_append, List.mem_flatten, List.mem_map, List.mem_range, List.not_mem_nil, or_false, not_or]
        refine ⟨by omega, by omega, ?_, by omega, by omega⟩
        rintro ⟨l, ⟨j, hj, rfl⟩, hm⟩
        rw [List.mem_singleton] at hm
        omega
      clear hk2e
      have e9 : Vl.agg [.lst 3 (R.os.map encO) false, I R.life, I R.plo, I R.phi, .lst 1 (R.fs.map encRow) false, .lst 5 (R.ms.map encM) false, .lst 7 ((K.map fun i => R.cs[i]!).map encC) false] = encRoll (some false) (some false) (some false) (some false) (reidx R K) := rfl
      rw [e9]
      have hwS := hw.reidx (K := K) (by omega) hKb
      have hml : (reidx R K).ms.length = R.ms.length := rfl
      have hclS : (reidx R K).cs.length = R.cs.length := by rw [reidx_len]; exact hKl
      have hto : ∀ t, Lived R t → Lived (reidx R K) (tK R.ms.length K t) := fun t ht => reidx_to hw hKn hKb (ht.on _)
      have hfrom : ∀ t, Lived (reidx R K) t → Lived R (tK R.ms.length (List.range R.cs.length) (tU K t)) := fun t ht => on_all hw (reidx_from hw hKn ht) hKa
      have hsame := hull_same hw.toVal hwS.toVal (fun t ht => ⟨_, hto t ht⟩) (fun t ht => ⟨_, hfrom t ht⟩)
      have hlR := livesV.eq_1 R
      have hyR := yearsV.eq_1 R
      have hlS := livesV.eq_1 (reidx R K)
      have hyS := yearsV.eq_1 (reidx R K)
      rw [hml] at hlS
      rw [hclS] at hyS
      have hwvR : wrongV R = .tup [SL 1 (l.map IN) none, I 0] := by unfold wrongV; rw [hl]; simp only; rw [listV_SL]
      obtain ⟨m, hm, hlen⟩ : ∃ m, wrongF (reidx R K) = some m ∧ m.length = l.length := by
        have hI1 : ((List.range R.cs.length).map fun j => K.idxOf j).Nodup := nodup_map List.nodup_range fun a ha c hc e => by
          have a1 := (get_idxOf (hKa a (List.mem_range.1 ha))).2
          rw [e, (get_idxOf (hKa c (List.mem_range.1 hc))).2] at a1
          exact a1.symm
        have hI2 : ∀ k ∈ (List.range R.cs.length).map (fun j => K.idxOf j), k < (reidx R K).cs.length := fun k hk => by
          obtain ⟨j, hj, rfl⟩ := List.mem_map.1 hk
          rw [reidx_len]
          exact (get_idxOf (hKa j (List.mem_range.1 hj))).1
        have hback : reidx (reidx R K) ((List.range R.cs.length).map fun j => K.idxOf j) = R := by
          conv => rhs; rw [← reidx_range (R := R)]
          unfold reidx
          simp only [List.map_map]
          congr 1
          refine List.map_congr_left fun j hj => ?_
          obtain ⟨g1, g2⟩ := get_idxOf (hKa j (List.mem_range.1 hj))
          show (K.map fun i => R.cs[i]!)[K.idxOf j]! = R.cs[j]!
          rw [map_get! g1, g2]
        have hI3 : ∀ i, i < (reidx R K).cs.length → i ∈ (List.range R.cs.length).map (fun j => K.idxOf j) := fun i hi => by
          rw [reidx_len] at hi
          exact List.mem_map.2 ⟨K[i]!, List.mem_range.2 (hKb _ (get!_mem hi)), idxOf_get hKn hi⟩
        obtain ⟨a1, a2⟩ := wrong_len hl
        have a3 := wrong_in hl
        obtain ⟨y, y1, y2⟩ : ∃ y, y ∈ combs (List.range R.cs.length) l.length ∧ mayF (reidx R K) y = true := by
          have := order_may (R := reidx R K) hwS hI1 hI2 (by rw [List.length_map, List.length_range, hclS]) hI3 (x := l) (k := l.length) (by rw [hclS]; exact a3) (by rw [hback]; exact a2)
          rw [hclS] at this
          exact this
        cases hm : wrongF (reidx R K) with
        | none =>
          exfalso
          unfold wrongF at hm
          rw [List.find?_eq_none] at hm
          refine absurd y2 (hm y ?_)
          unfold allLists
          simp only [List.mem_flatten, List.mem_map, List.mem_range]
          exact ⟨_, ⟨l.length, by omega, rfl⟩, by rw [hclS]; exact y1⟩
        | some m =>
          refine ⟨m, rfl, ?_⟩
          obtain ⟨b1, b2⟩ := wrong_len hm
          have b3 := wrong_in hm
          rw [hclS] at b1 b3
          obtain ⟨z, z1, z2⟩ := order_may hw hKn hKb hKl hKa b3 b2
          have c1 := find_short b1 z1 z2 hl
          have hm' : (allLists R.cs.length).find? (mayF (reidx R K)) = some m := by
            have := hm
            unfold wrongF at this
            rw [hclS] at this
            exact this
          have c2 := find_short a1 y1 y2 hm'
          omega
      have hwvS : wrongV (reidx R K) = .tup [SL 1 (m.map IN) none, I 0] := by unfold wrongV; rw [hm]; simp only; rw [listV_SL]
      have hlen' : (m.length : Int) = (l.length : Int) := by omega
      cases hsv : (solveF false R).2 with
      | false =>
        have hsS : (solveF false (reidx R K)).2 = false := by rw [← hsame]; exact hsv
        have h90 : ¬ ((9 : Int) = 0) := by decide
        have p1 : (possF R).2 = 9 := by unfold possF; rw [if_neg (by rw [hsv]; decide)]
        have p2 : (possF (reidx R K)).2 = 9 := by unfold possF; rw [if_neg (by rw [hsS]; decide)]
        rw [p1, if_neg h90] at hlR hyR
        rw [p2, if_neg h90] at hlS hyS
        simp +contextual (maxSteps := 1000000) (disch := first | omega | (with_reducible first | refine krN ?_ | refine krS ?_ | refine krP ?_ | refine krG ?_); kernel_rfl | refine kr ?_; simp only [go_sem, reduceCtorEq, wc16, wc20, wc22, wc31, wc26n, hw, hwS, hlR, hyR, hlS, hyS, hwvR, hwvS, hlen', List.length_map]; done | fail) only [go_sem, ↓reduceIte, Nat.reduceEqDiff, Nat.reduceAdd, Nat.reduceMul, Nat.reduceLeDiff, Nat.reduceLT, Nat.reduceBEq, bne, reduceCtorEq, Int.reduceLE, Int.reduceToNat, Int.reduceLT, Int.reduceAdd, Int.reduceSub, Int.reduceNeg, Int.cast_ofNat_Int, wc16, wc20, wc22, wc31, wc26n, hw, hwS, hlR, hyR, hlS, hyS, hwvR, hwvS, hlen', List.length_map]
        refine wp_loop_to 0 (fun i st => ∃ (ex : List (Nat × Vl)), st = ({ sl := (5, .own nx R.cs.length) :: (14, .nils) :: (16, .nils) :: (22, I i) :: ex, hp := hk2, nx := nx + 1 + 4 + R.fs.length } : FS)) ?_ 0 (Nat.le_refl _) ⟨_, rfl⟩
        rintro i st hi ⟨ex, rfl⟩
        obtain rfl : i = 0 := by omega
        simp +contextual (maxSteps := 1000000) (disch := first | omega | (with_reducible first | refine krN ?_ | refine krS ?_ | refine krP ?_ | refine krG ?_); kernel_rfl | refine kr ?_; simp only [go_sem, reduceCtorEq, wc16]; done | fail) only [go_sem, ↓reduceIte, Nat.reduceEqDiff, Nat.reduceAdd, Nat.reduceMul, Nat.reduceLeDiff, Nat.reduceLT, Nat.reduceBEq, bne, reduceCtorEq, Int.reduceLE, Int.reduceToNat, Int.reduceLT, Int.reduceAdd, Int.reduceSub, Int.reduceNeg, Int.cast_ofNat_Int, wc16]
      | true =>
        have hsS : (solveF false (reidx R K)).2 = true := by rw [← hsame]; exact hsv
        have p1 : (possF R).2 = 0 ∧ (possF R).1 = (solveF false R).1 := by unfold possF; rw [if_pos hsv]; exact ⟨rfl, rfl⟩
        have p2 : (possF (reidx R K)).2 = 0 ∧ (possF (reidx R K)).1 = (solveF false (reidx R K)).1 := by unfold possF; rw [if_pos hsS]; exact ⟨rfl, rfl⟩
        rw [if_pos p1.1, p1.2, spans_enc, spans_enc] at hlR
        rw [if_pos p1.1, p1.2] at hyR
        rw [if_pos p2.1, p2.2, spans_enc, spans_enc] at hlS
        rw [if_pos p2.1, p2.2] at hyS
        have hq : ∀ i j, i < 20 → j < 20 → (∀ t, tK R.ms.length K t j = t i) → (∀ t, tK R.ms.length (List.range R.cs.length) (tU K t) i = t j) → (solveF false (reidx R K)).1.getD j (0, 0) = (solveF false R).1.getD i (0, 0) := fun i j hi hj h1 h2 => by
          have := hull_eq hw.toVal hwS.toVal (d := 0) hi hj (fun t ht => ⟨_, hto t ht, (h1 t).trans (by omega)⟩) (fun t ht => ⟨_, hfrom t ht, (h2 t).trans (by omega)⟩) hsv
          exact Prod.ext (by omega) (by omega)
        have hqb : ∀ i, i < R.ms.length → (solveF false (reidx R K)).1.getD i (0, 0) = (solveF false R).1.getD i (0, 0) := fun i hi => hq i i (by omega) (by omega) (fun t => tK_m hi) fun t => by rw [tK_m hi]; exact if_neg (by omega)
        have hqd : ∀ i, i < R.ms.length → (solveF false (reidx R K)).1.getD (6 + i) (0, 0) = (solveF false R).1.getD (6 + i) (0, 0) := fun i hi => hq (6 + i) (6 + i) (by omega) (by omega) (fun t => tK_d hi) fun t => by rw [tK_d hi]; exact if_neg (by omega)
        have hqy : ∀ i, i < R.cs.length → (solveF false (reidx R K)).1.getD (12 + i) (0, 0) = (solveF false R).1.getD (12 + K[i]!) (0, 0) := fun i hi => by
          have hki : K[i]! < R.cs.length := hKb _ (get!_mem (by omega))
          refine hq (12 + K[i]!) (12 + i) (by omega) (by omega) (fun t => tK_c hm6 (by omega)) fun t => ?_
          rw [tK_c hm6 (by rw [List.length_range]; exact hki), range_get! hki]
          unfold tU
          rw [if_pos (by omega), show 12 + K[i]! - 12 = K[i]! by omega, idxOf_get hKn (by omega)]
        have hA1 : ((List.range R.ms.length).map fun i => (solveF false (reidx R K)).1.getD i (0, 0)) = (List.range R.ms.length).map fun i => (solveF false R).1.getD i (0, 0) := List.map_congr_left fun i hi => hqb i (List.mem_range.1 hi)
        have hA2 : (((List.range R.ms.length).map fun x => 6 + x).map fun i => (solveF false (reidx R K)).1.getD i (0, 0)) = ((List.range R.ms.length).map fun x => 6 + x).map fun i => (solveF false R).1.getD i (0, 0) := List.map_congr_left fun i hi => by
          obtain ⟨j, hj, rfl⟩ := List.mem_map.1 hi
          exact hqd j (List.mem_range.1 hj)
        rw [hA1, hA2] at hlS
        have k1 : ((List.range R.ms.length).map fun i => (solveF false R).1.getD i (0, 0)).length ≤ 1000 := by simp only [List.length_map, List.length_range]; omega
        have k2 : (((List.range R.ms.length).map fun x => 6 + x).map fun i => (solveF false R).1.getD i (0, 0)).length ≤ 1000 := by simp only [List.length_map, List.length_range]; omega
        have w1 := fun (m : Mem) (Q : Vl → Mem → Prop) => wc26l (b := true) (m := m) (K := Q) k1
        have w2 := fun (m : Mem) (Q : Vl → Mem → Prop) => wc26l (b := true) (m := m) (K := Q) k2
        simp +contextual (maxSteps := 1000000) (disch := first | omega | (with_reducible first | refine krN ?_ | refine krS ?_ | refine krP ?_ | refine krG ?_); kernel_rfl | refine kr ?_; simp only [go_sem, reduceCtorEq, wc16, wc20, wc22, wc31, w1, w2, hw, hwS, hlR, hyR, hlS, hyS, hwvR, hwvS, hlen', List.length_map, List.length_range]; done | fail) only [go_sem, ↓reduceIte, Nat.reduceEqDiff, Nat.reduceAdd, Nat.reduceMul, Nat.reduceLeDiff, Nat.reduceLT, Nat.reduceBEq, bne, reduceCtorEq, Int.reduceLE, Int.reduceToNat, Int.reduceLT, Int.reduceAdd, Int.reduceSub, Int.reduceNeg, Int.cast_ofNat_Int, wc16, wc20, wc22, wc31, w1, w2, hw, hwS, hlR, hyR, hlS, hyS, hwvR, hwvS, hlen', List.length_map, List.length_range]
        have hyk : ∀ i, i < R.cs.length → yearAt (reidx R K) (solveF false (reidx R K)).1 i = yearAt R (solveF false R).1 K[i]! := fun i hi => by
          unfold yearAt
          rw [reidx_get (by omega), hqy i hi]
        have hyS2 : ∀ (p : Kn) i, ∃ lo hi, yearAt R p i = Sp lo hi := fun p i => by
          unfold yearAt
          split
          · exact ⟨0, 0, rfl⟩
          · exact ⟨_, _, rfl⟩
        generalize (solveF false R).1 = p at hyk ⊢
        generalize (solveF false (reidx R K)).1 = p' at hyk ⊢
        refine wp_loop_to R.cs.length (fun i st => ∃ (ex : List (Nat × Vl)), st = ({ sl := (5, .own nx R.cs.length) :: (14, .lst 2 ((List.range R.cs.length).map (yearAt R p)) false) :: (16, .lst 2 ((List.range R.cs.length).map (yearAt (reidx R K) p')) false) :: (22, I i) :: ex, hp := hk2, nx := nx + 1 + 4 + R.fs.length } : FS)) ?_ 0 (Nat.zero_le _) ⟨_, rfl⟩
        rintro i st hi ⟨ex, rfl⟩
        by_cases hc : i < R.cs.length
        · have hki : K[i]! < R.cs.length := hKb _ (get!_mem (by omega))
          have x5 := ix_years (R := R) (p := p) (n := R.cs.length) (i := K[i]!) hki
          have x6 := ix_years (R := reidx R K) (p := p') (n := R.cs.length) (i := i) hc
          rw [hyk i hc] at x6
          obtain ⟨lo, hi', e3⟩ := hyS2 p K[i]!
          rw [e3] at x5 x6
          have hixo' := fun (n' : Nat) (lc : List (Nat × Vl)) (eb : Nat) (ez : Vl) => hixo _ n' lc eb ez (i : Int) hat2 (by omega) (by omega)
          have hrdo' := fun (n' : Nat) (lc : List (Nat × Vl)) => hrdo _ n' lc i hat2 hc
          simp +contextual (maxSteps := 1000000) (disch := first | omega | (with_reducible first | refine krN ?_ | refine krS ?_ | refine krP ?_ | refine krG ?_); kernel_rfl | refine kr ?_; simp only [go_sem, reduceCtorEq, Int.ofNat_lt, hc, x5, x6, hixo', hrdo', bin_neSs, List.length_range, List.length_map]; done | fail) only [go_sem, ↓reduceIte, Nat.reduceEqDiff, Nat.reduceAdd, Nat.reduceMul, Nat.reduceLeDiff, Nat.reduceLT, Nat.reduceBEq, bne, reduceCtorEq, Int.reduceLE, Int.reduceToNat, Int.reduceLT, Int.reduceAdd, Int.reduceSub, Int.reduceNeg, Int.cast_ofNat_Int, Int.ofNat_lt, hc, x5, x6, hixo', hrdo', bin_neSs, List.length_range, List.length_map]
          exact ⟨_, rfl⟩
        · have hie : i = R.cs.length := by omega
          subst hie
          simp +contextual (maxSteps := 1000000) (disch := first | omega | (with_reducible first | refine krN ?_ | refine krS ?_ | refine krP ?_ | refine krG ?_); kernel_rfl | refine kr ?_; simp only [go_sem, reduceCtorEq, Int.lt_irrefl, List.length_range, List.length_map, wc16]; done | fail) only [go_sem, ↓reduceIte, Nat.reduceEqDiff, Nat.reduceAdd, Nat.reduceMul, Nat.reduceLeDiff, Nat.reduceLT, Nat.reduceBEq, bne, reduceCtorEq, Int.reduceLE, Int.reduceToNat, Int.reduceLT, Int.reduceAdd, Int.reduceSub, Int.reduceNeg, Int.cast_ofNat_Int, Int.lt_irrefl, List.length_range, List.length_map, wc16]
end Go.Proofs
