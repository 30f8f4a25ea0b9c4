/- What functions of the given program do in the ideal machine (G53, N1), and the plain laws of what they answer; the conditions stand in each theorem. -/
import Derived.Test.YtencmmlmeifffaaGp
import Derived.Test.YtencmmlmeifffaaGg
import Derived.Test.YtencmmlmeifffaaGf
import Derived.Test.YtencmmlmeifffaaIf
import Derived.Test.YtencmmlmeifffaaGa
import Derived.Test.YtencmmlmeifffaaChecked
set_option linter.all false
set_option linter.unusedSectionVars false
set_option linter.unusedSimpArgs false
set_option linter.unusedVariables false
namespace Go.Proofs
open Go Go.Idl
set_option linter.unusedSimpArgs false
variable {b : Bool}
theorem killC_low {h : Nat → Ob} {n : Nat} {s : Int × Int} {os : List Office} {ms : List Man} {cs : List Rec} {fs : List (List Bool)} {ks : List Nat} (hn : 0 < n) (hk : ∀ k ∈ ks, n ≤ k) : killHp ks (CPr h n ⟨s, os, ms, cs, fs⟩) 0 = urnO s := by
  rw [killHp_ne (fun h0 => by have := hk 0 h0; omega)]
  rfl
theorem Narrow20.wf {r : Roll} (h : WF r) : Narrow20 r := by
  have h1 := h.os_l
  have h2 := h.fs_l
  have h3 := h.ms_l
  have h4 := h.cs_l
  exact ⟨by omega, by omega, by omega, by omega, fun i hi => by rw [h.fs_ok _ (get!_mem hi)]; omega⟩
section
variable {r : Roll} {m : Mem} {K : Vl → Mem → Prop} {o1 o2 o3 o4 : Option Bool}
theorem wide_wc (hf : r.fs.length ≤ 9223372036854775807) (h : ∀ t : Bool, (t = false → Narrow20 r) → K (.bool t) m) : WC Try.prog (AA b) (.fn (.func 14) [] []) [.v (encRoll o1 o2 o3 o4 r)] m K := by
  refine wc_ans (by simp only [mkAnn, K14]) (rfAs (xs := [encRoll o1 o2 o3 o4 r]) clR1) (wide_to (b := b) (o1 := o1) (o2 := o2) (o3 := o3) (o4 := o4) hf) ?_
  rintro v ⟨t, rfl, ht⟩
  exact ⟨rfl, h t ht⟩
theorem busyX_wc (hn : Narrow20 r) (h : ∀ t : Bool, K (.bool t) m) : WC Try.prog (AA b) (.fn (.func 15) [] []) [.v (encRoll o1 o2 o3 o4 r)] m K := by
  obtain ⟨h1, h2, h3, h4⟩ := n20 hn
  refine wc_ans (by simp only [mkAnn, K15]) (rfAs (xs := [encRoll o1 o2 o3 o4 r]) clR1) (busyX_to (b := b) (o1 := o1) (o2 := o2) (o3 := o3) (o4 := o4) h1 h2 h3 h4) ?_
  rintro v ⟨t, rfl⟩
  exact ⟨rfl, h t⟩
end
section
variable {life plo phi : Int} {T : Nat} {F : Nat → Nat → Bool} {os : List Office} {ms : List Man} {cs : List Rec}
end
end Go.Proofs
namespace Go.Proofs
open Go Go.Idl
set_option linter.unusedSimpArgs false
variable {b : Bool}
theorem list_dec {α : Type} {f : α → Vl} {ag : Bool} : ∀ {ys : List (List Vl)}, (∀ y ∈ ys, ∃ a, mkE ag y = f a) → ∃ l : List α, ys.map (mkE ag) = l.map f ∧ l.length = ys.length
  | [], _ => ⟨[], rfl, rfl⟩
  | y :: ys, h => by
    obtain ⟨a, ha⟩ := h y List.mem_cons_self
    obtain ⟨l, hl, hn⟩ := list_dec fun y' hy' => h y' (List.mem_cons_of_mem _ hy')
    exact ⟨a :: l, by rw [List.map_cons, List.map_cons, ha, hl], by simp [hn]⟩
structure UT (P : Program) : Prop where
  u3 : P.underlying 3 = some (.int .i64)
  u4 : P.underlying 4 = some (.bool)
  u24 : P.underlying 24 = some (.struct #[{ name := "Low", type := 3, offset := 0, embedded := false, tag := "", pkgPath := "", byteOffset := 0 }, { name := "High", type := 3, offset := 1, embedded := false, tag := "", pkgPath := "", byteOffset := 8 }])
  u79 : P.underlying 79 = some (.struct #[{ name := "Age", type := 3, offset := 0, embedded := false, tag := "", pkgPath := "", byteOffset := 0 }, { name := "Gap", type := 3, offset := 1, embedded := false, tag := "", pkgPath := "", byteOffset := 8 }, { name := "Again", type := 3, offset := 2, embedded := false, tag := "", pkgPath := "", byteOffset := 16 }])
  u64 : P.underlying 64 = some (.struct #[{ name := "Name", type := 3, offset := 0, embedded := false, tag := "", pkgPath := "", byteOffset := 0 }, { name := "Born", type := 24, offset := 1, embedded := false, tag := "", pkgPath := "", byteOffset := 8 }, { name := "Died", type := 24, offset := 3, embedded := false, tag := "", pkgPath := "", byteOffset := 24 }])
  u31 : P.underlying 31 = some (.struct #[{ name := "Kin", type := 4, offset := 0, embedded := false, tag := "", pkgPath := "", byteOffset := 0 }, { name := "Man", type := 3, offset := 1, embedded := false, tag := "", pkgPath := "", byteOffset := 8 }, { name := "Office", type := 3, offset := 2, embedded := false, tag := "", pkgPath := "", byteOffset := 16 }, { name := "Town", type := 3, offset := 3, embedded := false, tag := "", pkgPath := "", byteOffset := 24 }, { name := "Child", type := 3, offset := 4, embedded := false, tag := "", pkgPath := "", byteOffset := 32 }, { name := "When", type := 24, offset := 5, embedded := false, tag := "", pkgPath := "", byteOffset := 40 }])
  u80 : P.underlying 80 = some (.slice 4)
  u22 : P.underlying 22 = some (.slice 79)
  u26 : P.underlying 26 = some (.slice 64)
  u27 : P.underlying 27 = some (.slice 31)
  u25 : P.underlying 25 = some (.slice 80)
  u29 : P.underlying 29 = some (.struct #[{ name := "Offices", type := 22, offset := 0, embedded := false, tag := "", pkgPath := "", byteOffset := 0 }, { name := "Life", type := 3, offset := 1, embedded := false, tag := "", pkgPath := "", byteOffset := 24 }, { name := "Parents", type := 24, offset := 2, embedded := false, tag := "", pkgPath := "", byteOffset := 32 }, { name := "Far", type := 25, offset := 4, embedded := false, tag := "", pkgPath := "", byteOffset := 48 }, { name := "Men", type := 26, offset := 5, embedded := false, tag := "", pkgPath := "", byteOffset := 72 }, { name := "Records", type := 27, offset := 6, embedded := false, tag := "", pkgPath := "", byteOffset := 96 }])
  u32 : P.underlying 32 = some (.slice 3)
  c79 : P.cellsOf 79 = 3 ∧ aggT P 79 = true
  c80 : P.cellsOf 80 = 1 ∧ aggT P 80 = false
  c64 : P.cellsOf 64 = 5 ∧ aggT P 64 = true
  c31 : P.cellsOf 31 = 7 ∧ aggT P 31 = true
  c4 : P.cellsOf 4 = 1 ∧ aggT P 4 = false
  c3 : P.cellsOf 3 = 1 ∧ aggT P 3 = false
variable {P : Program}
theorem ty3 (U : UT P) {d : Nat} {xs : List Vl} (h : TyL P (d + 1) 3 xs) : ∃ n, xs = [I n] := by
  simp only [TyL, U.u3] at h
  obtain ⟨n, h, _⟩ := h
  exact ⟨n, h⟩
theorem ty4 (U : UT P) {d : Nat} {xs : List Vl} (h : TyL P (d + 1) 4 xs) : ∃ n, xs = [Vl.bool n] := by
  simp only [TyL, U.u4] at h
  exact h
theorem ty24 (U : UT P) {d : Nat} {xs : List Vl} (h : TyL P (d + 2) 24 xs) : ∃ a c, xs = [I a, I c] := by
  unfold TyL at h
  simp only [U.u24, TyF] at h
  obtain ⟨y1, z1, rfl, h1, y2, z2, rfl, h2, rfl⟩ := h
  obtain ⟨a, rfl⟩ := ty3 U h1
  obtain ⟨c, rfl⟩ := ty3 U h2
  exact ⟨a, c, rfl⟩
theorem ty79 (U : UT P) {d : Nat} {xs : List Vl} (h : TyL P (d + 2) 79 xs) : ∃ o : Office, .agg xs = encO o := by
  unfold TyL at h
  simp only [U.u79, TyF] at h
  obtain ⟨y1, z1, rfl, h1, y2, z2, rfl, h2, y3, z3, rfl, h3, rfl⟩ := h
  obtain ⟨a, rfl⟩ := ty3 U h1
  obtain ⟨c, rfl⟩ := ty3 U h2
  obtain ⟨e, rfl⟩ := ty3 U h3
  exact ⟨⟨a, c, e⟩, rfl⟩
theorem ty64 (U : UT P) {d : Nat} {xs : List Vl} (h : TyL P (d + 3) 64 xs) : ∃ o : Man, .agg xs = encM o := by
  unfold TyL at h
  simp only [U.u64, TyF] at h
  obtain ⟨y1, z1, rfl, h1, y2, z2, rfl, h2, y3, z3, rfl, h3, rfl⟩ := h
  obtain ⟨a, rfl⟩ := ty3 U h1
  obtain ⟨c, e, rfl⟩ := ty24 U h2
  obtain ⟨f, g, rfl⟩ := ty24 U h3
  exact ⟨⟨a, c, e, f, g⟩, rfl⟩
theorem ty31 (U : UT P) {d : Nat} {xs : List Vl} (h : TyL P (d + 3) 31 xs) : ∃ o : Rec, .agg xs = encC o := by
  unfold TyL at h
  simp only [U.u31, TyF] at h
  obtain ⟨y1, z1, rfl, h1, y2, z2, rfl, h2, y3, z3, rfl, h3, y4, z4, rfl, h4, y5, z5, rfl, h5, y6, z6, rfl, h6, rfl⟩ := h
  obtain ⟨a, rfl⟩ := ty4 U h1
  obtain ⟨c, rfl⟩ := ty3 U h2
  obtain ⟨e, rfl⟩ := ty3 U h3
  obtain ⟨f, rfl⟩ := ty3 U h4
  obtain ⟨g, rfl⟩ := ty3 U h5
  obtain ⟨p, q, rfl⟩ := ty24 U h6
  exact ⟨⟨a, c, e, f, g, p, q⟩, rfl⟩
theorem ty80 (U : UT P) {d : Nat} {xs : List Vl} (h : TyL P (d + 2) 80 xs) : ∃ w : List Bool, mkE false xs = encRow w := by
  unfold TyL at h
  simp only [U.u80, U.c4.1, U.c4.2] at h
  obtain ⟨ys, rfl, _, h⟩ := h
  obtain ⟨l, hl, _⟩ := list_dec (f := Vl.bool) (ag := false) fun y hy => by
    obtain ⟨n, rfl⟩ := ty4 U (h y hy)
    exact ⟨n, rfl⟩
  exact ⟨l, by rw [hl]; rfl⟩
theorem ty22 (U : UT P) {d : Nat} {xs : List Vl} (h : TyL P (d + 4) 22 xs) : ∃ l : List Office, xs = [.lst 3 (l.map encO) false] ∧ l.length ≤ maxLen := by
  unfold TyL at h
  simp only [U.u22, U.c79.1, U.c79.2] at h
  obtain ⟨ys, rfl, hl, h⟩ := h
  obtain ⟨l, e, hn⟩ := list_dec (f := encO) (ag := true) fun y hy => ty79 U (h y hy)
  exact ⟨l, by rw [e], by omega⟩
theorem ty26 (U : UT P) {d : Nat} {xs : List Vl} (h : TyL P (d + 4) 26 xs) : ∃ l : List Man, xs = [.lst 5 (l.map encM) false] ∧ l.length ≤ maxLen := by
  unfold TyL at h
  simp only [U.u26, U.c64.1, U.c64.2] at h
  obtain ⟨ys, rfl, hl, h⟩ := h
  obtain ⟨l, e, hn⟩ := list_dec (f := encM) (ag := true) fun y hy => ty64 U (h y hy)
  exact ⟨l, by rw [e], by omega⟩
theorem ty27 (U : UT P) {d : Nat} {xs : List Vl} (h : TyL P (d + 4) 27 xs) : ∃ l : List Rec, xs = [.lst 7 (l.map encC) false] ∧ l.length ≤ maxLen := by
  unfold TyL at h
  simp only [U.u27, U.c31.1, U.c31.2] at h
  obtain ⟨ys, rfl, hl, h⟩ := h
  obtain ⟨l, e, hn⟩ := list_dec (f := encC) (ag := true) fun y hy => ty31 U (h y hy)
  exact ⟨l, by rw [e], by omega⟩
theorem ty25 (U : UT P) {d : Nat} {xs : List Vl} (h : TyL P (d + 4) 25 xs) : ∃ l : List (List Bool), xs = [.lst 1 (l.map encRow) false] ∧ l.length ≤ maxLen := by
  unfold TyL at h
  simp only [U.u25, U.c80.1, U.c80.2] at h
  obtain ⟨ys, rfl, hl, h⟩ := h
  obtain ⟨l, e, hn⟩ := list_dec (f := encRow) (ag := false) fun y hy => ty80 U (h y hy)
  exact ⟨l, by rw [e], by omega⟩
theorem ty29 (U : UT P) {xs : List Vl} (h : TyL P 6 29 xs) : ∃ r : Roll, .agg xs = encRoll (some false) (some false) (some false) (some false) r ∧ r.fs.length ≤ maxLen := by
  unfold TyL at h
  simp only [U.u29, TyF] at h
  obtain ⟨y1, z1, rfl, h1, y2, z2, rfl, h2, y3, z3, rfl, h3, y4, z4, rfl, h4, y5, z5, rfl, h5, y6, z6, rfl, h6, rfl⟩ := h
  obtain ⟨os, rfl, _⟩ := ty22 U h1
  obtain ⟨life, rfl⟩ := ty3 U h2
  obtain ⟨p, q, rfl⟩ := ty24 U h3
  obtain ⟨fs, rfl, hf⟩ := ty25 U h4
  obtain ⟨ms, rfl, _⟩ := ty26 U h5
  obtain ⟨cs, rfl, _⟩ := ty27 U h6
  exact ⟨⟨os, life, p, q, fs, ms, cs⟩, rfl, hf⟩
theorem ty32 (U : UT P) {xs : List Vl} (h : TyL P 6 32 xs) : ∃ l : List Int, xs = [SL 1 (l.map I) (some false)] ∧ l.length ≤ maxLen := by
  unfold TyL at h
  simp only [U.u32, U.c3.1, U.c3.2] at h
  obtain ⟨ys, rfl, hl, h⟩ := h
  obtain ⟨l, e, hn⟩ := list_dec (f := I) (ag := false) fun y hy => by
    obtain ⟨n, rfl⟩ := ty3 U (h y hy)
    exact ⟨n, rfl⟩
  exact ⟨l, by rw [e]; rfl, by omega⟩
theorem UT_try : UT Try.prog where
  u3 := Try.underlying3
  u4 := Try.underlying4
  u24 := Try.underlying24
  u79 := Try.underlying79
  u64 := Try.underlying64
  u31 := Try.underlying31
  u80 := Try.underlying80
  u22 := Try.underlying22
  u26 := Try.underlying26
  u27 := Try.underlying27
  u25 := Try.underlying25
  u29 := Try.underlying29
  u32 := Try.underlying32
  c79 := ⟨by kernel_rfl, by kernel_rfl⟩
  c80 := ⟨by kernel_rfl, by kernel_rfl⟩
  c64 := ⟨by kernel_rfl, by kernel_rfl⟩
  c31 := ⟨by kernel_rfl, by kernel_rfl⟩
  c4 := ⟨by kernel_rfl, by kernel_rfl⟩
  c3 := ⟨by kernel_rfl, by kernel_rfl⟩
end Go.Proofs
